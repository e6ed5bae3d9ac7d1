/- What is proved here: rows of operations and code come, in Go's own run, to what the evaluator says. The conditions are the relations of slots and of memory; that the callees are served; regions whose order is open: each by itself. -/
import Derived.Test.YtbjcajjlpehfiaaGreatDoorRfxU
set_option linter.unusedVariables false
set_option linter.unusedSectionVars false
set_option linter.unusedSimpArgs false
set_option linter.constructorNameAsVariable false
namespace Go.Rfx
open Go
variable [Sy]

theorem cK_some {n : Nat} {k : K} (h : cK n = some k) : k.num = n := by
  unfold cK at h
  split at h
  · rename_i e
    injection h with h
    subst h; exact e
  · cases h

/-- slots stand for Go's -/
structure FR (nt : Nat) (φ : Phi) (F : T V) (a : Act) : Prop where
  tm : ∀ k v, T.get k F = some v → ∃ x, a.tmps[k.num]? = some x ∧ RV φ v x
  sz : nt ≤ a.tmps.size
  df : a.defers = []
section
variable {p : Program} {nt : Nat} {φ φ' : Phi} {F : T V} {a : Act} {h h' : H} {w w' : World} {cl : K → List V → H → OR}
theorem FR.mono (f : FR nt φ F a) (e : Ext φ φ') : FR nt φ' F a := ⟨fun k v hv => let ⟨x, hx, hr⟩ := f.tm k v hv; ⟨x, hx, hr.mono e⟩, f.sz, f.df⟩
theorem FR.put (f : FR nt φ F a) {k : K} {v : V} {x : Value} (hk : k.num < nt) (hr : RV φ v x) : FR nt φ (T.set v k F) (a.put (some k.num) x) := by
  refine ⟨fun j u hu => ?_, by simp [Act.put]; exact f.sz, by simp [Act.put]; exact f.df⟩
  by_cases e : j = k
  · subst e
    rw [T.set, T.get_put_same] at hu
    injection hu with hu
    subst hu
    have hlt : j.num < a.tmps.size := Nat.lt_of_lt_of_le hk f.sz
    exact ⟨x, by simp [Act.put, hlt], hr⟩
  · rw [T.set, T.get_put_other _ e] at hu
    obtain ⟨y, hy, hr⟩ := f.tm j u hu
    refine ⟨y, ?_, hr⟩
    have : k.num ≠ j.num := fun hh => e (K.num_inj hh.symm)
    simp [Act.put, Array.getElem?_setIfInBounds, this, hy]
theorem FR.ops (f : FR nt φ F a) (g : ∀ g, g < gN p → ∃ ri, φ (K.of g) = some ri ∧ ri.b = g) : OpR p φ F a.eval := by
  intro x ca v hc hv
  cases x with
  | tmp t =>
    simp only [cA, Option.map_eq_some_iff] at hc
    obtain ⟨k, hk, rfl⟩ := hc
    obtain ⟨y, hy, hr⟩ := f.tm k v hv
    rw [cK_some hk] at hy
    have : a.eval (.tmp t) = y := by simp [Act.eval, Array.getD_eq_getD_getElem?, hy]
    rw [this]; exact hr
  | const c =>
    simp only [cA, Option.map_eq_some_iff] at hc
    obtain ⟨u, hu, rfl⟩ := hc
    injection hv with hv
    subst hv
    exact cV_rel _ hu
  | global n =>
    simp only [cA] at hc
    split at hc
    · rename_i hlt
      simp only [Option.map_eq_some_iff] at hc
      obtain ⟨k, hk, rfl⟩ := hc
      injection hv with hv
      subst hv
      obtain ⟨ri, h1, h2⟩ := g n (gN_le hlt)
      have hkk : k = K.of n := by
        unfold cK at hk
        split at hk
        · injection hk with hk; exact hk.symm
        · cases hk
      rw [← hkk] at h1
      have := RV.p k 0 ri h1
      rw [h2] at this
      exact this
    · cases hc
  | func n =>
    simp only [cA, Option.map_eq_some_iff] at hc
    obtain ⟨k, hk, rfl⟩ := hc
    injection hv with hv
    subst hv
    have := RV.f (φ := φ) k [] [] #[] #[] .nil .nil
    rw [cK_some hk] at this
    exact this

/-- where the value goes; under what it is done -/
def DstOK (nt : Nat) (d : Option K) (t : Option Tmp) : Prop := match d with | none => t = none | some k => t = some k.num ∧ k.num < nt
def GdOK (nt : Nat) (ops : List Oper) (g : Option (K × Bool)) (t : Option (Nat × Bool)) : Prop := match g with | none => t = none | some kb => ∃ j q, t = some (j, kb.2) ∧ ops[j]? = some q ∧ q.dst = some kb.1.num ∧ kb.1.num < nt
theorem cDst_some {t : Option Tmp} {d : Option K} (h : cDst nt t = some d) : DstOK nt d t := by
  cases t with
  | none => injection h with h; subst h; rfl
  | some t =>
    simp only [cDst] at h
    split at h
    · rename_i hlt
      simp only [Option.map_eq_some_iff] at h
      obtain ⟨k, hk, rfl⟩ := h
      rw [← cK_some hk] at hlt
      exact ⟨by rw [cK_some hk], hlt⟩
    · cases h
theorem cGd_some {ops : List Oper} {t : Option (Nat × Bool)} {g : Option (K × Bool)} (h : cGd nt ops t = some g) : GdOK nt ops g t := by
  cases t with
  | none => injection h with h; subst h; rfl
  | some jb =>
    obtain ⟨j, b⟩ := jb
    simp only [cGd, Option.bind_eq_some_iff] at h
    obtain ⟨q, hq, t, ht, h⟩ := h
    split at h
    · rename_i hlt
      simp only [Option.map_eq_some_iff] at h
      obtain ⟨k, hk, rfl⟩ := h
      rw [← cK_some hk] at hlt
      exact ⟨j, q, rfl, hq, by rw [ht, cK_some hk], hlt⟩
    · cases h
/-- what operation becomes what -/
theorem cO_some {ops : List Oper} {o : Oper} {c : CO} (hc : cO p nt ops o = some c) : ∃ d g q, c = .mk d g q ∧ (cOp p o.op = some q ∨ q = .p .bad) ∧ DstOK nt d o.dst ∧ GdOK nt ops g o.guard := by
  simp only [cO, Option.bind_eq_some_iff, Option.some.injEq] at hc
  obtain ⟨d, hd, g, hg, rfl⟩ := hc
  refine ⟨d, g, _, rfl, ?_, cDst_some hd, cGd_some hg⟩
  cases hq : cOp p o.op with
  | none => exact .inr rfl
  | some q => exact .inl rfl
/-- what is put off is put off -/
theorem want_rel {ops : Array Oper} {o : Oper} {g : Option (K × Bool)} {b : Bool} (f : FR nt φ F a) (hg : GdOK nt ops.toList g o.guard) (hw : want F g = some b) : Region.wanted o (yielded ops a.tmps) = b := by
  cases g with
  | none =>
    injection hw with hw
    subst hw
    have hg' : o.guard = none := hg
    simp only [Region.wanted, hg']
  | some kb =>
    obtain ⟨k, b'⟩ := kb
    obtain ⟨j, q, h1, h2, h3, h4⟩ := hg
    obtain ⟨v, hv, h5⟩ := ob_eq.1 (show ob (T.get k F) (fun v => v.bK (some false) fun b => some (Bool.not (xorB b b'))) = some b from hw)
    obtain ⟨x, hx, hr⟩ := f.tm k v hv
    rw [Array.getElem?_toList] at h2
    have hy : yielded ops a.tmps j = (match x with | .bool b => some b | _ => none) := by
      simp only [yielded, h2, h3, hx, Option.bind_some]
      cases x <;> rfl
    simp only [Region.wanted, h1, hy]
    cases hr with
    | b c =>
      injection (show some (Bool.not (xorB c b')) = some b from h5) with h5
      subst h5
      rw [xorB_eq]; cases c <;> cases b' <;> rfl
    | _ => injection (show some false = some b from h5) with h5; first | done | (subst h5; first | done | rfl)
noncomputable def putF (d : Option K) (v : V) (F : T V) : T V := match d with | none => F | some j => T.set v j F
theorem putD_eq {β : Type} (d : Option K) (v : V) (F : T V) (k : T V → β) : putD d v F k = k (putF d v F) := by
  cases d with
  | none => rfl
  | some j => exact T.fc_eq _ _
theorem FR.putD {d : Option K} {o : Oper} {v : V} {x : Value} (f : FR nt φ F a) (hr : RV φ v x) (hd : DstOK nt d o.dst) : FR nt φ (putF d v F) (a.put o.dst x) := by
  cases d with
  | none => have hd' : o.dst = none := hd; rw [hd']; exact f
  | some k => obtain ⟨h1, h2⟩ := hd; rw [h1]; exact f.put h2 hr

/-- one step -/
theorem step_rel {ops : Array Oper} {o : Oper} {c : CO} {nid : K} {k : T V → H → R} {R0 : R} (hs : Snd p cl) (hc : cO p nt ops.toList o = some c) (f : FR nt φ F a) (r : RW p φ h w) (hn : φ nid = none) (hlt : nid.num < h.nx.num)
    (hv : ev1 cl F nid h c k = R0) (he : R0 ≠ .err) :
    ∃ F' h', k F' h' = R0 ∧ ((Region.wanted o (yielded ops a.tmps) = true ∧ Goes p a.eval o w fun x w' => ∃ φ', FR nt φ' F' (a.put o.dst x) ∧ RW p φ' h' w' ∧ Kp (fun k => k = nid ∨ h.nx.num ≤ k.num) φ h w φ' h' w') ∨
      (Region.wanted o (yielded ops a.tmps) = false ∧ h' = h ∧ FR nt φ F' (a.put o.dst undef))) := by
  obtain ⟨d, g, q, rfl, hq, hd, hg⟩ := cO_some hc
  cases hw : want F g with
  | none =>
    have : ev1 cl F nid h (.mk d g q) k = .err := by show (Option.casesOn (want F g) _ _ : R) = _; rw [hw]
    exact absurd (hv.symm.trans this) he
  | some b =>
    have hwant := want_rel (ops := ops) (o := o) f hg hw
    have e1 : ev1 cl F nid h (.mk d g q) k = Bool.casesOn b (putD d .u F fun F => k F h) (OR.casesOn (evO cl F nid h q) .err fun v h => putD d v F fun F => k F h) := by
      show (Option.casesOn (want F g) _ _ : R) = _; rw [hw]
    rw [e1] at hv
    cases b with
    | false =>
      have hv' : putD d .u F (fun F => k F h) = R0 := hv
      rw [putD_eq] at hv'
      exact ⟨_, h, hv', .inr ⟨hwant, rfl, f.putD .u hd⟩⟩
    | true =>
      have hv' : (OR.casesOn (evO cl F nid h q) .err fun v h => putD d v F fun F => k F h : R) = R0 := hv
      cases ho : evO cl F nid h q with
      | err => rw [ho] at hv'; exact absurd hv'.symm he
      | ok v h1 =>
        rw [ho] at hv'
        simp only [putD_eq] at hv'
        rcases hq with hq | rfl
        · refine ⟨_, h1, hv', .inl ⟨hwant, (ops_rel hs (f.ops r.gl) r hn hlt hq ho).mono ?_⟩⟩
          rintro x w' ⟨φ', k1, k2, k3⟩
          exact ⟨φ', (f.mono k3.ext).putD k1 hd, k2, k3⟩
        · cases ho
/-- operations in a row -/
theorem row_rel {ops : Array Oper} {Q : Exit → Act → World → Prop} {R0 : R} (hs : Snd p cl) (he : R0 ≠ .err) : ∀ (n i : Nat) (l : List CO) (φ : Phi) (F : T V) (h : H) (a : Act) (w : World), i + n = ops.size → (ops.toList.drop i).mapM (cO p nt ops.toList) = some l → FR nt φ F a → RW p φ h w → evL cl l F h = R0 →
    (∀ F' h' φ' a' w', R0 = .n F' h' → FR nt φ' F' a' → RW p φ' h' w' → Kp (fun k => h.nx.num ≤ k.num) φ h w φ' h' w' → Q .normal a' w') → wpOps p ops Q (List.range' i n) a w
  | 0, i, l, φ, F, h, a, w, hi, hl, f, r, hv, hQ => by
    have : ops.toList.drop i = [] := by apply List.drop_of_length_le; simp; omega
    rw [this] at hl
    simp at hl
    subst hl
    exact hQ F h φ a w hv.symm f r (Kp.refl _ _ _ _)
  | n + 1, i, l, φ, F, h, a, w, hi, hl, f, r, hv, hQ => by
    have hlt : i < ops.toList.length := by simp; omega
    rw [List.drop_eq_getElem_cons hlt, List.mapM_cons] at hl
    simp only [bind, Option.bind_eq_some_iff, pure] at hl
    obtain ⟨c, hc, l', hl', hl⟩ := hl
    injection hl with hl
    subst hl
    have hop : ops[i]? = some ops.toList[i] := by rw [← Array.getElem?_toList]; exact List.getElem?_eq_getElem hlt
    obtain ⟨F', h', hk, hst⟩ := step_rel (ops := ops) (nid := h.nx) (k := evL cl l') hs hc f r.up (r.dom _ (Nat.le_refl _)) (by rw [H.nx_up]; omega) hv he
    rw [List.range'_succ]
    have hN : ∀ k : K, (k = h.nx ∨ h.up.nx.num ≤ k.num) → h.nx.num ≤ k.num := by
      rintro k (rfl | hk)
      · exact Nat.le_refl _
      · rw [H.nx_up] at hk; omega
    have up : ∀ {φ' : Phi} {h' : H} {w' : World}, Kp (fun k => k = h.nx ∨ h.up.nx.num ≤ k.num) φ h.up w φ' h' w' → Kp (fun k => h.nx.num ≤ k.num) φ h w φ' h' w' := by
      intro φ' h' w' kp
      refine ⟨kp.os, kp.tape, kp.out, kp.size, kp.ext, fun b hb hn => kp.blk b hb fun hl => hn ?_, fun k h1 h2 => hN k (kp.new k h1 h2), by have := kp.nx; rw [H.nx_up] at this; omega, fun b hb hn => kp.nm b hb fun hl => hn (let ⟨k, q, ri, g1, g2⟩ := hl; ⟨k, q, ri, by rwa [H.get_up] at g1, g2⟩)⟩
      obtain ⟨k, q, ri, g1, g2⟩ := hl
      exact ⟨k, q, ri, by rwa [H.get_up] at g1, g2⟩
    show (match ops[i]? with
      | none => wpOps p ops Q (List.range' (i + 1) n) a w
      | some o => if Region.wanted o (yielded ops a.tmps) then o.wp p a w (wpOps p ops Q (List.range' (i + 1) n)) Q ∨ (o.asks p a w ∧ LetsOut Q) else wpOps p ops Q (List.range' (i + 1) n) (a.put o.dst undef) w)
    rw [hop]
    rcases hst with ⟨h1, g⟩ | ⟨h1, rfl, f'⟩
    · simp only [h1, if_true]
      refine .inl (g.wp fun x w' hr => ?_)
      obtain ⟨φ', f', r', kp⟩ := hr
      refine row_rel hs he n (i + 1) l' φ' F' h' _ w' (by omega) hl' f' r' hk fun F2 h2 φ2 a2 w2 e2 f2 r2 k2 => hQ F2 h2 φ2 a2 w2 e2 f2 r2 ((up kp).trans k2 fun k hk => Nat.le_trans ((up kp).nx) hk)
    · simp only [h1, if_false, Bool.false_eq_true]
      have kp := up (Kp.refl (fun k => k = h.nx ∨ h.up.nx.num ≤ k.num) φ h.up w)
      refine row_rel hs he n (i + 1) l' φ F' h.up _ w (by omega) hl' f' r.up hk fun F2 h2 φ2 a2 w2 e2 f2 r2 k2 => hQ F2 h2 φ2 a2 w2 e2 f2 r2 (kp.trans k2 fun k hk => Nat.le_trans kp.nx hk)
end
end Go.Rfx
