/- What is proved here: stores, map entries: in Go's own run memory comes that is related to the evaluator's. The conditions are the relations of operands and of memory. -/
import Derived.Test.YtbjcajjlpehfiaaGreatDoorRfxO
set_option linter.unusedVariables false
set_option linter.unusedSectionVars false
set_option linter.unusedSimpArgs false
set_option linter.constructorNameAsVariable false
namespace Go.Rfx
open Go
variable [Sy]

theorem okO_ok {o : Option OR} {v : V} {h : H} (hv : okO o = .ok v h) : o = some (.ok v h) := by
  cases o with
  | none => cases hv
  | some r => exact congrArg some hv
theorem V.one_rel {φ : Phi} {v : V} {x : Value} (h : RV φ v x) (h1 : v.one = true) : x.oneCell' = true := by
  cases h <;> first | rfl | cases h1
theorem ones_rel {φ : Phi} : ∀ {l : List V} {xs : List Value}, RVs φ l xs → ones l = true → ∀ x ∈ xs, x.oneCell' = true
  | [], xs, h, h1, x, hx => by cases h; cases hx
  | v :: l, xs, h, h1, x, hx => by
    cases h with
    | cons _ y _ ys hv hs =>
      have h2 : v.one = true ∧ ones l = true := by
        have : (Bool.casesOn v.one false (ones l) : Bool) = true := h1
        cases hq : v.one with
        | false => rw [hq] at this; cases this
        | true => rw [hq] at this; exact ⟨rfl, this⟩
      rcases List.mem_cons.1 hx with rfl | hx
      · exact V.one_rel hv h2.1
      · exact ones_rel hs h2.2 x hx

/-- cells stand for the first of these -/
def RVp (φ : Phi) (l : List V) (xs : List Value) : Prop := ∀ (j : Nat) (v : V), l[j]? = some v → ∃ x, xs[j]? = some x ∧ RV φ v x
theorem RVs.p {φ : Phi} {l : List V} {xs : List Value} (h : RVs φ l xs) : RVp φ l xs := fun j v hv => h.get j v hv
theorem RVp.append {φ : Phi} {l m : List V} {xs ys : List Value} (h : RVs φ l xs) (k : RVp φ m ys) : RVp φ (l ++ m) (xs ++ ys) := by
  intro j v hv
  have hl := h.length
  by_cases hj : j < l.length
  · rw [List.getElem?_append_left hj] at hv
    obtain ⟨x, hx, hr⟩ := h.get j v hv
    exact ⟨x, by rw [List.getElem?_append_left (by omega)]; exact hx, hr⟩
  · rw [List.getElem?_append_right (by omega)] at hv
    obtain ⟨x, hx, hr⟩ := k _ v hv
    exact ⟨x, by rw [List.getElem?_append_right (by omega), ← hl]; exact hx, hr⟩
theorem RVp.take {φ : Phi} {l : List V} {xs : List Value} (h : RVp φ l xs) {n : Nat} (hn : n ≤ l.length) (hx : l.length ≤ xs.length) : RVs φ (l.take n) (xs.take n) :=
  RVs.of_get (by simp; omega) fun j v hv => by
    rw [List.getElem?_take] at hv
    split at hv
    · rename_i hj
      obtain ⟨x, hx, hr⟩ := h j v hv
      exact ⟨x, by rw [List.getElem?_take, if_pos hj]; exact hx, hr⟩
    · cases hv
theorem RVp.drop {φ : Phi} {l : List V} {xs : List Value} (h : RVp φ l xs) (n : Nat) : RVp φ (l.drop n) (xs.drop n) := fun j v hv => by
  rw [List.getElem?_drop] at hv ⊢
  exact h _ v hv
theorem RVp.over {φ : Phi} {l c : List V} {xs ys : List Value} (h : RVp φ l xs) (k : RVs φ c ys) {o : Nat} (ho : o + c.length ≤ l.length) (hx : l.length ≤ xs.length) :
    RVp φ (l.take o ++ (c ++ l.drop (o + c.length))) (xs.take o ++ (ys ++ xs.drop (o + ys.length))) :=
  RVp.append (h.take (by omega) hx) (RVp.append k (by rw [← k.length]; exact h.drop _))
theorem RVp.len {φ : Phi} {l : List V} {xs : List Value} (h : RVp φ l xs) : l.length ≤ xs.length := by
  rcases Nat.lt_or_ge xs.length l.length with hlt | hge
  · obtain ⟨x, hx, _⟩ := h xs.length _ (List.getElem?_eq_getElem hlt)
    rw [List.getElem?_eq_none (Nat.le_refl _)] at hx; cases hx
  · exact hge

section
variable {p : Program} {φ : Phi} {F : T V} {ρ : Operand → Value} {h h' : H} {w : World} {o : Oper} {v : V} {nid : K}

theorem RW.cellsAt (r : RW p φ h w) {i : K} {ri : RI} {l : List V} {ro cl : Bool} (hg : h.get i = some (.c l ro cl)) (hi : φ i = some ri) :
    ∃ cs t fr, w.heap[ri.b]? = some (.cells cs t fr) ∧ cs.size = ri.n ∧ RVp φ l cs.toList ∧ (ro = false → ∀ j, j < ri.n → ¬ (fr.1 ≤ j ∧ j < fr.2)) ∧ (cl = true → fr = (0, 0)) := by
  obtain ⟨ri', hri', cs, t, fr, h1, h2, h3, h4, h5, h6⟩ := r.blk i _ hg
  rw [hi] at hri'
  injection hri' with e
  subst e
  exact ⟨cs, t, fr, h1, h2, fun j v hv => by simpa using h4 j v hv, h5, h6⟩
theorem RB.ofp {l : List V} {cs : Array Value} {t : TypeId} {fr : Nat × Nat} {ri : RI} {ro cl : Bool} (hn : cs.size = ri.n) (hp : RVp φ l cs.toList) (h5 : ro = false → ∀ j, j < ri.n → ¬ (fr.1 ≤ j ∧ j < fr.2)) (h6 : cl = true → fr = (0, 0)) :
    RB φ (.c l ro cl) ri (some (.cells cs t fr)) :=
  ⟨cs, t, fr, rfl, hn, by have := hp.len; simpa [hn] using this, fun j v hv => by simpa using hp j v hv, h5, h6⟩
/-- these cells are written over those from there on -/
theorem RW.over (r : RW p φ h w) {i : K} {ri : RI} {l c : List V} {cl : Bool} (hg : h.get i = some (.c l false cl)) (hi : φ i = some ri) {o : Nat} {vs : List Value} (hc : RVs φ c vs) (h1 : ∀ x ∈ vs, x.oneCell' = true) (ho : o + c.length ≤ l.length) :
    ∃ w', (storeCells ⟨ri.b, o, none⟩ vs).run p w = .ok () w' ∧ RW p φ (h.set i (.c (l.take o ++ (c ++ l.drop (o + c.length))) false cl)) w' ∧
      Kp (fun _ => False) φ h w φ (h.set i (.c (l.take o ++ (c ++ l.drop (o + c.length))) false cl)) w' := by
  obtain ⟨cs, t, fr, g1, g2, g3, g4, g5⟩ := r.cellsAt hg hi
  have hlen : l.length ≤ cs.size := by have := g3.len; simpa using this
  obtain ⟨w', cur', e1, e2, e3, e4, e5, e6, e7, e8⟩ := run_st p ri.b o t fr vs 0 cs w g1 (fun j hj => g4 rfl j (by omega)) (by have := hc.length; omega) h1
  have hsz : cur'.size = ri.n := by
    have := congrArg List.length e3
    have h2 := hc.length
    simp only [List.length_append, List.length_take, List.length_drop, Nat.add_zero] at this
    have a1 : cur'.toList.length = cur'.size := by simp
    have a2 : cs.toList.length = cs.size := by simp
    rw [a1, a2] at this
    omega
  obtain ⟨k1, k2⟩ := r.write (w' := w') hg hi rfl (b1 := .c (l.take o ++ (c ++ l.drop (o + c.length))) false cl) rfl e2 e4 e5 e6 e7 e8 (RB.ofp hsz (by rw [e3]; exact g3.over hc ho (by simpa using hlen)) (fun _ => g4 rfl) g5)
  exact ⟨w', e1, k1, k2⟩

theorem s_st {t : TypeId} {n : Nat} {x y : Operand} {a b : A} (hp : OpR p φ F ρ) (r : RW p φ h w) (ho : o.op = .store t x y) (hn : tSize p t = some n) (ha : cA p x = some a) (hb : cA p y = some b) (hv : eSt F h n a b = .ok v h') :
    v = .u ∧ ∃ w', (execOp ρ o).run p w = .ok .skip w' ∧ RW p φ h' w' ∧ Kp (fun _ => False) φ h w φ h' w' := by
  have v0 := okO_ok hv
  obtain ⟨q, hx, v1⟩ := hp.take ha v0
  obtain ⟨i, o', rfl, v2⟩ := pK_some v1
  obtain ⟨q2, hy, v3⟩ := hp.take hb v2
  obtain ⟨c, hc, v4⟩ := ob_eq.1 v3
  obtain ⟨hl, v5⟩ := bcT v4
  obtain ⟨h1, v6⟩ := bcT v5
  obtain ⟨bb, hbb, v7⟩ := ob_eq.1 v6
  obtain ⟨l, ro, cl, rfl, v8⟩ := bC_some v7
  obtain ⟨rfl, v9⟩ := bcF v8
  obtain ⟨l', hl', v10⟩ := ob_eq.1 v9
  obtain ⟨hle, rfl⟩ := overL_some.1 hl'
  injection v10 with v10
  injection v10 with e1 e2
  subst e1; subst e2
  have hcs := hy.cells hc
  generalize hρ : ρ x = z at hx
  cases hx with | p _ _ ri hri =>
  obtain ⟨w', k1, k2, k3⟩ := r.over hbb hri hcs (ones_rel hcs h1) hle
  have hsz : (ρ y).cells.size = n := by
    have h1 := hcs.length
    have h2 := (beq_iff _ _).1 hl
    rw [lenL_eq] at h2
    have h3 : (ρ y).cells.toList.length = (ρ y).cells.size := by simp
    omega
  refine ⟨rfl, w', ?_, k2, k3⟩
  simp only [execOp, ho, hρ, Instr.storeAt, Instr.sureAddr, storeVar, Sem.run_bind, Sem.run_pure, Result.andThen_ok, tSize_run hn, hsz, ne_eq, not_true_eq_false, if_false, k1]

/-- keys that are one have one form -/
theorem key_same {kk : KK} {k e : V} {kx ex : Value} (hq : keyEq h kk k e = some true) (hk : RV φ k kx) (he : RV φ e ex) : ex = kx := by
  cases kk with
  | i =>
    obtain ⟨k1, a1, rfl, h1⟩ := iK_some hq
    obtain ⟨k2, a2, rfl, h2⟩ := iK_some h1
    obtain ⟨h3, h4⟩ := bcT h2
    injection h4 with h4
    rw [ieq_eq, decide_eq_true_iff] at h4
    rw [eqK_eq, decide_eq_true_iff] at h3
    subst h3; subst h4
    cases hk; cases he; rfl
  | s =>
    obtain ⟨a1, rfl, h1⟩ := sK_some hq
    obtain ⟨a2, rfl, h2⟩ := sK_some h1
    injection h2 with h2
    rw [eqL_eq] at h2
    have h3 := eq_of_beq h2
    subst h3
    cases hk with | s _ s1 e1 =>
    cases he with | s _ s2 e2 =>
    have : s1.data.toList = s2.data.toList := by
      apply List.map_inj_right (f := UInt8.toNat) (fun a b hab => UInt8.toNat_inj.1 hab) |>.1
      rw [e1, e2]
    cases s1 with | mk d1 => cases s2 with | mk d2 =>
    have : d1 = d2 := Array.toList_inj.1 this
    rw [this]
  | p =>
    obtain ⟨i1, o1, rfl, h1⟩ := pK_some hq
    obtain ⟨i2, o2, rfl, h2⟩ := pK_some h1
    obtain ⟨_, h3⟩ := bcT h2
    obtain ⟨_, h4⟩ := bcT h3
    injection h4 with h4
    cases hk with | p _ _ r1 e1 =>
    cases he with | p _ _ r2 e2 =>
    cases hK : K.eq i1 i2 with
    | false => rw [hK] at h4; cases h4
    | true =>
      rw [hK] at h4
      have := K.eq_iff.1 hK
      subst this
      have := (beq_iff _ _).1 h4
      subst this
      rw [e1] at e2
      injection e2 with e2
      subst e2
      rfl
theorem bytes_beq_self (s : ByteArray) : (s == s) = true := by
  cases s with | mk d => show (d == d) = true; simp
theorem sameBits_key {kk : KK} {k : V} {kx : Value} {n : Nat} (hok : okKey kk k = true) (hk : RV φ k kx) : Instr.sameBits n kx kx = true := by
  cases kk with
  | i => cases hk <;> first | (cases hok; done) | simp [Instr.sameBits]
  | s => cases hk <;> first | (cases hok; done) | (simp only [Instr.sameBits]; exact bytes_beq_self _)
  | p => cases hk <;> first | (cases hok; done) | simp [Instr.sameBits]
theorem run_setMap {g : Nat} {ents : Array MapEntry} {clk : Nat} (hg : w.heap[g]? = some (.map ents clk)) (o' : Obj) : (setObj g o').run p w = .ok () { w with heap := w.heap.setIfInBounds g o' } := by simp [setObj, Sem.run, hg]

theorem s_mu {t kt et : TypeId} {kk : KK} {m k x : Operand} {a b c : A} (hp : OpR p φ F ρ) (r : RW p φ h w) (ho : o.op = .mapUpdate t m k x ∨ o.op = .insert t m k x) (ht : p.underlying t = some (.map kt et)) (hkk : kkOf p kt = some kk)
    (ha : cA p m = some a) (hb : cA p k = some b) (hc : cA p x = some c) (hv : eMu F h kk a b c = .ok v h') :
    v = .u ∧ ∃ w', (execOp ρ o).run p w = .ok .skip w' ∧ RW p φ h' w' ∧ Kp (fun _ => False) φ h w φ h' w' := by
  have v0 := okO_ok hv
  obtain ⟨q, hm, v1⟩ := hp.take ha v0
  rcases mK_some v1 with ⟨_, v2⟩ | ⟨j, rfl, v2⟩
  · cases v2
  obtain ⟨kv, hk, v3⟩ := hp.take hb v2
  obtain ⟨xv, hx, v4⟩ := hp.take hc v3
  obtain ⟨hok, v5⟩ := bcT v4
  obtain ⟨bb, hbb, v6⟩ := ob_eq.1 v5
  obtain ⟨es, rfl, v7⟩ := bM_some v6
  obtain ⟨es', hes, v8⟩ := ob_eq.1 v7
  injection v8 with v8
  injection v8 with e1 e2
  subst e1; subst e2
  obtain ⟨fi, hfi, hup⟩ := upd_fidx hes
  generalize hρ : ρ m = z at hm
  cases hm with | m _ ri hri =>
  obtain ⟨ents, clk, hmap, hrel⟩ := r.mapAt hbb hri
  obtain ⟨R, hR, hfnd⟩ := run_findKey r hkk hk hrel hfi
  have hck : ∀ e', (Instr.checkKey e' 10000 kt (ρ k)).run p w = .ok () w := fun e' => run_checkKey hkk e' 9999 _
  have hlt : ri.b < w.heap.size := r.lt hbb hri
  have fin : ∀ (ents' : Array MapEntry) (clk' : Nat), REs φ es' ents'.toList →
      RW p φ (h.set j (.m es')) { w with heap := w.heap.setIfInBounds ri.b (.map ents' clk') } ∧ Kp (fun _ => False) φ h w φ (h.set j (.m es')) { w with heap := w.heap.setIfInBounds ri.b (.map ents' clk') } := by
    intro ents' clk' hre
    refine r.write (obj := .map ents' clk') hbb hri rfl rfl ?_ (by simp) (fun b hb => ?_) rfl rfl rfl ⟨ents', clk', rfl, by simpa using hre.1, fun j e he => by simpa using hre.2 j e he⟩
    · simp [hlt]
    · simp [Array.getElem?_setIfInBounds, Ne.symm hb]
  have hrun : ∀ w', (Instr.mapUpdate t (ρ m) (ρ k) (ρ x)).run p w = .ok () w' → (execOp ρ o).run p w = .ok .skip w' := by
    intro w' e
    rcases ho with ho | ho <;> simp only [execOp, ho, Sem.run_bind, e, Result.andThen_ok, Sem.run_pure]
  cases fi with
  | none =>
    have hR0 : R = none := hfnd
    subst hR0
    have hup' : es' = es ++ [(kv, xv)] := hup
    obtain ⟨f1, f2⟩ := fin (ents.push { key := ρ k, val := ρ x, born := clk }) (clk + 1) ⟨by rw [hup']; have := hrel.1; simp at this ⊢; exact this, fun n e he => by
      rw [hup'] at he
      by_cases hn : n < es.length
      · rw [List.getElem?_append_left hn] at he
        obtain ⟨y, hy, hh⟩ := hrel.2 n e he
        exact ⟨y, by rw [Array.toList_push, List.getElem?_append_left (by have := hrel.1; omega)]; exact hy, hh⟩
      · rw [List.getElem?_append_right (by omega)] at he
        have hn' : n = es.length := by
          rcases Nat.lt_or_ge es.length n with h1 | h1
          · rw [List.getElem?_eq_none (by simp; omega)] at he; cases he
          · omega
        subst hn'
        rw [Nat.sub_self] at he
        injection he with he
        subst he
        refine ⟨{ key := ρ k, val := ρ x, born := clk }, ?_, hk, hx⟩
        rw [Array.toList_push, hrel.1, List.getElem?_append_right (by omega)]; simp⟩
    refine ⟨rfl, _, hrun _ ?_, f1, f2⟩
    simp only [Instr.mapUpdate, Sem.run_bind, run_underlying ht, Result.andThen_ok, hρ, run_getMap hmap, hck, hR, run_setMap hmap]
  | some n =>
    obtain ⟨e, he, rfl⟩ := hfnd
    obtain ⟨⟨e0, he0, hke⟩, hes'⟩ : (∃ e, es[n]? = some e ∧ keyEq h kk kv e.1 = some true) ∧ es' = es.set n (kv, xv) := hup
    obtain ⟨e3, he3, hkr, _⟩ := hrel.2 n e0 he0
    rw [he] at he3
    injection he3 with he3
    subst he3
    have hkey : e.key = ρ k := key_same hke hk hkr
    have hen : ents[n]? = some e := by rw [← Array.getElem?_toList]; exact he
    have hstay : (Instr.keyThatStays (((ents[n]?).map (·.key)).getD (ρ k)) (ρ k)).run p w = .ok (ρ k) w := by
      rw [hen]
      simp only [Option.map_some, Option.getD_some, hkey, Instr.keyThatStays, sameBits_key hok hk, if_true, Sem.run_pure]
    obtain ⟨f1, f2⟩ := fin (ents.modify n fun e => { e with key := ρ k, val := ρ x }) clk ⟨by rw [hes']; have := hrel.1; simp at this ⊢; exact this, fun q e' he' => by
      rw [hes', List.getElem?_set] at he'
      by_cases hq : n = q
      · subst hq
        rw [if_pos rfl] at he'
        split at he'
        · injection he' with he'
          subst he'
          refine ⟨{ e with key := ρ k, val := ρ x }, ?_, hk, hx⟩
          rw [Array.getElem?_toList, Array.getElem?_modify, if_pos rfl, hen]; rfl
        · cases he'
      · rw [if_neg hq] at he'
        obtain ⟨y, hy, hh⟩ := hrel.2 q e' he'
        exact ⟨y, by rw [Array.getElem?_toList, Array.getElem?_modify, if_neg hq, ← Array.getElem?_toList]; exact hy, hh⟩⟩
    refine ⟨rfl, _, hrun _ ?_, f1, f2⟩
    simp only [Instr.mapUpdate, Sem.run_bind, run_underlying ht, Result.andThen_ok, hρ, run_getMap hmap, hck, hR, Nat.zero_add, hstay, run_setMap hmap]
end
end Go.Rfx
