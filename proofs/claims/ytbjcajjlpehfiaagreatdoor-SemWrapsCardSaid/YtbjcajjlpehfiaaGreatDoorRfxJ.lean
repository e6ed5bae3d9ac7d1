/- What is defined and proved here: when the evaluator's heap stands for Go's memory; what reading, writing and making blocks do to that. No condition. -/
import Derived.Test.YtbjcajjlpehfiaaGreatDoorRfxI
import Derived.Laws.Cells
import Derived.Laws.Rows
set_option linter.unusedVariables false
set_option linter.unusedSectionVars false
set_option linter.unusedSimpArgs false
set_option linter.constructorNameAsVariable false
namespace Go.Rfx
open Go
variable [Sy]

def B.ro : B → Bool
  | .c _ ro _ => ro
  | .m _ => false

/-- a block stands for one of Go's -/
def RB (φ : Phi) (b : B) (ri : RI) (o : Option Obj) : Prop :=
  match b with
  | .c l ro cl => ∃ cs t fr, o = some (.cells cs t fr) ∧ cs.size = ri.n ∧ l.length ≤ ri.n ∧ (∀ (j : Nat) (v : V), l[j]? = some v → ∃ x, cs[j]? = some x ∧ RV φ v x) ∧
      (ro = false → ∀ j, j < ri.n → ¬ (fr.1 ≤ j ∧ j < fr.2)) ∧ (cl = true → fr = (0, 0))
  | .m es => ∃ ents clk, o = some (.map ents clk) ∧ es.length = ents.size ∧ ∀ (j : Nat) (e : V × V), es[j]? = some e → ∃ x, ents[j]? = some x ∧ RV φ e.1 x.key ∧ RV φ e.2 x.val
theorem RB.mono {φ φ' : Phi} (e : Ext φ φ') {b : B} {ri : RI} {o : Option Obj} (h : RB φ b ri o) : RB φ' b ri o := by
  cases b with
  | c l ro cl =>
    obtain ⟨cs, t, fr, h1, h2, h3, h4, h5⟩ := h
    exact ⟨cs, t, fr, h1, h2, h3, fun j v hv => let ⟨x, hx, hr⟩ := h4 j v hv; ⟨x, hx, hr.mono e⟩, h5⟩
  | m es =>
    obtain ⟨ents, clk, h1, h2, h3⟩ := h
    exact ⟨ents, clk, h1, h2, fun j q hq => let ⟨x, hx, hr, hs⟩ := h3 j q hq; ⟨x, hx, hr.mono e, hs.mono e⟩⟩

/-- the package variables, and one number behind them: the types' handles -/
def gN (p : Program) : Nat := p.globals.size + (if p.globals.size = 0 then 0 else 1)
theorem gN_le {p : Program} {g : Nat} (h : g < p.globals.size) : g < gN p := by unfold gN; omega
/-- the evaluator's heap stands for Go's memory -/
structure RW (p : Program) (φ : Phi) (h : H) (w : World) : Prop where
  blk : ∀ (k : K) (b : B), h.get k = some b → ∃ ri, φ k = some ri ∧ RB φ b ri w.heap[ri.b]?
  inj : ∀ (k k' : K) (b b' : B) (ri ri' : RI), h.get k = some b → h.get k' = some b' → φ k = some ri → φ k' = some ri' → ri.b = ri'.b → k = k'
  dom : ∀ k : K, h.nx.num ≤ k.num → φ k = none
  gl : ∀ g, g < gN p → ∃ ri, φ (K.of g) = some ri ∧ ri.b = g

/-- a block of Go's that may be written -/
def Lv (φ : Phi) (h : H) (b : Nat) : Prop := ∃ k q ri, h.get k = some q ∧ q.ro = false ∧ φ k = some ri ∧ ri.b = b

/-- a block of Go's that is named -/
def Nm (φ : Phi) (h : H) (b : Nat) : Prop := ∃ k q ri, h.get k = some q ∧ φ k = some ri ∧ ri.b = b

/-- what stays: all blocks but those that may be written; what may be written is of these, or new; N: what may be named anew -/
structure Kp (N : K → Prop) (φ : Phi) (h : H) (w : World) (φ' : Phi) (h' : H) (w' : World) : Prop where
  os : w'.os = w.os
  tape : w'.tape = w.tape
  out : w'.output = w.output
  size : w.heap.size ≤ w'.heap.size
  ext : Ext φ φ'
  blk : ∀ b, b < w.heap.size → ¬ Lv φ h b → w'.heap[b]? = w.heap[b]? ∧ ¬ Lv φ' h' b
  new : ∀ k, φ k = none → φ' k ≠ none → N k
  nx : h.nx.num ≤ h'.nx.num
  nm : ∀ b, b < w.heap.size → ¬ Nm φ h b → ¬ Nm φ' h' b

theorem Kp.refl (N : K → Prop) (φ : Phi) (h : H) (w : World) : Kp N φ h w φ h w := ⟨rfl, rfl, rfl, Nat.le_refl _, Ext.refl _, fun _ _ hn => ⟨rfl, hn⟩, fun _ h1 h2 => absurd h1 h2, Nat.le_refl _, fun _ _ h => h⟩
theorem Kp.trans {N N' : K → Prop} {φ φ1 φ2 : Phi} {h h1 h2 : H} {w w1 w2 : World} (a : Kp N φ h w φ1 h1 w1) (b : Kp N' φ1 h1 w1 φ2 h2 w2) (hN : ∀ k, N' k → N k) : Kp N φ h w φ2 h2 w2 :=
  ⟨b.os.trans a.os, b.tape.trans a.tape, b.out.trans a.out, Nat.le_trans a.size b.size, a.ext.trans b.ext,
    fun k hk hn => let ⟨e1, n1⟩ := a.blk k hk hn; let ⟨e2, n2⟩ := b.blk k (Nat.lt_of_lt_of_le hk a.size) n1; ⟨e2.trans e1, n2⟩,
    fun k h1 h2 => by
      cases h : φ1 k with
      | none => exact hN k (b.new k h h2)
      | some ri => exact a.new k h1 (by rw [h]; exact fun e => by cases e),
    Nat.le_trans a.nx b.nx, fun k hk hn => b.nm k (Nat.lt_of_lt_of_le hk a.size) (a.nm k hk hn)⟩
theorem Kp.weaken {N N' : K → Prop} {φ φ' : Phi} {h h' : H} {w w' : World} (a : Kp N φ h w φ' h' w') (hN : ∀ k, N k → N' k) : Kp N' φ h w φ' h' w' :=
  ⟨a.os, a.tape, a.out, a.size, a.ext, a.blk, fun k h1 h2 => hN k (a.new k h1 h2), a.nx, a.nm⟩

/-! ### the heap's own functions -/
theorem H.set_mk (t : T B) (nx i : K) (b : B) : (H.mk t nx).set i b = .mk (T.put (some b) i t) nx := T.fc_eq _ (fun t => H.mk t nx)
theorem H.del_mk (t : T B) (nx i : K) : (H.mk t nx).del i = .mk (T.put none i t) nx := T.fc_eq _ (fun t => H.mk t nx)
theorem H.get_set_same (h : H) (i : K) (b : B) : (h.set i b).get i = some b := by
  cases h with | mk t nx => rw [H.set_mk]; exact T.get_put_same _ _ _
theorem H.get_set_other (h : H) {i j : K} (b : B) (hne : j ≠ i) : (h.set i b).get j = h.get j := by
  cases h with | mk t nx => rw [H.set_mk]; exact T.get_put_other _ hne _
theorem H.get_del_same (h : H) (i : K) : (h.del i).get i = none := by
  cases h with | mk t nx => rw [H.del_mk]; exact T.get_put_same _ _ _
theorem H.get_del_other (h : H) {i j : K} (hne : j ≠ i) : (h.del i).get j = h.get j := by
  cases h with | mk t nx => rw [H.del_mk]; exact T.get_put_other _ hne _
theorem H.nx_set (h : H) (i : K) (b : B) : (h.set i b).nx = h.nx := by
  cases h with | mk t nx => rw [H.set_mk]; rfl
theorem H.nx_del (h : H) (i : K) : (h.del i).nx = h.nx := by
  cases h with | mk t nx => rw [H.del_mk]; rfl
theorem H.get_up (h : H) (i : K) : h.up.get i = h.get i := by cases h; rfl
theorem H.nx_up (h : H) : h.up.nx.num = h.nx.num + 1 := by cases h with | mk t nx => exact K.num_succ nx
theorem H.get_bump (h : H) (n : Nat) (i : K) : (h.bump n).get i = h.get i := by cases h; rfl
theorem H.nx_bump (h : H) (n : Nat) : (h.bump n).nx.num = h.nx.num + n := by cases h with | mk t nx => exact kAdd_num nx n

section
variable {p : Program} {φ : Phi} {h : H} {w : World}
theorem RW.up (r : RW p φ h w) : RW p φ h.up w :=
  ⟨fun k b hk => r.blk k b (by rwa [H.get_up] at hk), fun k k' b b' ri ri' h1 h2 => r.inj k k' b b' ri ri' (by rwa [H.get_up] at h1) (by rwa [H.get_up] at h2), fun k hk => r.dom k (by rw [H.nx_up] at hk; omega), r.gl⟩
theorem RW.bump (r : RW p φ h w) (n : Nat) : RW p φ (h.bump n) w :=
  ⟨fun k b hk => r.blk k b (by rwa [H.get_bump] at hk), fun k k' b b' ri ri' h1 h2 => r.inj k k' b b' ri ri' (by rwa [H.get_bump] at h1) (by rwa [H.get_bump] at h2), fun k hk => r.dom k (by rw [H.nx_bump] at hk; omega), r.gl⟩
theorem RW.drew (r : RW p φ h w) : RW p φ h { w with drawn := w.drawn + 1 } := ⟨r.blk, r.inj, r.dom, r.gl⟩
theorem RW.heap (r : RW p φ h w) {w' : World} (e : w'.heap = w.heap) : RW p φ h w' := ⟨fun k b hk => by rw [e]; exact r.blk k b hk, r.inj, r.dom, r.gl⟩

/-- the cells of a block -/
theorem RW.cell (r : RW p φ h w) {i : K} {ri : RI} {l : List V} {ro cl : Bool} (hg : h.get i = some (.c l ro cl)) (hi : φ i = some ri) {j : Nat} {v : V} (hv : l[j]? = some v) : ∃ x, w.cell? ⟨ri.b, j, none⟩ = some x ∧ RV φ v x := by
  obtain ⟨ri', hri', cs, t, fr, h1, h2, h3, h4, h5⟩ := r.blk i _ hg
  rw [hi] at hri'
  injection hri' with e
  subst e
  obtain ⟨x, hx, hr⟩ := h4 j v hv
  exact ⟨x, by simp [World.cell?, h1, hx], hr⟩
theorem RW.loads (r : RW p φ h w) {i : K} {ri : RI} {l : List V} {ro cl : Bool} (hg : h.get i = some (.c l ro cl)) (hi : φ i = some ri) {o n : Nat} (hn : n ≤ l.length - o) :
    ∃ xs : List Value, (loadCells ⟨ri.b, o, none⟩ n).run p w = .ok xs.toArray w ∧ xs.length = n ∧ RVs φ ((l.drop o).take n) xs := by
  have key : ∀ j, j < n → ∃ x, w.cell? ((⟨ri.b, o, none⟩ : Addr).add j) = some x ∧ ∃ v, l[o + j]? = some v ∧ RV φ v x := by
    intro j hj
    have hlt : o + j < l.length := by omega
    obtain ⟨x, hx, hr⟩ := r.cell hg hi (List.getElem?_eq_getElem hlt)
    exact ⟨x, by rw [Addr.add_lit]; exact hx, _, List.getElem?_eq_getElem hlt, hr⟩
  let f : Nat → Value := fun j => (w.cell? ((⟨ri.b, o, none⟩ : Addr).add j)).getD undef
  have hf : ∀ j, j < n → w.cell? ((⟨ri.b, o, none⟩ : Addr).add j) = some (f j) := by
    intro j hj
    obtain ⟨x, hx, _⟩ := key j hj
    show _ = some ((w.cell? ((⟨ri.b, o, none⟩ : Addr).add j)).getD undef)
    rw [hx]; rfl
  refine ⟨(List.range n).map f, run_loadCells w _ n f hf, by simp, RVs.of_get (by simp; omega) ?_⟩
  intro j v hv
  rw [List.getElem?_take] at hv
  split at hv
  · rename_i hj
    rw [List.getElem?_drop] at hv
    obtain ⟨x, hx, u, hu, hr⟩ := key j hj
    rw [hv] at hu
    injection hu with hu
    subst hu
    refine ⟨x, ?_, hr⟩
    rw [List.getElem?_map, List.getElem?_range hj]
    show some (f j) = some x
    have := hf j hj
    rw [hx] at this
    exact this.symm
  · cases hv
end

/-- storing into a block -/
theorem run_st (p : Program) (g o : Nat) (t : TypeId) (fr : Nat × Nat) : ∀ (vs : List Value) (i : Nat) (cur : Array Value) (w : World), w.heap[g]? = some (.cells cur t fr) → (∀ j, j < cur.size → ¬ (fr.1 ≤ j ∧ j < fr.2)) →
    o + i + vs.length ≤ cur.size → (∀ v ∈ vs, v.oneCell' = true) →
    ∃ w' cur', (storeCells ⟨g, o, none⟩ vs i).run p w = .ok () w' ∧ w'.heap[g]? = some (.cells cur' t fr) ∧ cur'.toList = cur.toList.take (o + i) ++ (vs ++ cur.toList.drop (o + i + vs.length)) ∧
      w'.heap.size = w.heap.size ∧ (∀ b, b ≠ g → w'.heap[b]? = w.heap[b]?) ∧ w'.os = w.os ∧ w'.tape = w.tape ∧ w'.output = w.output
  | [], i, cur, w, hg, hf, hle, h1 => ⟨w, cur, rfl, hg, by simp, rfl, fun _ _ => rfl, rfl, rfl, rfl⟩
  | v :: r, i, cur, w, hg, hf, hle, h1 => by
    simp only [List.length_cons] at hle
    have hlt : o + i < cur.size := by omega
    have hc : w.cell? ⟨g, o + i, none⟩ = some cur[o + i] := by simp [World.cell?, hg, hlt]
    have hz : w.frozen? ⟨g, o + i, none⟩ = false := by
      have := hf (o + i) hlt
      obtain ⟨lo, hi⟩ := fr
      simp only [World.frozen?, hg]
      simp only [Bool.and_eq_false_imp, decide_eq_true_iff, decide_eq_false_iff_not]
      exact fun a b => this ⟨a, b⟩
    have hst : (store ((⟨g, o, none⟩ : Addr).add i) v).run p w = .ok () (w.setCell ⟨g, o + i, none⟩ v) := by
      rw [Addr.add_lit, run_store p w _ v _ (h1 v (by simp))]
      simp [hc, hz]
    have hg' : (w.setCell ⟨g, o + i, none⟩ v).heap[g]? = some (.cells (cur.setIfInBounds (o + i) v) t fr) := by
      simp [World.setCell, Array.getElem?_modify, hg]
    obtain ⟨w', cur', hrun, hb, hl, hs, ho, h2, h3, h4⟩ := run_st p g o t fr r (i + 1) (cur.setIfInBounds (o + i) v) (w.setCell ⟨g, o + i, none⟩ v) hg' (fun j hj => hf j (by simpa using hj)) (by simp; omega) (fun x hx => h1 x (by simp [hx]))
    refine ⟨w', cur', ?_, hb, ?_, hs.trans (by simp), fun b hb => (ho b hb).trans ?_, h2, h3, h4⟩
    · simp only [storeCells, Sem.run_bind, hst, Result.andThen_ok, hrun]
    · rw [hl, Array.toList_setIfInBounds]
      have hlt' : o + i < cur.toList.length := by simpa using hlt
      have e1 : o + (i + 1) = o + i + 1 := by omega
      have e2 : o + i + 1 + r.length = o + i + (v :: r).length := by simp; omega
      rw [e1, take_set v _ _ hlt', drop_set v _ _ _ (by omega), e2]
      simp
    · simp only [World.setCell, Array.getElem?_modify]
      rw [if_neg (fun e => hb e.symm)]
end Go.Rfx
