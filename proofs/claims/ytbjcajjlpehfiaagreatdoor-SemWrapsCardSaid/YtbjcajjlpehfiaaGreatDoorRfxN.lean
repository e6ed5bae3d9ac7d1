/- What is proved here: operations that make a block: in Go's own run a value comes, and memory, that are related to the evaluator's. The conditions are the relations of operands and of memory. -/
import Derived.Test.YtbjcajjlpehfiaaGreatDoorRfxM
set_option linter.unusedVariables false
set_option linter.unusedSectionVars false
set_option linter.unusedSimpArgs false
set_option linter.constructorNameAsVariable false
namespace Go.Rfx
open Go
variable [Sy]

theorem RB.has {φ : Phi} {b : B} {ri : RI} {o : Option Obj} (h : RB φ b ri o) : ∃ obj, o = some obj := by
  cases b with
  | c l ro cl => obtain ⟨cs, t, fr, h1, _⟩ := h; exact ⟨_, h1⟩
  | m es => obtain ⟨ents, clk, h1, _⟩ := h; exact ⟨_, h1⟩

/-- one name more -/
def Phi.put (φ : Phi) (i : K) (ri : RI) : Phi := fun k => if k = i then some ri else φ k
theorem Phi.put_same (φ : Phi) (i : K) (ri : RI) : φ.put i ri i = some ri := by simp [Phi.put]
theorem Phi.put_other (φ : Phi) {i k : K} (ri : RI) (h : k ≠ i) : φ.put i ri k = φ k := by simp [Phi.put, h]
theorem Phi.put_ext {φ : Phi} {i : K} {ri : RI} (h : φ i = none) : Ext φ (φ.put i ri) := by
  intro k r hk
  by_cases e : k = i
  · subst e; rw [h] at hk; cases hk
  · rw [Phi.put_other _ _ e]; exact hk

section
variable {p : Program} {φ : Phi} {h : H} {w w' : World}
theorem RW.lt (r : RW p φ h w) {k : K} {b : B} {ri : RI} (hk : h.get k = some b) (hi : φ k = some ri) : ri.b < w.heap.size := by
  obtain ⟨ri', hri', hb⟩ := r.blk k b hk
  rw [hi] at hri'
  injection hri' with e
  subst e
  obtain ⟨o, ho⟩ := hb.has
  exact (Array.getElem?_eq_some_iff.1 ho).1

/-- a new block -/
theorem RW.make (r : RW p φ h w) {nid : K} (hn : φ nid = none) (hlt : nid.num < h.nx.num) {obj : Obj} {n : Nat} {b : B} (hw : w'.heap = w.heap.push obj) (ho : w'.os = w.os) (ht : w'.tape = w.tape) (hu : w'.output = w.output)
    (hb : RB (φ.put nid ⟨w.heap.size, n⟩) b ⟨w.heap.size, n⟩ (some obj)) :
    RW p (φ.put nid ⟨w.heap.size, n⟩) (h.set nid b) w' ∧ Kp (· = nid) φ h w (φ.put nid ⟨w.heap.size, n⟩) (h.set nid b) w' := by
  have hext : Ext φ (φ.put nid ⟨w.heap.size, n⟩) := Phi.put_ext hn
  have hnew : w'.heap[w.heap.size]? = some obj := by rw [hw]; simp
  have hold : ∀ k, k < w.heap.size → w'.heap[k]? = w.heap[k]? := by
    intro k hk
    rw [hw, Array.getElem?_push, if_neg (by omega)]
  refine ⟨⟨?_, ?_, ?_, ?_⟩, ⟨ho, ht, hu, by rw [hw]; simp, hext, ?_, ?_, by rw [H.nx_set]; exact Nat.le_refl _, ?_⟩⟩
  · intro k q hk
    by_cases e : k = nid
    · subst e
      rw [H.get_set_same] at hk
      injection hk with hk
      subst hk
      exact ⟨_, Phi.put_same _ _ _, by rw [hnew]; exact hb⟩
    · rw [H.get_set_other _ _ e] at hk
      obtain ⟨ri, hri, hrb⟩ := r.blk k q hk
      exact ⟨ri, by rw [Phi.put_other _ _ e]; exact hri, by rw [hold _ (r.lt hk hri)]; exact hrb.mono hext⟩
  · intro k k' q q' ri ri' hk hk' hi hi' hb
    by_cases e : k = nid
    · by_cases e' : k' = nid
      · rw [e, e']
      · subst e
        rw [Phi.put_same] at hi
        rw [Phi.put_other _ _ e'] at hi'
        rw [H.get_set_other _ _ e'] at hk'
        injection hi with hi
        subst hi
        have := r.lt hk' hi'
        simp only at hb
        omega
    · by_cases e' : k' = nid
      · subst e'
        rw [Phi.put_same] at hi'
        rw [Phi.put_other _ _ e] at hi
        rw [H.get_set_other _ _ e] at hk
        injection hi' with hi'
        subst hi'
        have := r.lt hk hi
        simp only at hb
        omega
      · rw [Phi.put_other _ _ e] at hi
        rw [Phi.put_other _ _ e'] at hi'
        rw [H.get_set_other _ _ e] at hk
        rw [H.get_set_other _ _ e'] at hk'
        exact r.inj k k' q q' ri ri' hk hk' hi hi' hb
  · intro k hk
    rw [H.nx_set] at hk
    rw [Phi.put_other _ _ (fun e => by subst e; omega)]
    exact r.dom k hk
  · intro g hg
    obtain ⟨ri, h1, h2⟩ := r.gl g hg
    exact ⟨ri, hext _ _ h1, h2⟩
  · intro k hk hnl
    refine ⟨hold k hk, ?_⟩
    rintro ⟨k', q, ri, h1, h2, h3, h4⟩
    by_cases e : k' = nid
    · subst e
      rw [Phi.put_same] at h3
      injection h3 with h3
      subst h3
      simp only at h4
      omega
    · rw [H.get_set_other _ _ e] at h1
      rw [Phi.put_other _ _ e] at h3
      exact hnl ⟨k', q, ri, h1, h2, h3, h4⟩
  · intro k h1 h2
    by_cases e : k = nid
    · exact e
    · rw [Phi.put_other _ _ e] at h2; exact absurd h1 h2
  · intro k hk hnl
    rintro ⟨k', q, ri, h1, h3, h4⟩
    by_cases e : k' = nid
    · subst e
      rw [Phi.put_same] at h3
      injection h3 with h3
      subst h3
      simp only at h4
      omega
    · rw [H.get_set_other _ _ e] at h1
      rw [Phi.put_other _ _ e] at h3
      exact hnl ⟨k', q, ri, h1, h3, h4⟩

/-- a block that is written -/
theorem RW.write (r : RW p φ h w) {i : K} {ri : RI} {b0 b1 : B} {obj : Obj} (hg : h.get i = some b0) (hi : φ i = some ri) (h0 : b0.ro = false) (h1 : b1.ro = false)
    (hw : w'.heap[ri.b]? = some obj) (hs : w'.heap.size = w.heap.size) (hoth : ∀ b, b ≠ ri.b → w'.heap[b]? = w.heap[b]?) (ho : w'.os = w.os) (ht : w'.tape = w.tape) (hu : w'.output = w.output) (hb : RB φ b1 ri (some obj)) :
    RW p φ (h.set i b1) w' ∧ Kp (fun _ => False) φ h w φ (h.set i b1) w' := by
  refine ⟨⟨?_, ?_, ?_, r.gl⟩, ⟨ho, ht, hu, by rw [hs]; exact Nat.le_refl _, Ext.refl _, ?_, fun _ h1 h2 => absurd h1 h2, by rw [H.nx_set]; exact Nat.le_refl _, ?_⟩⟩
  · intro k q hk
    by_cases e : k = i
    · subst e
      rw [H.get_set_same] at hk
      injection hk with hk
      subst hk
      exact ⟨ri, hi, by rw [hw]; exact hb⟩
    · rw [H.get_set_other _ _ e] at hk
      obtain ⟨ri', hri', hrb⟩ := r.blk k q hk
      exact ⟨ri', hri', by rw [hoth _ (fun e' => e (r.inj _ _ _ _ _ _ hk hg hri' hi e'))]; exact hrb⟩
  · intro k k' q q' ri1 ri2 hk hk' h3 h4 h5
    have get : ∀ {k : K} {q : B}, (h.set i b1).get k = some q → ∃ q', h.get k = some q' := by
      intro k q hk
      by_cases e : k = i
      · subst e; exact ⟨_, hg⟩
      · rw [H.get_set_other _ _ e] at hk; exact ⟨_, hk⟩
    obtain ⟨_, g1⟩ := get hk
    obtain ⟨_, g2⟩ := get hk'
    exact r.inj _ _ _ _ _ _ g1 g2 h3 h4 h5
  · intro k hk; rw [H.nx_set] at hk; exact r.dom k hk
  · intro b hb hnl
    have hne : b ≠ ri.b := fun e => hnl ⟨i, b0, ri, hg, h0, hi, e.symm⟩
    refine ⟨hoth b hne, ?_⟩
    rintro ⟨k', q, ri', g1, g2, g3, g4⟩
    by_cases e : k' = i
    · subst e
      rw [hi] at g3
      injection g3 with g3
      subst g3
      exact hne g4.symm
    · rw [H.get_set_other _ _ e] at g1
      exact hnl ⟨k', q, ri', g1, g2, g3, g4⟩
  · intro b hb hnl
    have hne : b ≠ ri.b := fun e => hnl ⟨i, b0, ri, hg, hi, e.symm⟩
    rintro ⟨k', q, ri', g1, g3, g4⟩
    by_cases e : k' = i
    · subst e
      rw [hi] at g3
      injection g3 with g3
      subst g3
      exact hne g4.symm
    · rw [H.get_set_other _ _ e] at g1
      exact hnl ⟨k', q, ri', g1, g3, g4⟩
/-- a block that is not looked at any more -/
theorem RW.drop (r : RW p φ h w) (i : K) : RW p φ (h.del i) w := by
  have get : ∀ {k : K} {q : B}, (h.del i).get k = some q → h.get k = some q := by
    intro k q hk
    by_cases e : k = i
    · subst e; rw [H.get_del_same] at hk; cases hk
    · rwa [H.get_del_other _ e] at hk
  exact ⟨fun k q hk => r.blk k q (get hk), fun k k' q q' ri ri' h1 h2 => r.inj k k' q q' ri ri' (get h1) (get h2), fun k hk => r.dom k (by rwa [H.nx_del] at hk), r.gl⟩
theorem Kp.drop (i : K) : Kp (fun _ => False) φ h w φ (h.del i) w := by
  refine ⟨rfl, rfl, rfl, Nat.le_refl _, Ext.refl _, fun b hb hn => ⟨rfl, ?_⟩, fun _ h1 h2 => absurd h1 h2, by rw [H.nx_del]; exact Nat.le_refl _, fun b hb hn => ?_⟩
  · rintro ⟨k, q, ri, h1, h2, h3, h4⟩
    by_cases e : k = i
    · subst e; rw [H.get_del_same] at h1; cases h1
    · rw [H.get_del_other _ e] at h1; exact hn ⟨k, q, ri, h1, h2, h3, h4⟩
  · rintro ⟨k, q, ri, h1, h3, h4⟩
    by_cases e : k = i
    · subst e; rw [H.get_del_same] at h1; cases h1
    · rw [H.get_del_other _ e] at h1; exact hn ⟨k, q, ri, h1, h3, h4⟩
/-- a block that was another's, written, under a new name -/
theorem RW.move (r : RW p φ h w) {i nid : K} {ri : RI} {b0 b1 : B} {obj : Obj} (hg : h.get i = some b0) (hi : φ i = some ri) (h0 : b0.ro = false) (h1 : b1.ro = false) (hn : φ nid = none) (hlt : nid.num < h.nx.num)
    (hw : w'.heap[ri.b]? = some obj) (hs : w'.heap.size = w.heap.size) (hoth : ∀ b, b ≠ ri.b → w'.heap[b]? = w.heap[b]?) (ho : w'.os = w.os) (ht : w'.tape = w.tape) (hu : w'.output = w.output) (hb : RB (φ.put nid ri) b1 ri (some obj)) :
    RW p (φ.put nid ri) ((h.del i).set nid b1) w' ∧ Kp (· = nid) φ h w (φ.put nid ri) ((h.del i).set nid b1) w' := by
  have hext : Ext φ (φ.put nid ri) := Phi.put_ext hn
  have hne : i ≠ nid := fun e => by subst e; rw [hi] at hn; cases hn
  have get : ∀ {k : K} {q : B}, k ≠ nid → ((h.del i).set nid b1).get k = some q → k ≠ i ∧ h.get k = some q := by
    intro k q hk hg
    rw [H.get_set_other _ _ hk] at hg
    by_cases e : k = i
    · subst e; rw [H.get_del_same] at hg; cases hg
    · rw [H.get_del_other _ e] at hg; exact ⟨e, hg⟩
  refine ⟨⟨?_, ?_, ?_, ?_⟩, ⟨ho, ht, hu, by rw [hs]; exact Nat.le_refl _, hext, ?_, ?_, by rw [H.nx_set, H.nx_del]; exact Nat.le_refl _, ?_⟩⟩
  · intro k q hk
    by_cases e : k = nid
    · subst e
      rw [H.get_set_same] at hk
      injection hk with hk
      subst hk
      exact ⟨ri, Phi.put_same _ _ _, by rw [hw]; exact hb⟩
    · obtain ⟨e1, g1⟩ := get e hk
      obtain ⟨ri', hri', hrb⟩ := r.blk k q g1
      exact ⟨ri', by rw [Phi.put_other _ _ e]; exact hri', by rw [hoth _ (fun e' => e1 (r.inj _ _ _ _ _ _ g1 hg hri' hi e'))]; exact hrb.mono hext⟩
  · intro k k' q q' ri1 ri2 hk hk' h3 h4 h5
    by_cases e : k = nid
    · by_cases e' : k' = nid
      · rw [e, e']
      · obtain ⟨e2, g2⟩ := get e' hk'
        subst e
        rw [Phi.put_same] at h3
        rw [Phi.put_other _ _ e'] at h4
        injection h3 with h3
        subst h3
        exact absurd (r.inj _ _ _ _ _ _ hg g2 hi h4 h5) (fun e => e2 e.symm)
    · obtain ⟨e1, g1⟩ := get e hk
      rw [Phi.put_other _ _ e] at h3
      by_cases e' : k' = nid
      · subst e'
        rw [Phi.put_same] at h4
        injection h4 with h4
        subst h4
        exact absurd (r.inj _ _ _ _ _ _ g1 hg h3 hi h5) e1
      · obtain ⟨e2, g2⟩ := get e' hk'
        rw [Phi.put_other _ _ e'] at h4
        exact r.inj _ _ _ _ _ _ g1 g2 h3 h4 h5
  · intro k hk
    rw [H.nx_set, H.nx_del] at hk
    rw [Phi.put_other _ _ (fun e => by subst e; omega)]
    exact r.dom k hk
  · intro g hg
    obtain ⟨ri', h1, h2⟩ := r.gl g hg
    exact ⟨ri', hext _ _ h1, h2⟩
  · intro b hb hnl
    have hneb : b ≠ ri.b := fun e => hnl ⟨i, b0, ri, hg, h0, hi, e.symm⟩
    refine ⟨hoth b hneb, ?_⟩
    rintro ⟨k', q, ri', g1, g2, g3, g4⟩
    by_cases e : k' = nid
    · subst e
      rw [Phi.put_same] at g3
      injection g3 with g3
      subst g3
      exact hneb g4.symm
    · obtain ⟨_, g1⟩ := get e g1
      rw [Phi.put_other _ _ e] at g3
      exact hnl ⟨k', q, ri', g1, g2, g3, g4⟩
  · intro k h1 h2
    by_cases e : k = nid
    · exact e
    · rw [Phi.put_other _ _ e] at h2; exact absurd h1 h2
  · intro b hb hnl
    have hneb : b ≠ ri.b := fun e => hnl ⟨i, b0, ri, hg, hi, e.symm⟩
    rintro ⟨k', q, ri', g1, g3, g4⟩
    by_cases e : k' = nid
    · subst e
      rw [Phi.put_same] at g3
      injection g3 with g3
      subst g3
      exact hneb g4.symm
    · obtain ⟨_, g1⟩ := get e g1
      rw [Phi.put_other _ _ e] at g3
      exact hnl ⟨k', q, ri', g1, g3, g4⟩
end
end Go.Rfx
