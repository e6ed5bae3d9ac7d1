/- What is proved here: a type that came in is a tree. No condition. -/
import Derived.Test.YtbjcajjlpehfiaaTy
import Derived.Deep.Strs
set_option linter.unusedVariables false
set_option linter.unusedSimpArgs false
namespace Go.Proofs.Ytbjcajjlpehfiaa
open Go Go.RowKit Go.ChangeShapes

theorem cells24 : Try.prog.cellsOf 24 = 3 := by kernel_rfl
theorem cells22 : Try.prog.cellsOf 22 = 1 := by kernel_rfl
theorem cells9 : Try.prog.cellsOf 9 = 1 := by kernel_rfl
theorem cells3 : Try.prog.cellsOf 3 = 1 := by kernel_rfl

theorem kids_from {W : World} {b : Nat} : ∀ (len o : Nat), (∀ i, i < len → ∃ t v0 v1 v2, W.cell? ⟨b, o + i * 3, none⟩ = some v0 ∧ W.cell? ⟨b, o + i * 3 + 1, none⟩ = some v1 ∧ W.cell? ⟨b, o + i * 3 + 2, none⟩ = some v2 ∧ TyV W.heap.size W t (.agg #[v0, v1, v2])) →
    ∃ ks : Tys, ks.len = len ∧ TysAt W.heap.size W b o ks
  | 0, o, _ => ⟨.nil, rfl, trivial⟩
  | len + 1, o, h => by
    obtain ⟨t, v0, v1, v2, h0, h1, h2, ht⟩ := h 0 (by omega)
    obtain ⟨ks, hl, hk⟩ := kids_from (W := W) (b := b) len (o + 3) (fun i hi => by
      obtain ⟨t, v0, v1, v2, h0, h1, h2, ht⟩ := h (i + 1) (by omega)
      rw [show o + (i + 1) * 3 = o + 3 + i * 3 by omega] at h0 h1 h2
      exact ⟨t, v0, v1, v2, h0, h1, h2, ht⟩)
    exact ⟨.cons t ks, by simp [Tys.len, hl], ⟨v0, v1, v2, by simpa using h0, by simpa using h1, by simpa using h2, ht⟩, hk⟩

theorem cells3_of {W : World} {a : Addr} {cs : List Value} (h : W.cells? 0 a 3 = some cs) : ∃ v0 v1 v2, cs = [v0, v1, v2] ∧ W.cell? a = some v0 ∧ W.cell? ⟨a.block, a.off + 1, none⟩ = some v1 ∧ W.cell? ⟨a.block, a.off + 2, none⟩ = some v2 := by
  simp only [World.cells?, Nat.zero_le, if_true, show List.range 3 = [0, 1, 2] from rfl, List.mapM_cons, List.mapM_nil] at h
  cases h0 : W.cell? (a.add 0) with
  | none => simp [h0] at h
  | some v0 =>
  cases h1 : W.cell? (a.add 1) with
  | none => simp [h0, h1] at h
  | some v1 =>
  cases h2 : W.cell? (a.add 2) with
  | none => simp [h0, h1, h2] at h
  | some v2 =>
    simp [h0, h1, h2] at h
    exact ⟨v0, v1, v2, h.symm, by simpa [Addr.add] using h0, by simpa [Addr.add] using h1, by simpa [Addr.add] using h2⟩
theorem spot_none {W : World} {a : Addr} {v : Value} (h : W.cell? a = some v) : a.spot = none ∧ a.block < W.heap.size := by
  unfold World.cell? at h
  split at h
  · next hh =>
    refine ⟨?_, (Array.getElem?_eq_some_iff.1 hh).1⟩
    split at h
    · cases h
    · next hs => simpa using hs
  · cases h

set_option maxRecDepth 100000 in
set_option maxHeartbeats 4000000 in
theorem open_ty {H : Type} {enc : TypeId × Value → H} {W : World} {sp : Nat → Bool} {held : Bool} : ∀ (m fuel : Nat), fuel ≤ m → ∀ (cs : List Value) (x : DataW H × List MemPlace), DataW.trod enc Try.prog W 0 sp held fuel 24 cs = some x →
    ∃ t v0 v1 v2, cs = [v0, v1, v2] ∧ TyV W.heap.size W t (.agg #[v0, v1, v2]) := by
  intro m
  induction m with
  | zero => intro fuel hm cs x h; obtain rfl : fuel = 0 := (by omega); simp [DataW.trod] at h
  | succ m ih =>
    intro fuel hm cs x h
    obtain ⟨xs, n, rfl, rfl, hlen, hxs, hf⟩ := DataW.trod_struct Try.underlying24 h
    rw [cells24] at hlen
    match cs, hlen with
    | [v0, v1, v2], _ =>
    have hx3 : xs.length = 3 := by simpa using hxs
    match xs, hx3 with
    | [y0, y1, y2], _ =>
    have f0 : DataW.trod enc Try.prog W 0 sp held n 9 (List.take (Try.prog.cellsOf 9) [v0, v1, v2]) = some y0 := hf 0 _ rfl
    have f1 : DataW.trod enc Try.prog W 0 sp held n 3 (List.take (Try.prog.cellsOf 3) [v1, v2]) = some y1 := hf 1 _ rfl
    have f2 : DataW.trod enc Try.prog W 0 sp held n 22 (List.take (Try.prog.cellsOf 22) [v2]) = some y2 := hf 2 _ rfl
    simp only [cells9, cells3, cells22, List.take] at f0 f1 f2
    obtain ⟨s, hs, _, _⟩ := DataW.trod_string Try.underlying9 f0
    obtain ⟨k, hk, _, _⟩ := DataW.trod_int Try.underlying3 f1
    simp only [List.cons.injEq, and_true] at hs hk
    subst hs; subst hk
    rcases DataW.trod_slice Try.underlying22 f2 with ⟨h2, _⟩ | ⟨a, len, cap, elems, rest, n', hn, h2, _, _, hlc, hcm, hel, he, _, _⟩
    · simp only [List.cons.injEq, and_true] at h2
      subst h2
      exact ⟨.mk s k .nil, _, _, _, rfl, none, 0, rfl, .inl rfl⟩
    · simp only [List.cons.injEq, and_true] at h2
      subst h2
      rw [cells24] at he
      by_cases hl : len = 0
      · subst hl
        exact ⟨.mk s k .nil, _, _, _, rfl, some a, cap, rfl, .inl rfl⟩
      · have each : ∀ i, i < len → ∃ t v0 v1 v2, W.cell? (a.add (i * 3)) = some v0 ∧ W.cell? ⟨a.block, (a.add (i * 3)).off + 1, none⟩ = some v1 ∧ W.cell? ⟨a.block, (a.add (i * 3)).off + 2, none⟩ = some v2 ∧ TyV W.heap.size W t (.agg #[v0, v1, v2]) := by
          intro i hi
          have hi' := he i hi
          rw [List.getElem?_eq_getElem (by omega)] at hi'
          cases hc : W.cells? 0 (a.add (i * 3)) 3 with
          | none => simp [hc] at hi'
          | some c =>
            simp only [hc, Option.bind_some] at hi'
            obtain ⟨t, w0, w1, w2, rfl, ht⟩ := ih n' (by omega) c _ hi'
            obtain ⟨u0, u1, u2, he, e0, e1, e2⟩ := cells3_of hc
            simp only [List.cons.injEq, and_true] at he
            obtain ⟨rfl, rfl, rfl⟩ := he
            have hb : (a.add (i * 3)).block = a.block := by unfold Addr.add; split <;> rfl
            rw [hb] at e1 e2
            exact ⟨t, w0, w1, w2, e0, e1, e2, ht⟩
        obtain ⟨t, u0, u1, u2, e0, _⟩ := each 0 (by omega)
        have hs := spot_none e0
        obtain ⟨b, o, sp'⟩ := a
        simp only [Nat.zero_mul, Addr.add, if_true] at hs
        obtain ⟨rfl, hb⟩ := hs
        obtain ⟨ks, hkl, hka⟩ := kids_from (W := W) (b := b) len o (fun i hi => by
          obtain ⟨t, w0, w1, w2, e0, e1, e2, ht⟩ := each i hi
          have ea : (Addr.add ⟨b, o, none⟩ (i * 3)) = ⟨b, o + i * 3, none⟩ := by
            unfold Addr.add
            split
            · next hz => simp [hz]
            · rfl
          rw [ea] at e0 e1 e2
          exact ⟨t, w0, w1, w2, e0, e1, e2, ht⟩)
        exact ⟨.mk s k ks, _, _, _, rfl, some ⟨b, o, none⟩, cap, by rw [hkl], .inr ⟨b, o, rfl, hb, hka⟩⟩
end Go.Proofs.Ytbjcajjlpehfiaa
