/- What is defined and proved here: types as trees; where they lie; their size by Go's text. No condition. -/
import Derived.WalkKit
import Derived.ProofKit
import Derived.Below
import Derived.Test.YtbjcajjlpehfiaaProg
set_option linter.unusedVariables false
set_option linter.unusedSimpArgs false
namespace Go.Proofs.Ytbjcajjlpehfiaa
open Go Go.RowKit

mutual
/-- a type as a tree: its Op, its N, its kids -/
inductive Ty where
  | mk (op : ByteArray) (n : Int) (ks : Tys)
inductive Tys where
  | nil
  | cons (t : Ty) (ts : Tys)
end
def Tys.len : Tys → Nat
  | .nil => 0
  | .cons _ ts => ts.len + 1
def Tys.get? : Tys → Nat → Option Ty
  | .nil, _ => none
  | .cons t _, 0 => some t
  | .cons _ ts, i + 1 => ts.get? i
def Tys.drop : Tys → Nat → Tys
  | ts, 0 => ts
  | .nil, _ + 1 => .nil
  | .cons _ ts, i + 1 => ts.drop i
theorem Tys.drop_len : ∀ (ts : Tys), ts.drop ts.len = .nil
  | .nil => rfl
  | .cons _ ts => Tys.drop_len ts
theorem Tys.drop_lt : ∀ (ts : Tys) (i : Nat), i < ts.len → ∃ t, ts.get? i = some t ∧ ts.drop i = .cons t (ts.drop (i + 1))
  | .nil, i, h => absurd h (Nat.not_lt_zero _)
  | .cons t ts, 0, _ => ⟨t, rfl, by cases ts <;> rfl⟩
  | .cons t ts, i + 1, h => Tys.drop_lt ts i (Nat.lt_of_succ_lt_succ h)

mutual
/-- a type's value, in a world -/
def TyV (n₀ : Nat) (W : World) : Ty → Value → Prop
  | .mk op n ks, v => ∃ a cap, v = .agg #[.string op, .int .i64 n, .slice a ks.len cap] ∧ (ks = .nil ∨ ∃ b o, a = some ⟨b, o, none⟩ ∧ b < n₀ ∧ TysAt n₀ W b o ks)
/-- types that lie one behind the other -/
def TysAt (n₀ : Nat) (W : World) (b : Nat) : Nat → Tys → Prop
  | _, .nil => True
  | o, .cons t ts => (∃ v0 v1 v2, W.cell? ⟨b, o, none⟩ = some v0 ∧ W.cell? ⟨b, o + 1, none⟩ = some v1 ∧ W.cell? ⟨b, o + 2, none⟩ = some v2 ∧ TyV n₀ W t (.agg #[v0, v1, v2])) ∧ TysAt n₀ W b (o + 3) ts
end
mutual
theorem TyV.below {n₀ : Nat} {A B : World} (h : Below n₀ A B) : ∀ {t : Ty} {v : Value}, TyV n₀ A t v → TyV n₀ B t v
  | .mk op n ks, v, ⟨a, cap, e, hs⟩ => ⟨a, cap, e, hs.imp id fun ⟨b, o, h1, h2, h3⟩ => ⟨b, o, h1, h2, TysAt.below h h2 h3⟩⟩
theorem TysAt.below {n₀ : Nat} {A B : World} (h : Below n₀ A B) : ∀ {ts : Tys} {b o : Nat}, b < n₀ → TysAt n₀ A b o ts → TysAt n₀ B b o ts
  | .nil, _, _, _, _ => trivial
  | .cons t ts, b, o, hb, ⟨⟨v0, v1, v2, h0, h1, h2, h3⟩, h4⟩ =>
    ⟨⟨v0, v1, v2, (h.cell (p := ⟨b, o, none⟩) hb).trans h0, (h.cell (p := ⟨b, o + 1, none⟩) hb).trans h1, (h.cell (p := ⟨b, o + 2, none⟩) hb).trans h2, TyV.below h h3⟩, TysAt.below h hb h4⟩
end
mutual
theorem TyV.mono {n₀ n₁ : Nat} {W : World} (h : n₀ ≤ n₁) : ∀ {t : Ty} {v : Value}, TyV n₀ W t v → TyV n₁ W t v
  | .mk op n ks, v, ⟨a, cap, e, hs⟩ => ⟨a, cap, e, hs.imp id fun ⟨b, o, h1, h2, h3⟩ => ⟨b, o, h1, by omega, TysAt.mono h h3⟩⟩
theorem TysAt.mono {n₀ n₁ : Nat} {W : World} (h : n₀ ≤ n₁) : ∀ {ts : Tys} {b o : Nat}, TysAt n₀ W b o ts → TysAt n₁ W b o ts
  | .nil, _, _, _ => trivial
  | .cons t ts, b, o, ⟨⟨v0, v1, v2, h0, h1, h2, h3⟩, h4⟩ => ⟨⟨v0, v1, v2, h0, h1, h2, TyV.mono h h3⟩, TysAt.mono h h4⟩
end
theorem TysAt.get {n₀ : Nat} {W : World} {b : Nat} : ∀ {ts : Tys} {o i : Nat} {t : Ty}, TysAt n₀ W b o ts → ts.get? i = some t →
    ∃ v0 v1 v2, W.cell? ⟨b, o + i * 3, none⟩ = some v0 ∧ W.cell? ⟨b, o + i * 3 + 1, none⟩ = some v1 ∧ W.cell? ⟨b, o + i * 3 + 2, none⟩ = some v2 ∧ TyV n₀ W t (.agg #[v0, v1, v2])
  | .cons t ts, o, 0, u, h, e => by
    injection e with e
    subst e
    simpa using h.1
  | .cons t ts, o, i + 1, u, h, e => by
    have := TysAt.get (i := i) h.2 e
    rw [show o + (i + 1) * 3 = o + 3 + i * 3 by omega]
    exact this

mutual
def Ty.w : Ty → Nat
  | .mk _ _ ks => ks.w + 1
def Tys.w : Tys → Nat
  | .nil => 0
  | .cons t ts => t.w + ts.w
end
theorem Tys.get_w : ∀ {ts : Tys} {i : Nat} {t : Ty}, ts.get? i = some t → t.w ≤ ts.w
  | .cons t ts, 0, u, e => by injection e with e; subst e; simp only [Tys.w]; omega
  | .cons t ts, i + 1, u, e => by
    have := Tys.get_w (ts := ts) (i := i) e
    simp only [Tys.w]; omega

mutual
theorem Ty.w_pos : ∀ (t : Ty), 1 ≤ t.w
  | .mk _ _ ks => by simp only [Ty.w]; omega
theorem Tys.len_w : ∀ (ts : Tys), ts.len ≤ ts.w
  | .nil => Nat.le_refl _
  | .cons t ts => by
    have h1 := Ty.w_pos t
    have h2 := Tys.len_w ts
    simp only [Tys.len, Tys.w]; omega
end

/-! ### size -/
mutual
def Ty.size : Ty → Int → Int
  | .mk _ _ ks, most => ks.sizes most 1
def Tys.sizes : Tys → Int → Int → Int
  | .nil, _, k => k
  | .cons t ts, most, k => if k < most then ts.sizes most (k + t.size (most - k)) else k
end
mutual
theorem Ty.size_le : ∀ (t : Ty) (most : Int), 1 ≤ t.size most ∧ (t.size most ≤ 1 ∨ t.size most ≤ most)
  | .mk _ _ ks, most => Tys.sizes_le ks most 1 (by omega) (.inl (by omega))
theorem Tys.sizes_le : ∀ (ts : Tys) (most k : Int), 1 ≤ k → (k ≤ 1 ∨ k ≤ most) → 1 ≤ ts.sizes most k ∧ (ts.sizes most k ≤ 1 ∨ ts.sizes most k ≤ most)
  | .nil, most, k, h1, h2 => ⟨h1, h2⟩
  | .cons t ts, most, k, h1, h2 => by
    simp only [Tys.sizes]
    split
    · have := Ty.size_le t (most - k)
      exact Tys.sizes_le ts most _ (by omega) (by omega)
    · exact ⟨h1, h2⟩
end
theorem Tys.sizes_stop (ts : Tys) (most k : Int) (h : ¬ k < most) : ts.sizes most k = k := by
  cases ts with
  | nil => rfl
  | cons t ts => simp only [Tys.sizes, if_neg h]

set_option maxRecDepth 100000 in
set_option maxHeartbeats 4000000 in
theorem size_any : ∀ (d : Nat) (t : Ty) (v : Value) (most : Int) (w : World), t.w ≤ d → TyV w.heap.size w t v → 1 ≤ most → most ≤ 4611686018427387904 →
    Calls Try.prog 7 #[v, .int .i64 most] w fun e w' => e = .returned (.int .i64 (t.size most)) ∧ Below w.heap.size w w' := by
  intro d
  induction d with
  | zero => intro t v most w hd; cases t; simp [Ty.w] at hd
  | succ d ih =>
    intro t v most w hd hv lo hi
    obtain ⟨op, n, ks⟩ := t
    obtain ⟨a, cap, rfl, hs⟩ := hv
    go_enter Try.func7, Try.ntmps7
    go_wp2
    obtain ⟨W1, hW1⟩ : ∃ W1, w.alloc (.cells #[.string op, .int .i64 n, .slice a ks.len cap] 24) = W1 := ⟨_, rfl⟩
    have hbx : W1.heap[w.heap.size]? = some (.cells #[.string op, .int .i64 n, .slice a ks.len cap] 24) := by
      rw [← hW1]; show (w.heap.push _)[_]? = _; simp
    have hB1 : Below w.heap.size w W1 := by rw [← hW1]; exact (Below.refl _ w).alloc (Nat.le_refl _) _
    have hsz : W1.heap.size = w.heap.size + 1 := by rw [← hW1]; simp
    rw [hW1]
    clear hW1
    go_loopw [5, 6] (fun k i wr => ∃ (j : Nat) (kk : Int), j ≤ ks.len ∧ (j : Int) < kk ∧ i = .int .i64 (j : Int) ∧ k = .int .i64 kk ∧ 1 ≤ kk ∧ (kk ≤ 1 ∨ kk ≤ most) ∧ (ks.drop j).sizes most kk = ks.sizes most 1 ∧ Below W1.heap.size W1 wr)
      (fun _ i _ => ks.len - (intOf i).toNat)
    case atStart => exact ⟨0, 1, Nat.zero_le _, by omega, rfl, rfl, by omega, .inl (by omega), by cases ks <;> rfl, Below.refl _ _⟩
    case round =>
      obtain ⟨j, kk, hj, hjk, rfl, rfl, h1, h2, h3, hB⟩ := hrel
      have hc : wr.cell? ⟨w.heap.size, 2, none⟩ = some (.slice a ks.len cap) := by
        have := (hB.block w.heap.size (by omega)).trans hbx
        simp [World.cell?, this]
      have hBw : Below w.heap.size w wr := hB1.trans (hB.mono (by omega))
      by_cases hlt : j < ks.len
      · by_cases hk : kk < most
        · obtain ⟨u, hu, hdr⟩ := Tys.drop_lt ks j hlt
          obtain ⟨b, o, rfl, hb, hat⟩ := hs.resolve_left (fun e => by subst e; simp [Tys.len] at hlt)
          obtain ⟨v0, v1, v2, c0, c1, c2, hv'⟩ := (hat.below hBw hb).get hu
          have hw : u.w ≤ d := by have := Tys.get_w hu; simp only [Ty.w] at hd; omega
          have hsl := Ty.size_le u (most - kk)
          have ih' := ih u _ (most - kk) wr hw (hv'.mono hBw.size) (by omega) (by omega)
          go_wp2_with (go_at_call 7; refine ih'.mono ?_; rintro e w' ⟨rfl, hB'⟩)
          refine ⟨⟨j + 1, kk + u.size (most - kk), by omega, by omega, by simp, rfl, by omega, by omega, ?_, hB.trans (hB'.mono hB.size)⟩, by simp [intOf]; omega⟩
          rw [← h3, hdr]
          simp only [Tys.sizes, if_pos hk]
        · go_wp2
          go_ret
          exact ⟨by simp only [Ty.size]; rw [← h3, Tys.sizes_stop _ _ _ (by omega)]; rfl, hBw⟩
      · go_wp2
        go_ret
        obtain rfl : j = ks.len := by omega
        exact ⟨by simp only [Ty.size]; rw [← h3, Tys.drop_len]; rfl, hBw⟩
end Go.Proofs.Ytbjcajjlpehfiaa
