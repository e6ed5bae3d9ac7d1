/- What is proved here: Go's own tests of types. No condition. -/
import Derived.Test.YtbjcajjlpehfiaaKinds
set_option linter.unusedVariables false
set_option linter.unusedSimpArgs false
namespace Go.Proofs.Ytbjcajjlpehfiaa
open Go Go.RowKit


/-! ### 24: sent -/
set_option maxRecDepth 100000 in
set_option maxHeartbeats 4000000 in
theorem cl45 (u : Ty) (v : Value) (w : World) (hv : TyV w.heap.size w u v) (h : ∀ w', TyV w'.heap.size w' u v → Calls Try.prog 24 #[v] w' fun e w'' => e = .returned (.bool u.sent) ∧ Below w'.heap.size w' w'') :
    Calls Try.prog 45 #[v] w fun e w' => e = .returned (.bool (!u.sent)) ∧ Below w.heap.size w w' := by
  obtain ⟨op, n, ks⟩ := u
  have hv0 := hv
  obtain ⟨a, cap, rfl, hs⟩ := hv
  have hB1 : Below w.heap.size w (w.alloc (.cells #[.string op, .int .i64 n, .slice a ks.len cap] 24)) := (Below.refl _ w).alloc (Nat.le_refl _) _
  have h' := h _ ((hv0.below hB1).mono hB1.size)
  go_enter Try.func45, Try.ntmps45
  go_wp2_with (go_at_call 24; refine h'.mono ?_; rintro e w' ⟨rfl, hB'⟩)
  go_ret
  exact ⟨rfl, hB1.trans (hB'.mono hB1.size)⟩
set_option maxRecDepth 100000 in
set_option maxHeartbeats 4000000 in
theorem ix45 (ks : Tys) (a : Option Addr) (cap : Nat) (w : World) (hmax : ks.len ≤ 4611686018427387904) (hs : ks = .nil ∨ ∃ b o, a = some ⟨b, o, none⟩ ∧ b < w.heap.size ∧ TysAt w.heap.size w b o ks)
    (h : ∀ u v w', u.w ≤ ks.w → TyV w'.heap.size w' u v → Calls Try.prog 24 #[v] w' fun e w'' => e = .returned (.bool u.sent) ∧ Below w'.heap.size w' w'') :
    Calls Try.prog 60 #[.slice a ks.len cap, .func (.func 45) #[] #[]] w fun e w' => ∃ r : Int, e = .returned (.int .i64 r) ∧ (decide (0 ≤ r) = !ks.sents) ∧ Below w.heap.size w w' := by
  go_enter Try.func60, Try.ntmps60
  go_wp2
  go_loopw [8] (fun i wr => ∃ (j : Nat), j ≤ ks.len ∧ i = .int .i64 (j : Int) ∧ (ks.drop j).sents = ks.sents ∧ Below w.heap.size w wr)
    (fun i _ => ks.len - (intOf i).toNat)
  case atStart => exact ⟨0, Nat.zero_le _, rfl, by cases ks <;> rfl, Below.refl _ _⟩
  case round =>
    obtain ⟨j, hj, rfl, h3, hB⟩ := hrel
    by_cases hlt : j < ks.len
    · obtain ⟨u, hu, hdr⟩ := Tys.drop_lt ks j hlt
      obtain ⟨b, o, rfl, hb, hat⟩ := hs.resolve_left (fun e => by subst e; simp [Tys.len] at hlt)
      obtain ⟨v0, v1, v2, c0, c1, c2, hv'⟩ := (hat.below hB hb).get hu
      have hw := Tys.get_w hu
      have ih' := cl45 u _ wr (hv'.mono hB.size) (fun w' hv'' => h u _ w' hw hv'')
      cases hsu : u.sent with
      | false =>
        rw [hsu] at ih'
        simp only [Bool.not_false] at ih'
        go_wp2_with (go_at_call 45; refine ih'.mono ?_; rintro e w' ⟨rfl, hB'⟩)
        go_ret
        exact ⟨_, rfl, by rw [← h3, hdr]; simp [Tys.sents, hsu], hB.trans (hB'.mono hB.size)⟩
      | true =>
        rw [hsu] at ih'
        simp only [Bool.not_true] at ih'
        go_wp2_with (go_at_call 45; refine ih'.mono ?_; rintro e w' ⟨rfl, hB'⟩)
        go_roundw
        case rel => exact ⟨j + 1, by omega, by simp, by rw [← h3, hdr]; simp [Tys.sents, hsu], hB.trans (hB'.mono hB.size)⟩
        case measure => simp [intOf]; omega
    · go_wp2
      go_ret
      obtain rfl : j = ks.len := by omega
      rw [Tys.drop_len] at h3
      exact ⟨_, rfl, by rw [← h3]; simp [Tys.sents], hB⟩
set_option maxRecDepth 100000 in
set_option maxHeartbeats 4000000 in
theorem an45 (ks : Tys) (a : Option Addr) (cap : Nat) (w : World) (hmax : ks.len ≤ 4611686018427387904) (hs : ks = .nil ∨ ∃ b o, a = some ⟨b, o, none⟩ ∧ b < w.heap.size ∧ TysAt w.heap.size w b o ks)
    (h : ∀ u v w', u.w ≤ ks.w → TyV w'.heap.size w' u v → Calls Try.prog 24 #[v] w' fun e w'' => e = .returned (.bool u.sent) ∧ Below w'.heap.size w' w'') :
    Calls Try.prog 44 #[.slice a ks.len cap, .func (.func 45) #[] #[]] w fun e w' => e = .returned (.bool (!ks.sents)) ∧ Below w.heap.size w w' := by
  have ih' := ix45 ks a cap w hmax hs h
  go_enter Try.func44, Try.ntmps44
  go_wp2_with (go_at_call 60; refine ih'.mono ?_; rintro e w' ⟨r, rfl, hr, hB'⟩)
  go_ret
  exact ⟨by rw [← hr]; rfl, hB'⟩

set_option maxRecDepth 100000 in
set_option maxHeartbeats 4000000 in
theorem sent24 : ∀ (d : Nat) (t : Ty) (v : Value) (w : World), t.w ≤ d → t.w ≤ 4611686018427387904 → TyV w.heap.size w t v →
    Calls Try.prog 24 #[v] w fun e w' => e = .returned (.bool t.sent) ∧ Below w.heap.size w w' := by
  intro d
  induction d with
  | zero => intro t v w hd; cases t; simp [Ty.w] at hd
  | succ d ih =>
    intro t v w hd hmax hv
    obtain ⟨op, n, ks⟩ := t
    have hv0 := hv
    obtain ⟨a, cap, rfl, hs⟩ := hv
    simp only [Ty.w] at hd hmax
    have hlen := Tys.len_w ks
    have hB1 : Below w.heap.size w (w.alloc (.cells #[.string op, .int .i64 n, .slice a ks.len cap] 24)) := (Below.refl _ w).alloc (Nat.le_refl _) _
    have hs1 : ks = .nil ∨ ∃ b o, a = some ⟨b, o, none⟩ ∧ b < (w.alloc (.cells #[.string op, .int .i64 n, .slice a ks.len cap] 24)).heap.size ∧ TysAt (w.alloc (.cells #[.string op, .int .i64 n, .slice a ks.len cap] 24)).heap.size (w.alloc (.cells #[.string op, .int .i64 n, .slice a ks.len cap] 24)) b o ks :=
      hs.imp id fun ⟨b, o, e, hb, hat⟩ => ⟨b, o, e, by have := hB1.size; omega, (hat.below hB1 hb).mono hB1.size⟩
    have ih' := an45 ks a cap _ (by omega) hs1 (fun u v w' hu hv' => ih u v w' (by omega) (by omega) hv')
    cases h1 : (op.toList == [118, 97, 114]) with
    | true =>
      have h1' : (op.toList != [118, 97, 114]) = false := by simp [bne, h1]
      go_enter Try.func24, Try.ntmps24
      go_wp2
      go_ret
      exact ⟨by simp [Ty.sent, h1], hB1⟩
    | false =>
    have h1' : (op.toList != [118, 97, 114]) = true := by simp [bne, h1]
    cases h2 : (op.toList == [102, 117, 110]) with
    | true =>
      have h2' : (op.toList != [102, 117, 110]) = false := by simp [bne, h2]
      go_enter Try.func24, Try.ntmps24
      go_wp2
      go_ret
      exact ⟨by simp [Ty.sent, h2], hB1⟩
    | false =>
    have h2' : (op.toList != [102, 117, 110]) = true := by simp [bne, h2]
    go_enter Try.func24, Try.ntmps24
    go_wp2_with (go_at_call 44; refine ih'.mono ?_; rintro e w' ⟨rfl, hB'⟩)
    go_ret
    exact ⟨by simp [Ty.sent, h1, h2], hB1.trans (hB'.mono hB1.size)⟩

/-! ### size -/
set_option maxRecDepth 100000 in
set_option maxHeartbeats 4000000 in
theorem size42 : ∀ (d : Nat) (t : Ty) (v : Value) (most : Int) (w : World), t.w ≤ d → t.w ≤ 4611686018427387904 → TyV w.heap.size w t v → 1 ≤ most → most ≤ 4611686018427387904 →
    Calls Try.prog 42 #[v, .int .i64 most] w fun e w' => e = .returned (.int .i64 (t.size most)) ∧ Below w.heap.size w w' := by
  intro d
  induction d with
  | zero => intro t v most w hd; cases t; simp [Ty.w] at hd
  | succ d ih =>
    intro t v most w hd hmax hv lo hi
    obtain ⟨op, n, ks⟩ := t
    obtain ⟨a, cap, rfl, hs⟩ := hv
    simp only [Ty.w] at hd hmax
    have hlen := Tys.len_w ks
    have hB1 : Below w.heap.size w (w.alloc (.cells #[.string op, .int .i64 n, .slice a ks.len cap] 24)) := (Below.refl _ w).alloc (Nat.le_refl _) _
    go_enter Try.func42, Try.ntmps42
    go_wp2
    obtain ⟨W1, hW1⟩ : ∃ W1, w.alloc (.cells #[.string op, .int .i64 n, .slice a ks.len cap] 24) = W1 := ⟨_, rfl⟩
    rw [hW1] at hB1 ⊢
    clear hW1
    go_loopw [5, 11] (fun k i wr => ∃ (j : Nat) (kk : Int), j ≤ ks.len ∧ i = .int .i64 (j : Int) ∧ k = .int .i64 kk ∧ 1 ≤ kk ∧ (kk ≤ 1 ∨ kk ≤ most) ∧ (ks.drop j).sizes most kk = ks.sizes most 1 ∧ Below W1.heap.size W1 wr)
      (fun _ i _ => ks.len - (intOf i).toNat)
    case atStart => exact ⟨0, 1, Nat.zero_le _, rfl, rfl, by omega, .inl (by omega), by cases ks <;> rfl, Below.refl _ _⟩
    case round =>
      obtain ⟨j, kk, hj, rfl, rfl, h1, h2, h3, hB⟩ := hrel
      have hBw : Below w.heap.size w wr := hB1.trans (hB.mono hB1.size)
      by_cases hlt : j < ks.len
      · obtain ⟨u, hu, hdr⟩ := Tys.drop_lt ks j hlt
        obtain ⟨b, o, rfl, hb, hat⟩ := hs.resolve_left (fun e => by subst e; simp [Tys.len] at hlt)
        obtain ⟨v0, v1, v2, c0, c1, c2, hv'⟩ := (hat.below hBw hb).get hu
        have hw : u.w ≤ ks.w := Tys.get_w hu
        have hB2 : ∀ v0 v1 v2, Below wr.heap.size wr (wr.alloc (.cells #[v0, v1, v2] 24)) := fun v0 v1 v2 => (Below.refl _ wr).alloc (Nat.le_refl _) _
        obtain ⟨uop, un, uks⟩ := u
        obtain ⟨ua, ucap, ev, us⟩ := hv'
        simp only [Value.agg.injEq] at ev
        obtain ⟨rfl, rfl, rfl⟩ : v0 = .string uop ∧ v1 = .int .i64 un ∧ v2 = .slice ua uks.len ucap := by simpa using ev
        have hv2 : TyV wr.heap.size wr (.mk uop un uks) (.agg #[.string uop, .int .i64 un, .slice ua uks.len ucap]) := TyV.mono hBw.size (show TyV w.heap.size wr _ _ from ⟨ua, ucap, rfl, us⟩)
        have hB3 := hB2 (.string uop) (.int .i64 un) (.slice ua uks.len ucap)
        by_cases hk : kk < most
        · have hsl := Ty.size_le (.mk uop un uks) (most - kk)
          have ih' := ih (.mk uop un uks) _ (most - kk) (wr.alloc (.cells #[.string uop, .int .i64 un, .slice ua uks.len ucap] 24)) (by omega) (by omega) ((hv2.below hB3).mono hB3.size) (by omega) (by omega)
          go_wp2_with (go_at_call 42; refine ih'.mono ?_; rintro e w' ⟨rfl, hB'⟩)
          go_roundw
          case rel => exact ⟨j + 1, kk + Ty.size (.mk uop un uks) (most - kk), by omega, by simp, rfl, by omega, by omega, by rw [← h3, hdr]; simp only [Tys.sizes, if_pos hk], hB.trans ((hB3.trans (hB'.mono hB3.size)).mono hB.size)⟩
          case measure => simp [intOf]; omega
        · go_wp2
          go_ret
          exact ⟨by simp only [Ty.size]; rw [← h3, Tys.sizes_stop _ _ _ (by omega)]; rfl, hBw.trans (hB3.mono hBw.size)⟩
      · go_wp2
        go_ret
        obtain rfl : j = ks.len := by omega
        exact ⟨by simp only [Ty.size]; rw [← h3, Tys.drop_len]; rfl, hBw⟩
end Go.Proofs.Ytbjcajjlpehfiaa
