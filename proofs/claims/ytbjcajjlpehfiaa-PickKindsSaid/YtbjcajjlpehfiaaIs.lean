/- What is proved here: Go's own test of each node. No condition. -/
import Derived.Test.YtbjcajjlpehfiaaKinds
import Derived.Deep.QuietTactic
import Derived.BigQuiet
set_option linter.unusedVariables false
set_option linter.unusedSimpArgs false
namespace Go.Proofs.Ytbjcajjlpehfiaa
open Go Go.RowKit

/-! ### 43: each -/
set_option maxRecDepth 100000 in
set_option maxHeartbeats 4000000 in
theorem cl59 (u : Ty) (v : Value) (w : World) (hv : TyV w.heap.size w u v) (h : ∀ w', TyV w'.heap.size w' u v → Calls Try.prog 43 #[v] w' fun e w'' => e = .returned (.bool u.each) ∧ Below w'.heap.size w' w'') :
    Calls Try.prog 59 #[v] w fun e w' => e = .returned (.bool (!u.each)) ∧ Below w.heap.size w w' := by
  obtain ⟨op, n, ks⟩ := u
  have hv0 := hv
  obtain ⟨a, cap, rfl, hs⟩ := hv
  have hB1 : Below w.heap.size w (w.alloc (.cells #[.string op, .int .i64 n, .slice a ks.len cap] 24)) := (Below.refl _ w).alloc (Nat.le_refl _) _
  have h' := h _ ((hv0.below hB1).mono hB1.size)
  go_enter Try.func59, Try.ntmps59
  go_wp2_with (go_at_call 43; refine h'.mono ?_; rintro e w' ⟨rfl, hB'⟩)
  go_ret
  exact ⟨rfl, hB1.trans (hB'.mono hB1.size)⟩
set_option maxRecDepth 100000 in
set_option maxHeartbeats 4000000 in
theorem ix59 (ks : Tys) (a : Option Addr) (cap : Nat) (w : World) (hmax : ks.len ≤ 4611686018427387904) (hs : ks = .nil ∨ ∃ b o, a = some ⟨b, o, none⟩ ∧ b < w.heap.size ∧ TysAt w.heap.size w b o ks)
    (h : ∀ u v w', u.w ≤ ks.w → TyV w'.heap.size w' u v → Calls Try.prog 43 #[v] w' fun e w'' => e = .returned (.bool u.each) ∧ Below w'.heap.size w' w'') :
    Calls Try.prog 60 #[.slice a ks.len cap, .func (.func 59) #[] #[]] w fun e w' => ∃ r : Int, e = .returned (.int .i64 r) ∧ (decide (0 ≤ r) = !ks.eachs) ∧ Below w.heap.size w w' := by
  go_enter Try.func60, Try.ntmps60
  go_wp2
  go_loopw [8] (fun i wr => ∃ (j : Nat), j ≤ ks.len ∧ i = .int .i64 (j : Int) ∧ (ks.drop j).eachs = ks.eachs ∧ Below w.heap.size w wr)
    (fun i _ => ks.len - (intOf i).toNat)
  case atStart => exact ⟨0, Nat.zero_le _, rfl, by cases ks <;> rfl, Below.refl _ _⟩
  case round =>
    obtain ⟨j, hj, rfl, h3, hB⟩ := hrel
    by_cases hlt : j < ks.len
    · obtain ⟨u, hu, hdr⟩ := Tys.drop_lt ks j hlt
      obtain ⟨b, o, rfl, hb, hat⟩ := hs.resolve_left (fun e => by subst e; simp [Tys.len] at hlt)
      obtain ⟨v0, v1, v2, c0, c1, c2, hv'⟩ := (hat.below hB hb).get hu
      have hw := Tys.get_w hu
      have ih' := cl59 u _ wr (hv'.mono hB.size) (fun w' hv'' => h u _ w' hw hv'')
      cases hsu : u.each with
      | false =>
        rw [hsu] at ih'
        simp only [Bool.not_false] at ih'
        go_wp2_with (go_at_call 59; refine ih'.mono ?_; rintro e w' ⟨rfl, hB'⟩)
        go_ret
        exact ⟨_, rfl, by rw [← h3, hdr]; simp [Tys.eachs, hsu], hB.trans (hB'.mono hB.size)⟩
      | true =>
        rw [hsu] at ih'
        simp only [Bool.not_true] at ih'
        go_wp2_with (go_at_call 59; refine ih'.mono ?_; rintro e w' ⟨rfl, hB'⟩)
        go_roundw
        case rel => exact ⟨j + 1, by omega, by simp, by rw [← h3, hdr]; simp [Tys.eachs, hsu], hB.trans (hB'.mono hB.size)⟩
        case measure => simp [intOf]; omega
    · go_wp2
      go_ret
      obtain rfl : j = ks.len := by omega
      rw [Tys.drop_len] at h3
      exact ⟨_, rfl, by rw [← h3]; simp [Tys.eachs], hB⟩
set_option maxRecDepth 100000 in
set_option maxHeartbeats 4000000 in
theorem an59 (ks : Tys) (a : Option Addr) (cap : Nat) (w : World) (hmax : ks.len ≤ 4611686018427387904) (hs : ks = .nil ∨ ∃ b o, a = some ⟨b, o, none⟩ ∧ b < w.heap.size ∧ TysAt w.heap.size w b o ks)
    (h : ∀ u v w', u.w ≤ ks.w → TyV w'.heap.size w' u v → Calls Try.prog 43 #[v] w' fun e w'' => e = .returned (.bool u.each) ∧ Below w'.heap.size w' w'') :
    Calls Try.prog 44 #[.slice a ks.len cap, .func (.func 59) #[] #[]] w fun e w' => e = .returned (.bool (!ks.eachs)) ∧ Below w.heap.size w w' := by
  have ih' := ix59 ks a cap w hmax hs h
  go_enter Try.func44, Try.ntmps44
  go_wp2_with (go_at_call 60; refine ih'.mono ?_; rintro e w' ⟨r, rfl, hr, hB'⟩)
  go_ret
  exact ⟨by rw [← hr]; rfl, hB'⟩

set_option maxRecDepth 100000 in
set_option maxHeartbeats 4000000 in
theorem is43 : ∀ (d : Nat) (t : Ty) (v : Value) (w : World), t.w ≤ d → t.w ≤ 4611686018427387904 → TyV w.heap.size w t v →
    Calls Try.prog 43 #[v] w fun e w' => e = .returned (.bool t.each) ∧ Below w.heap.size w w' := by
  intro d
  induction d with
  | zero => intro t v w hd; cases t; simp [Ty.w] at hd
  | succ d ih =>
    intro t v w hd hmax hv
    obtain ⟨op, n, ks⟩ := t
    obtain ⟨a, cap, rfl, hs⟩ := hv
    simp only [Ty.w] at hd hmax
    have hlen := Tys.len_w ks
    have hB0 : Below w.heap.size w (w.alloc (.cells #[.string op, .int .i64 n, .slice a ks.len cap] 24)) := (Below.refl _ w).alloc (Nat.le_refl _) _
    have hBN : ∀ nq, Below w.heap.size w ((w.alloc (.cells #[.string op, .int .i64 n, .slice a ks.len cap] 24)).drewN nq) := fun nq => hB0.trans ⟨rfl, rfl, rfl, Nat.le_refl _, fun _ _ => rfl⟩
    have hs1 : ∀ nq, ks = .nil ∨ ∃ b o, a = some ⟨b, o, none⟩ ∧ b < ((w.alloc (.cells #[.string op, .int .i64 n, .slice a ks.len cap] 24)).drewN nq).heap.size ∧ TysAt ((w.alloc (.cells #[.string op, .int .i64 n, .slice a ks.len cap] 24)).drewN nq).heap.size ((w.alloc (.cells #[.string op, .int .i64 n, .slice a ks.len cap] 24)).drewN nq) b o ks :=
      fun nq => hs.imp id fun ⟨b, o, e, hb, hat⟩ => ⟨b, o, e, by have := (hBN nq).size; omega, (hat.below (hBN nq) hb).mono (hBN nq).size⟩
    have ih' := fun nq => an59 ks a cap _ (by omega) (hs1 nq) (fun u v w' hu hv' => ih u v w' (by omega) (by omega) hv')
    go_enter Try.func43, Try.ntmps43
    by_cases hk : kidsN op.toList = (ks.len : Int)
    · have hk1 : ((ks.len : Int) != kidsN op.toList) = false := by simp [hk]
      have hk2 : (kidsN op.toList == (ks.len : Int)) = true := by simp [hk]
      clear hk
      by_cases hn : n < 0
      · go_wp2
        go_quiet (first | (go_at_call 58; refine Calls.quiet_of_same (kids58 op _)))
        go_wp2
        go_ret
        have hn' : ¬ 0 ≤ n := by omega
        exact ⟨by simp [Ty.each, hn'], hBN _⟩
      · have h0n : 0 ≤ n := by omega
        cases h1 : (op.toList == [118, 97, 114]) with
        | true =>
          have h1' : (op.toList != [118, 97, 114]) = false := by simp [bne, h1]
          go_wp2
          go_quiet (first | (go_at_call 58; refine Calls.quiet_of_same (kids58 op _)))
          go_wp2_with (go_at_call 44; refine (ih' _).mono ?_; rintro e w' ⟨rfl, hB'⟩)
          go_ret
          exact ⟨by simp only [Ty.each, hk2, h1, h0n]; simp, (hBN _).trans (hB'.mono (hBN _).size)⟩
        | false =>
          have h1' : (op.toList != [118, 97, 114]) = true := by simp [bne, h1]
          cases h2 : (n == 0) with
          | true =>
            have h2' : (n != 0) = false := by simp [bne, h2]
            go_wp2
            go_quiet (first | (go_at_call 58; refine Calls.quiet_of_same (kids58 op _)))
            go_wp2_with (go_at_call 44; refine (ih' _).mono ?_; rintro e w' ⟨rfl, hB'⟩)
            go_ret
            exact ⟨by simp only [Ty.each, hk2, h1, h0n, h2]; simp, (hBN _).trans (hB'.mono (hBN _).size)⟩
          | false =>
            have h2' : (n != 0) = true := by simp [bne, h2]
            go_wp2
            go_quiet (first | (go_at_call 58; refine Calls.quiet_of_same (kids58 op _)))
            go_wp2
            go_ret
            exact ⟨by simp [Ty.each, h1, h2], hBN _⟩
    · have hk1 : ((ks.len : Int) != kidsN op.toList) = true := by simp; omega
      go_wp2
      go_quiet (first | (go_at_call 58; refine Calls.quiet_of_same (kids58 op _)))
      go_wp2
      go_ret
      exact ⟨by simp [Ty.each, hk], hBN _⟩
end Go.Proofs.Ytbjcajjlpehfiaa
