/- What is proved here: the document's test of each node. No condition. -/
import Derived.Test.YtbjcajjlpehfiaaKinds
import Derived.Deep.QuietTactic
import Derived.BigQuiet
set_option linter.unusedVariables false
set_option linter.unusedSimpArgs false
namespace Go.Proofs.Ytbjcajjlpehfiaa
open Go Go.RowKit

set_option maxRecDepth 100000 in
set_option maxHeartbeats 4000000 in
theorem each26 : ∀ (d : Nat) (t : Ty) (v : Value) (w : World), t.w ≤ d → t.w ≤ 4611686018427387904 → TyV w.heap.size w t v →
    Calls Try.prog 26 #[v] w fun e w' => e = .returned (.bool t.each) ∧ Below w.heap.size w w' := by
  intro d
  induction d with
  | zero => intro t v w hd; cases t; simp [Ty.w] at hd
  | succ d ih =>
    intro t v w hd hmax hv
    obtain ⟨op, n, ks⟩ := t
    obtain ⟨a, cap, rfl, hs⟩ := hv
    go_enter Try.func26, Try.ntmps26
    have hlen : ks.len ≤ ks.w := Tys.len_w ks
    simp only [Ty.w] at hmax
    have hB0 : Below w.heap.size w (w.alloc (.cells #[.string op, .int .i64 n, .slice a ks.len cap] 24)) := (Below.refl _ w).alloc (Nat.le_refl _) _
    have hBN : ∀ nq, Below w.heap.size w ((w.alloc (.cells #[.string op, .int .i64 n, .slice a ks.len cap] 24)).drewN nq) := fun nq => hB0.trans ⟨rfl, rfl, rfl, Nat.le_refl _, fun _ _ => rfl⟩
    by_cases hk : kidsN op.toList = (ks.len : Int)
    · by_cases hn : n < 0
      · go_wp2
        go_quiet (first | (go_at_call 50; refine Calls.quiet_of_same (kids50 op _)))
        go_wp2
        go_ret
        have hn' : ¬ 0 ≤ n := by omega
        exact ⟨by simp [Ty.each, hn'], hBN _⟩
      · cases h1 : (op.toList == [118, 97, 114]) with
        | true =>
          go_wp2
          go_quiet (first | (go_at_call 50; refine Calls.quiet_of_same (kids50 op _)))
          go_wp2
          have h0n : 0 ≤ n := by omega
          obtain ⟨W1, hW1⟩ : ∃ W1, (w.alloc (.cells #[.string op, .int .i64 n, .slice a ks.len cap] 24)).drewN nq = W1 := ⟨_, rfl⟩
          have hbx : W1.heap[w.heap.size]? = some (.cells #[.string op, .int .i64 n, .slice a ks.len cap] 24) := by
            rw [← hW1]; show (w.heap.push _)[_]? = _; simp
          have hsz : W1.heap.size = w.heap.size + 1 := by rw [← hW1]; simp
          have hB1 : Below w.heap.size w W1 := by rw [← hW1]; exact hBN _
          rw [hW1]
          clear hW1
          go_loopw [3] (fun i wr => ∃ (j : Nat), j ≤ ks.len ∧ i = .int .i64 (j : Int) ∧ (ks.drop j).eachs = ks.eachs ∧ Below W1.heap.size W1 wr)
            (fun i _ => ks.len - (intOf i).toNat)
          case atStart => exact ⟨0, Nat.zero_le _, rfl, by cases ks <;> rfl, Below.refl _ _⟩
          case round =>
            obtain ⟨j, hj, rfl, h3, hB⟩ := hrel
            have hc : wr.cell? ⟨w.heap.size, 2, none⟩ = some (.slice a ks.len cap) := by
              have := (hB.block w.heap.size (by omega)).trans hbx
              simp [World.cell?, this]
            have hBw : Below w.heap.size w wr := hB1.trans (hB.mono (by omega))
            by_cases hlt : j < ks.len
            · obtain ⟨u, hu, hdr⟩ := Tys.drop_lt ks j hlt
              obtain ⟨b, o, rfl, hb, hat⟩ := hs.resolve_left (fun e => by subst e; simp [Tys.len] at hlt)
              obtain ⟨v0, v1, v2, c0, c1, c2, hv'⟩ := (hat.below hBw hb).get hu
              have hw : u.w ≤ d := by have := Tys.get_w hu; simp only [Ty.w] at hd; omega
              have ih' := ih u _ wr hw (by have := Tys.get_w hu; omega) (hv'.mono hBw.size)
              cases hsu : u.each with
              | false =>
                rw [hsu] at ih'
                go_wp2_with (go_at_call 26; refine ih'.mono ?_; rintro e w' ⟨rfl, hB'⟩)
                go_ret
                exact ⟨by simp only [Ty.each]; rw [← h3, hdr]; simp [Tys.eachs, hsu], hBw.trans (hB'.mono hBw.size)⟩
              | true =>
                rw [hsu] at ih'
                go_wp2_with (go_at_call 26; refine ih'.mono ?_; rintro e w' ⟨rfl, hB'⟩)
                go_roundw
                case rel => exact ⟨j + 1, by omega, by simp, by rw [← h3, hdr]; simp [Tys.eachs, hsu], hB.trans (hB'.mono hB.size)⟩
                case measure => simp [intOf]; omega
            · go_wp2
              go_ret
              obtain rfl : j = ks.len := by omega
              rw [Tys.drop_len] at h3
              exact ⟨by simp [Ty.each, hk, h0n, h1, ← h3, Tys.eachs], hBw⟩
        | false =>
          by_cases h2 : n = 0
          · have h2' : (n != 0) = false := by simp [h2]
            have h2h : (n == 0) = true := by simp [h2]
            have h0n : 0 ≤ n := by omega
            clear h2
            go_wp2
            go_quiet (first | (go_at_call 50; refine Calls.quiet_of_same (kids50 op _)))
            go_wp2
            obtain ⟨W1, hW1⟩ : ∃ W1, (w.alloc (.cells #[.string op, .int .i64 n, .slice a ks.len cap] 24)).drewN nq = W1 := ⟨_, rfl⟩
            have hbx : W1.heap[w.heap.size]? = some (.cells #[.string op, .int .i64 n, .slice a ks.len cap] 24) := by
              rw [← hW1]; show (w.heap.push _)[_]? = _; simp
            have hsz : W1.heap.size = w.heap.size + 1 := by rw [← hW1]; simp
            have hB1 : Below w.heap.size w W1 := by rw [← hW1]; exact hBN _
            rw [hW1]
            clear hW1
            go_loopw [3] (fun i wr => ∃ (j : Nat), j ≤ ks.len ∧ i = .int .i64 (j : Int) ∧ (ks.drop j).eachs = ks.eachs ∧ Below W1.heap.size W1 wr)
              (fun i _ => ks.len - (intOf i).toNat)
            case atStart => exact ⟨0, Nat.zero_le _, rfl, by cases ks <;> rfl, Below.refl _ _⟩
            case round =>
              obtain ⟨j, hj, rfl, h3, hB⟩ := hrel
              have hc : wr.cell? ⟨w.heap.size, 2, none⟩ = some (.slice a ks.len cap) := by
                have := (hB.block w.heap.size (by omega)).trans hbx
                simp [World.cell?, this]
              have hBw : Below w.heap.size w wr := hB1.trans (hB.mono (by omega))
              by_cases hlt : j < ks.len
              · obtain ⟨u, hu, hdr⟩ := Tys.drop_lt ks j hlt
                obtain ⟨b, o, rfl, hb, hat⟩ := hs.resolve_left (fun e => by subst e; simp [Tys.len] at hlt)
                obtain ⟨v0, v1, v2, c0, c1, c2, hv'⟩ := (hat.below hBw hb).get hu
                have hw : u.w ≤ d := by have := Tys.get_w hu; simp only [Ty.w] at hd; omega
                have ih' := ih u _ wr hw (by have := Tys.get_w hu; omega) (hv'.mono hBw.size)
                cases hsu : u.each with
                | false =>
                  rw [hsu] at ih'
                  go_wp2_with (go_at_call 26; refine ih'.mono ?_; rintro e w' ⟨rfl, hB'⟩)
                  go_ret
                  exact ⟨by simp only [Ty.each]; rw [← h3, hdr]; simp [Tys.eachs, hsu], hBw.trans (hB'.mono hBw.size)⟩
                | true =>
                  rw [hsu] at ih'
                  go_wp2_with (go_at_call 26; refine ih'.mono ?_; rintro e w' ⟨rfl, hB'⟩)
                  go_roundw
                  case rel => exact ⟨j + 1, by omega, by simp, by rw [← h3, hdr]; simp [Tys.eachs, hsu], hB.trans (hB'.mono hB.size)⟩
                  case measure => simp [intOf]; omega
              · go_wp2
                go_ret
                obtain rfl : j = ks.len := by omega
                rw [Tys.drop_len] at h3
                exact ⟨by simp only [Ty.each, hk, h2h, h0n, ← h3, Tys.eachs]; simp, hBw⟩
          · have h2' : (n != 0) = true := by simp [h2]
            go_wp2
            go_quiet (first | (go_at_call 50; refine Calls.quiet_of_same (kids50 op _)))
            go_wp2
            go_ret
            exact ⟨by simp [Ty.each, h1, h2], hBN _⟩
    · go_wp2
      go_quiet (first | (go_at_call 50; refine Calls.quiet_of_same (kids50 op _)))
      go_wp2
      go_ret
      exact ⟨by simp [Ty.each, hk], hBN _⟩
end Go.Proofs.Ytbjcajjlpehfiaa
