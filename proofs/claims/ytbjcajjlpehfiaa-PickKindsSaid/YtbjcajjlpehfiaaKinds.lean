/- What is proved here: what a type's Op says, by Go's text and by the document's. No condition. -/
import Derived.Test.YtbjcajjlpehfiaaTy
set_option linter.unusedVariables false
set_option linter.unusedSimpArgs false
namespace Go.Proofs.Ytbjcajjlpehfiaa
open Go Go.RowKit

/-- how many kids an Op has -/
def kidsN (l : List UInt8) : Int :=
  if l == [105, 110, 116] || l == [98, 111, 111, 108] || l == [117, 110, 105, 116] || l == [115, 116, 114, 105, 110, 103] || l == [99, 101, 108, 108] || l == [118, 97, 114] then 0
  else if l == [108, 105, 115, 116] || l == [114, 101, 102] then 1
  else if l == [112, 97, 105, 114] || l == [102, 117, 110] then 2
  else -1
set_option maxRecDepth 100000 in
set_option maxHeartbeats 4000000 in
theorem kids50 (op : ByteArray) (w : World) : Calls Try.prog 50 #[.string op] w fun e w' => e = .returned (.int .i64 (kidsN op.toList)) ∧ w' = w := by
  go_enter Try.func50, Try.ntmps50
  go_wp2
  all_goals go_ret
  all_goals refine ⟨?_, rfl⟩
  all_goals simp_all [kidsN]
set_option maxRecDepth 100000 in
set_option maxHeartbeats 4000000 in
theorem kids58 (op : ByteArray) (w : World) : Calls Try.prog 58 #[.string op] w fun e w' => e = .returned (.int .i64 (kidsN op.toList)) ∧ w' = w := by
  go_enter Try.func58, Try.ntmps58
  go_wp2
  all_goals go_ret
  all_goals refine ⟨?_, rfl⟩
  all_goals simp_all [kidsN]

mutual
/-- is each node what its Op says? -/
def Ty.each : Ty → Bool
  | .mk op n ks => kidsN op.toList == (ks.len : Int) && decide (0 ≤ n) && (op.toList == [118, 97, 114] || n == 0) && ks.eachs
def Tys.eachs : Tys → Bool
  | .nil => true
  | .cons t ts => t.each && ts.eachs
/-- has it no var and no fun? -/
def Ty.sent : Ty → Bool
  | .mk op n ks => !(op.toList == [118, 97, 114]) && !(op.toList == [102, 117, 110]) && ks.sents
def Tys.sents : Tys → Bool
  | .nil => true
  | .cons t ts => t.sent && ts.sents
end

set_option maxRecDepth 100000 in
set_option maxHeartbeats 4000000 in
theorem sent12 : ∀ (d : Nat) (t : Ty) (v : Value) (w : World), t.w ≤ d → t.w ≤ 4611686018427387904 → TyV w.heap.size w t v →
    Calls Try.prog 12 #[v] w fun e w' => e = .returned (.bool t.sent) ∧ Below w.heap.size w w' := by
  intro d
  induction d with
  | zero => intro t v w hd; cases t; simp [Ty.w] at hd
  | succ d ih =>
    intro t v w hd hmax hv
    obtain ⟨op, n, ks⟩ := t
    obtain ⟨a, cap, rfl, hs⟩ := hv
    have hB1 : Below w.heap.size w (w.alloc (.cells #[.string op, .int .i64 n, .slice a ks.len cap] 24)) := (Below.refl _ w).alloc (Nat.le_refl _) _
    cases h1 : (op.toList == [118, 97, 114]) with
    | true =>
      go_enter Try.func12, Try.ntmps12
      go_wp2
      go_ret
      exact ⟨by simp [Ty.sent, h1], hB1⟩
    | false =>
    cases h2 : (op.toList == [102, 117, 110]) with
    | true =>
      go_enter Try.func12, Try.ntmps12
      go_wp2
      go_ret
      exact ⟨by simp [Ty.sent, h2], hB1⟩
    | false =>
    go_enter Try.func12, Try.ntmps12
    go_wp2
    have hlen : ks.len ≤ ks.w := Tys.len_w ks
    obtain ⟨W1, hW1⟩ : ∃ W1, w.alloc (.cells #[.string op, .int .i64 n, .slice a ks.len cap] 24) = W1 := ⟨_, rfl⟩
    have hbx : W1.heap[w.heap.size]? = some (.cells #[.string op, .int .i64 n, .slice a ks.len cap] 24) := by
      rw [← hW1]; show (w.heap.push _)[_]? = _; simp
    have hsz : W1.heap.size = w.heap.size + 1 := by rw [← hW1]; simp
    rw [hW1] at hB1 ⊢
    clear hW1
    go_loopw [3] (fun i wr => ∃ (j : Nat), j ≤ ks.len ∧ i = .int .i64 (j : Int) ∧ (ks.drop j).sents = ks.sents ∧ Below W1.heap.size W1 wr)
      (fun i _ => ks.len - (intOf i).toNat)
    case atStart => exact ⟨0, Nat.zero_le _, rfl, by cases ks <;> rfl, Below.refl _ _⟩
    case round =>
      obtain ⟨j, hj, rfl, h3, hB⟩ := hrel
      have hc : wr.cell? ⟨w.heap.size, 2, none⟩ = some (.slice a ks.len cap) := by
        have := (hB.block w.heap.size (by omega)).trans hbx
        simp [World.cell?, this]
      have hBw : Below w.heap.size w wr := hB1.trans (hB.mono (by omega))
      by_cases hlt : j < ks.len
      · obtain ⟨u, hu, hdr⟩ := Tys.drop_lt ks j hlt
        obtain ⟨b, o, rfl, hb, hat⟩ := hs.resolve_left (fun e => by subst e; simp [Tys.len] at hlt)
        obtain ⟨v0, v1, v2, c0, c1, c2, hv'⟩ := (hat.below hBw hb).get hu
        have hw : u.w ≤ d := by have := Tys.get_w hu; simp only [Ty.w] at hd; omega
        have ih' := ih u _ wr hw (by have := Tys.get_w hu; simp only [Ty.w] at hmax; omega) (hv'.mono hBw.size)
        simp only [Ty.w] at hmax
        cases hsu : u.sent with
        | false =>
          rw [hsu] at ih'
          go_wp2_with (go_at_call 12; refine ih'.mono ?_; rintro e w' ⟨rfl, hB'⟩)
          go_ret
          exact ⟨by simp only [Ty.sent]; rw [← h3, hdr]; simp [Tys.sents, hsu], hBw.trans (hB'.mono hBw.size)⟩
        | true =>
          rw [hsu] at ih'
          go_wp2_with (go_at_call 12; refine ih'.mono ?_; rintro e w' ⟨rfl, hB'⟩)
          go_roundw
          case rel => exact ⟨j + 1, by omega, by simp, by rw [← h3, hdr]; simp [Tys.sents, hsu], hB.trans (hB'.mono hB.size)⟩
          case measure => simp [intOf]; omega
      · go_wp2
        go_ret
        obtain rfl : j = ks.len := by omega
        rw [Tys.drop_len] at h3
        exact ⟨by simp [Ty.sent, h1, h2, ← h3, Tys.sents], hBw⟩
end Go.Proofs.Ytbjcajjlpehfiaa
