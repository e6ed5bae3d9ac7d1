/- What is proved here: a number's bytes are ten at the most. No condition. -/
import Derived.WalkKit
import Derived.ProofKit
import Derived.Below
import Derived.Maps.AppendAt
import Derived.Test.YtbjcajjlpehfiaaProg
set_option linter.unusedVariables false
set_option linter.unusedSimpArgs false
namespace Go.Proofs.Ytbjcajjlpehfiaa
open Go Go.RowKit

theorem info5 : (Try.prog.info? 5).map (fun i => (i.zero, i.size, i.bytes)) = some (some (.int .u8 0), 1, 1) := by kernel_rfl

set_option maxRecDepth 100000 in
set_option maxHeartbeats 4000000 in
theorem put64 (v : Nat) (w : World) (hv : v < 18446744073709551616) : Calls Try.prog 64 #[.int .u64 (v : Int)] w fun e w' =>
    ∃ x l xs, e = .returned x ∧ 1 ≤ l ∧ l ≤ 10 ∧ w'.ownsRow w.heap.size 5 1 x l xs ∧ (∀ u ∈ xs, u.oneCell' = true) ∧ Below w.heap.size w w' := by
  obtain ⟨i0, hi, hz0, hz1, hz2⟩ := info_parts info5
  go_enter Try.func64, Try.ntmps64
  go_wp2
  go_loopw [0, 3] (fun u b wr => ∃ (k vv : Nat) (xs : List Value), u = .int .u64 (vv : Int) ∧ vv < 2 ^ (64 - 7 * k) ∧ k ≤ 9 ∧ wr.ownsRow w.heap.size 5 1 b k xs ∧ (∀ u ∈ xs, u.oneCell' = true) ∧ Below w.heap.size w wr)
    (fun u _ _ => (intOf u).toNat)
  case atStart => exact ⟨0, v, [], rfl, by simpa using hv, by omega, World.ownsRow_nil _ _ _ _, by simp, Below.refl _ _⟩
  case round =>
    obtain ⟨k, vv, xs, rfl, hvv, hk9, hown, hone, hB⟩ := hrel
    by_cases hlt : 128 ≤ vv
    · have hk : k ≤ 8 := by
        rcases Nat.lt_or_ge k 9 with h | h
        · omega
        · have : k = 9 := by omega
          subst this; simp at hvv; omega
      go_wp2_with (first
        | (at_builtin; refine wpList_append_own _ rfl _ _ 28 rfl w.heap.size 5 i0 (.int .u8 0) 1 1 Try.underlying28 hi hz0 hz1 hz2 rfl (by decide) _ _ _ rfl (hown.alloc _) ⟨wr.heap.size, 0, none⟩ 1 1 [_] rfl rfl (cell_one_new _ _ _) ?c2 ?c3 ?c4 ?c5 ?_)
        | go_in)
      case c2 => intro u hu; simp at hu; subst hu; rfl
      case c3 => unfold maxLen; omega
      case c4 => omega
      case c5 => have := hB.size; simp; omega
      · intro v' w1 hown' hgrow _
        have hB' : Below w.heap.size w w1 := (hB.alloc hB.size _).grown hgrow (by have := hB.size; simp; omega) (fun j hj => (hown.lt j hj).1)
        go_wp2
        go_roundw
        case rel => exact ⟨k + 1, vv / 128, _, by simp, by
          have : 2 ^ (64 - 7 * k) = 2 ^ (64 - 7 * (k + 1)) * 128 := by rw [show 64 - 7 * k = 64 - 7 * (k + 1) + 7 by omega, Nat.pow_add]
          omega, by omega, hown', by
          intro u hu
          rcases List.mem_append.1 hu with h | h
          · exact hone u h
          · simp at h; subst h; rfl, hB'⟩
        case measure => simp [intOf]; omega
    · go_wp2_with (first
        | (at_builtin; refine wpList_append_own _ rfl _ _ 28 rfl w.heap.size 5 i0 (.int .u8 0) 1 1 Try.underlying28 hi hz0 hz1 hz2 rfl (by decide) _ _ _ rfl (hown.alloc _) ⟨wr.heap.size, 0, none⟩ 1 1 [_] rfl rfl (cell_one_new _ _ _) ?d2 ?d3 ?d4 ?d5 ?_)
        | go_in)
      case d2 => intro u hu; simp at hu; subst hu; rfl
      case d3 => unfold maxLen; omega
      case d4 => omega
      case d5 => have := hB.size; simp; omega
      · intro v' w1 hown' hgrow _
        have hB' : Below w.heap.size w w1 := (hB.alloc hB.size _).grown hgrow (by have := hB.size; simp; omega) (fun j hj => (hown.lt j hj).1)
        go_wp2
        go_ret
        refine ⟨_, _, _, rfl, by omega, by omega, hown', ?_, hB'⟩
        intro u hu
        rcases List.mem_append.1 hu with h | h
        · exact hone u h
        · simp at h; subst h; rfl

theorem put64b (v : Nat) (w : World) (hv : v < 18446744073709551616) : Calls Try.prog 64 #[.int .u64 (v : Int)] w fun e w' =>
    ∃ (g cap l : Nat) (xs : List Value), e = .returned (.slice (some ⟨g, 0, none⟩) l cap) ∧ 1 ≤ l ∧ l ≤ 10 ∧ xs.length = l * 1 ∧ w.heap.size ≤ g ∧ (∃ cur, w'.heap[g]? = some (.cells cur 5 (0, 0)) ∧ ∀ (j : Nat) (u : Value), xs[j]? = some u → cur[j]? = some u) ∧ (∀ u ∈ xs, u.oneCell' = true) ∧ Below w.heap.size w w' := by
  refine (put64 v w hv).mono ?_
  rintro e w' ⟨x, l, xs, rfl, h1, h2, ⟨hl, ho⟩, h4, hB⟩
  rcases ho with ⟨_, h0⟩ | ⟨g, cap, cur, rfl, hg, hc, _, _, _, ht⟩
  · omega
  · refine ⟨g, cap, l, xs, rfl, h1, h2, hl, hg, ⟨cur, hc, fun j u hu => ?_⟩, h4, hB⟩
    rw [← ht, List.getElem?_take] at hu
    split at hu
    · rw [← Array.getElem?_toList]; exact hu
    · cases hu
end Go.Proofs.Ytbjcajjlpehfiaa
