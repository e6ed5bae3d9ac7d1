/- What is proved here: the law of kinds returns true. No condition. -/
import Derived.Test.YtbjcajjlpehfiaaBytes
import Derived.Test.YtbjcajjlpehfiaaKn
import Derived.Deep.RegionWith
set_option linter.unusedVariables false
set_option linter.unusedSimpArgs false
namespace Go.Proofs.Ytbjcajjlpehfiaa
open Go Go.RowKit

set_option maxRecDepth 100000 in
set_option maxHeartbeats 4000000 in
theorem plain13 (t : Ty) (v : Value) (w : World) (hv : TyV w.heap.size w t v) :
    Calls Try.prog 13 #[v] w fun e w' => (∃ b, e = .returned (.bool b) ∧ ∀ op n ks, t = .mk op n ks → b = ((op.toList == [105, 110, 116]) || (op.toList == [98, 111, 111, 108]) || (op.toList == [117, 110, 105, 116]))) ∧ Below w.heap.size w w' := by
  obtain ⟨op, n, ks⟩ := t
  obtain ⟨a, cap, rfl, hs⟩ := hv
  have b0 : Below w.heap.size w (w.alloc (.cells #[.string op, .int .i64 n, .slice a ks.len cap] 24)) := (Below.refl _ w).alloc (Nat.le_refl _) _
  go_enter Try.func13, Try.ntmps13
  go_wp2
  all_goals go_ret
  all_goals refine ⟨⟨_, rfl, fun op' n' ks' e => ?_⟩, b0⟩
  all_goals cases e
  all_goals simp_all

set_option maxRecDepth 100000 in
set_option maxHeartbeats 4000000 in
theorem law3 (t : Ty) (v : Value) (x : Int) (w : World) (hv : TyV w.heap.size w t v) :
    Calls Try.prog 3 #[v, .int .i64 x] w fun e w' => e = .returned (.bool true) ∧ Below w.heap.size w w' := by
  have h7 := fun w' (b : Below w.heap.size w w') => size_any t.w t v 100 w' (Nat.le_refl _) ((hv.below b).mono b.size) (by omega) (by omega)
  by_cases hw : t.w ≤ 50
  · rw [Ty.size_of t 100 (by omega)] at h7
    obtain ⟨op, n, ks⟩ := t
    have hv0 := hv
    obtain ⟨a, cap, rfl, hs⟩ := hv
    have b0 : Below w.heap.size w (w.alloc (.cells #[.string op, .int .i64 n, .slice a ks.len cap] 24)) := (Below.refl _ w).alloc (Nat.le_refl _) _
    go_enter Try.func3, Try.ntmps3
    go_wp2_with (first
      | (go_at_call 7; refine (h7 _ b0).mono ?_; rintro e w1 ⟨rfl, b1'⟩; obtain ⟨c10, c11, c12⟩ := box3 b1'; have b1 := b0.trans (b1'.mono b0.size))
      | (go_at_call 8; refine (new8 _).mono ?_; rintro e w2 ⟨hh, m, rfl, hge, hn, b2'⟩; obtain ⟨c20, c21, c22⟩ := box3 (b1'.trans (b2'.mono b1'.size)); have b2 := b1.trans (b2'.mono b1.size)))
    have h9 := fun w' (b : Below w.heap.size w w') (hn' : NoBlocks w' hh m) => bytes9 hh m (bits BinOp.or IntKind.i64 (wrap64 (x * 2)) 1) (.mk op n ks) _ w' hw hn' ((hv0.below b).mono b.size)
    have hd : ∀ W : World, Below W.heap.size W W.drew := fun W => ⟨rfl, rfl, rfl, Nat.le_refl _, fun _ _ => rfl⟩
    have hd2 : ∀ W : World, NoBlocks W hh m → NoBlocks W.drew hh m := fun W h => h.below (hd W)
    go_region_with (first
      | (go_at_call 10; refine (int10 x _).mono ?_; rintro e w' ⟨rfl, rfl⟩)
      | (go_at_call 9; refine (h9 _ (b2.trans ((hd w2).mono b2.size)) (hd2 w2 hn)).mono ?_; rintro e w4 ⟨⟨bv, r, rfl, hr6, hr0⟩, b4⟩))
    all_goals
      have s24 := (hd w2).trans (b4.mono (hd w2).size)
      have b5 : Below w.heap.size w w4 := b2.trans (s24.mono b2.size)
      obtain ⟨c40, c41, c42⟩ := box3 ((b1'.trans (b2'.mono b1'.size)).trans (s24.mono (Nat.le_trans b1'.size b2'.size)))
      have h11 := is11 (.mk op n ks) _ w4 hw ((hv0.below b5).mono b5.size)
      have h12 := fun w' (b : Below w.heap.size w w') => sent12 50 (.mk op n ks) _ w' hw (by omega) ((hv0.below b).mono b.size)
      have h13 := fun w' (b : Below w.heap.size w w') => plain13 (.mk op n ks) _ w' ((hv0.below b).mono b.size)
      cases he : (Ty.mk op n ks).each with
      | false =>
        rw [he] at h11 hr6
        obtain rfl : r = 6 := by simpa using hr6
        go_wp2_with (first
          | (go_at_call 11; refine h11.mono ?_; rintro e w6 ⟨rfl, b6'⟩; have b6 := b5.trans (b6'.mono b5.size))
          | (go_at_call 15; refine (known15 _).mono ?_; rintro e w7 ⟨rfl, b7'⟩; have b7 := b6.trans (b7'.mono b6.size)))
        go_ret
        exact ⟨rfl, b7⟩
      | true =>
        rw [he] at h11 hr6
        cases hs' : (Ty.mk op n ks).sent with
        | false =>
          rw [hs'] at h12 hr6
          obtain rfl : r = 6 := by simpa using hr6
          go_wp2_with (first
            | (go_at_call 11; refine h11.mono ?_; rintro e w6 ⟨rfl, b6'⟩; obtain ⟨c60, c61, c62⟩ := box3 (((b1'.trans (b2'.mono b1'.size)).trans (s24.mono (Nat.le_trans b1'.size b2'.size))).trans (b6'.mono (Nat.le_trans (Nat.le_trans b1'.size b2'.size) s24.size))); have b6 := b5.trans (b6'.mono b5.size))
            | (go_at_call 12; refine (h12 _ b6).mono ?_; rintro e w8 ⟨rfl, b8'⟩; have b8 := b6.trans (b8'.mono b6.size))
            | (go_at_call 15; refine (known15 _).mono ?_; rintro e w7 ⟨rfl, b7'⟩; have b7 := b8.trans (b7'.mono b8.size)))
          go_ret
          exact ⟨rfl, b7⟩
        | true =>
          rw [hs'] at h12 hr6
          have hr6' : ¬ r = 6 := by simpa using hr6
          by_cases h0 : r = 0
          · skip
            subst h0
            obtain ⟨op', n', ks', e', hop⟩ := hr0 rfl
            injection e' with e1 e2 e3
            subst e1; subst e2; subst e3
            by_cases hp : ((op.toList == [105, 110, 116]) || (op.toList == [98, 111, 111, 108]) || (op.toList == [117, 110, 105, 116])) = true
            · have h13' := fun w' b => (h13 w' b).mono (fun e w'' h => (⟨h.1.elim fun q hq => hq.1.trans (by rw [hq.2 _ _ _ rfl, hp]), h.2⟩ : e = .returned (.bool true) ∧ Below w'.heap.size w' w''))
              go_wp2_with (first
              | (go_at_call 11; refine h11.mono ?_; rintro e w6 ⟨rfl, b6'⟩; have s46 := (b1'.trans (b2'.mono b1'.size)).trans (s24.mono (Nat.le_trans b1'.size b2'.size)); have s6 := s46.trans (b6'.mono s46.size); obtain ⟨c60, c61, c62⟩ := box3 s6; have b6 := b5.trans (b6'.mono b5.size))
              | (go_at_call 12; refine (h12 _ b6).mono ?_; rintro e w8 ⟨rfl, b8'⟩; have s8 := s6.trans (b8'.mono s6.size); obtain ⟨c80, c81, c82⟩ := box3 s8; have b8 := b6.trans (b8'.mono b6.size))
              | (go_at_call 13; refine (h13' _ b8).mono ?_; rintro e w9 ⟨rfl, b9'⟩; have b9 := b8.trans (b9'.mono b8.size))
              | (go_at_call 15; refine (known15 _).mono ?_; rintro e w7 ⟨rfl, b7'⟩; have b7 := b9.trans (b7'.mono b9.size)))
              go_ret
              exact ⟨rfl, b7⟩
            · have hp' : ((op.toList == [105, 110, 116]) || (op.toList == [98, 111, 111, 108]) || (op.toList == [117, 110, 105, 116])) = false := by simpa using hp
              have h13' := fun w' b => (h13 w' b).mono (fun e w'' h => (⟨h.1.elim fun q hq => hq.1.trans (by rw [hq.2 _ _ _ rfl, hp']), h.2⟩ : e = .returned (.bool false) ∧ Below w'.heap.size w' w''))
              obtain ⟨hl, hx⟩ : (op.toList == [108, 105, 115, 116]) = true ∧ bits BinOp.or IntKind.i64 (wrap64 (x * 2)) 1 = 1 := by
                rcases hop with h | h | h | h
                · simp [h] at hp'
                · simp [h] at hp'
                · simp [h] at hp'
                · exact h
              have h14 := wrap14 x
              rw [wrap_one x hx] at h14
              go_wp2_with (first
              | (go_at_call 11; refine h11.mono ?_; rintro e w6 ⟨rfl, b6'⟩; have s46 := (b1'.trans (b2'.mono b1'.size)).trans (s24.mono (Nat.le_trans b1'.size b2'.size)); have s6 := s46.trans (b6'.mono s46.size); obtain ⟨c60, c61, c62⟩ := box3 s6; have b6 := b5.trans (b6'.mono b5.size))
              | (go_at_call 12; refine (h12 _ b6).mono ?_; rintro e w8 ⟨rfl, b8'⟩; have s8 := s6.trans (b8'.mono s6.size); obtain ⟨c80, c81, c82⟩ := box3 s8; have b8 := b6.trans (b8'.mono b6.size))
              | (go_at_call 13; refine (h13' _ b8).mono ?_; rintro e w9 ⟨rfl, b9'⟩; have s9 := s8.trans (b9'.mono s8.size); obtain ⟨c90, c91, c92⟩ := box3 s9; have b9 := b8.trans (b9'.mono b8.size))
              | (go_at_call 14; refine (h14 _).mono ?_; rintro e w10 ⟨rfl, rfl⟩)
              | (go_at_call 15; refine (known15 _).mono ?_; rintro e w7 ⟨rfl, b7'⟩; have b7 := b9.trans (b7'.mono b9.size)))
              go_ret
              exact ⟨rfl, b7⟩
          · have hne : (r != 0) = true := by simpa using h0
            have hne6 : (r == 6) = false := by simpa using hr6'
            go_wp2_with (first
              | (go_at_call 11; refine h11.mono ?_; rintro e w6 ⟨rfl, b6'⟩; obtain ⟨c60, c61, c62⟩ := box3 (((b1'.trans (b2'.mono b1'.size)).trans (s24.mono (Nat.le_trans b1'.size b2'.size))).trans (b6'.mono (Nat.le_trans (Nat.le_trans b1'.size b2'.size) s24.size))); have b6 := b5.trans (b6'.mono b5.size))
              | (go_at_call 12; refine (h12 _ b6).mono ?_; rintro e w8 ⟨rfl, b8'⟩; have b8 := b6.trans (b8'.mono b6.size))
              | (go_at_call 15; refine (known15 _).mono ?_; rintro e w7 ⟨rfl, b7'⟩; have b7 := b8.trans (b7'.mono b8.size)))
            go_ret
            exact ⟨rfl, b7⟩
  · have hbig : ¬ t.size 100 ≤ 50 := fun h => by
      have := Ty.size_w t 100 (by omega) (by omega)
      omega
    obtain ⟨op, n, ks⟩ := t
    obtain ⟨a, cap, rfl, hs⟩ := hv
    have b0 : Below w.heap.size w (w.alloc (.cells #[.string op, .int .i64 n, .slice a ks.len cap] 24)) := (Below.refl _ w).alloc (Nat.le_refl _) _
    go_enter Try.func3, Try.ntmps3
    go_wp2_with (first
      | (go_at_call 7; refine (h7 _ b0).mono ?_; rintro e w1 ⟨rfl, b1'⟩; have b1 := b0.trans (b1'.mono b0.size)))
    go_ret
    exact ⟨rfl, b1⟩
end Go.Proofs.Ytbjcajjlpehfiaa
