/- What is proved here: a number picked by a type. No condition. -/
import Derived.Test.YtbjcajjlpehfiaaBlock
set_option linter.unusedVariables false
set_option linter.unusedSimpArgs false
namespace Go.Proofs.Ytbjcajjlpehfiaa
open Go Go.RowKit

theorem NoBlocks.below {w w' : World} {h m : Nat} (n : NoBlocks w h m) (b : Below w.heap.size w w') : NoBlocks w' h m := by
  obtain ⟨⟨a, c, T, hh⟩, clk, hm⟩ := n
  exact ⟨⟨a, c, T, (b.block h (Array.getElem?_eq_some_iff.1 hh).1).trans hh⟩, clk, (b.block m (Array.getElem?_eq_some_iff.1 hm).1).trans hm⟩

set_option maxRecDepth 100000 in
set_option maxHeartbeats 4000000 in
theorem int10 (n : Int) (w : World) : Calls Try.prog 10 #[.int .i64 n] w fun e w' => e = .returned (.int .i64 (bits BinOp.or IntKind.i64 (wrap64 (n * 2)) 1)) ∧ w' = w := by
  go_enter Try.func10, Try.ntmps10
  go_wp2
  go_ret
  exact ⟨rfl, rfl⟩

set_option maxRecDepth 100000 in
set_option maxHeartbeats 4000000 in
theorem block49 (bp hh m : Nat) (sl ms : Value) (x first : Int) (t : Ty) (v : Value) (w : World) (hb : w.heap[bp]? = some (.cells #[.pointer (some ⟨hh, 0, none⟩), sl, ms] 65)) (hn : NoBlocks w hh m) (hv : TyV w.heap.size w t v)
    (hk : ∀ op n ks, t = .mk op n ks → (op.toList == [108, 105, 115, 116]) = true → 1 ≤ ks.len) :
    Calls Try.prog 49 #[.pointer (some ⟨bp, 0, none⟩), .int .i64 x, v, .int .u64 first] w fun e w' => e = .returned (.int .i64 1) ∧ Below w.heap.size w w' := by
  have hlt : bp < w.heap.size := (Array.getElem?_eq_some_iff.1 hb).1
  have hv0 := hv
  obtain ⟨op, n, ks⟩ := t
  obtain ⟨a, cap, rfl, hs⟩ := hv
  have hB0 : Below w.heap.size w (w.alloc (.cells #[.string op, .int .i64 n, .slice a ks.len cap] 24)) := (Below.refl _ w).alloc (Nat.le_refl _) _
  have hsh := shape66 (.mk op n ks) (.agg #[.string op, .int .i64 n, .slice a ks.len cap])
  have htg := fun w' (b : Below w.heap.size w w') => tag67 hh m x w' (hn.below b)
  have hc : ∀ w', Below w.heap.size w w' → w'.cell? ⟨bp, 0, none⟩ = some (.pointer (some ⟨hh, 0, none⟩)) := fun w' b => by
    have := (b.block bp hlt).trans hb
    simp [World.cell?, this]
  go_enter Try.func49, Try.ntmps49
  go_wp2_with (first
    | (go_at_call 66; refine (hsh _ ((hv0.below hB0).mono hB0.size) hk).mono ?_; rintro e w1 ⟨⟨tag, kids, rfl, htag⟩, hB0'⟩; have hB1 := hB0.trans (hB0'.mono hB0.size); have hc1 := hc w1 hB1; have htg1 := htg w1 hB1)
    | (go_at_call 67; refine htg1.mono ?_; rintro e w2 ⟨rfl, rfl⟩))
  all_goals go_ret
  all_goals exact ⟨rfl, hB1⟩

theorem word0 : bits BinOp.or IntKind.i64 (wrap64 (0 * 2)) 1 = 1 := by kernel_rfl

set_option maxRecDepth 100000 in
set_option maxHeartbeats 4000000 in
theorem value25 (bp hh m ms : Nat) (x : Int) (t : Ty) (v : Value) (w : World) (hb : w.heap[bp]? = some (.cells #[.pointer (some ⟨hh, 0, none⟩), .slice none 0 0, .map (some ms)] 65)) (hn : NoBlocks w hh m) (hs : ∃ clk, w.heap[ms]? = some (.map #[] clk)) (hv : TyV w.heap.size w t v)
    (hk : ∀ op n ks, t = .mk op n ks → (op.toList == [108, 105, 115, 116]) = true → 1 ≤ ks.len) :
    Calls Try.prog 25 #[.pointer (some ⟨bp, 0, none⟩), .int .i64 x, v] w fun e w' => (∃ r : Int, e = .returned (.int .i64 r) ∧ (r = 0 ∨ r = 1) ∧ (r = 0 → ∃ op n ks, t = .mk op n ks ∧ ((op.toList == [105, 110, 116]) = true ∨ (op.toList == [98, 111, 111, 108]) = true ∨ (op.toList == [117, 110, 105, 116]) = true ∨ ((op.toList == [108, 105, 115, 116]) = true ∧ x = 1)))) ∧
      PB bp (.pointer (some ⟨hh, 0, none⟩)) (.map (some ms)) w' ∧ ButOne bp w w' := by
  have hlt : bp < w.heap.size := (Array.getElem?_eq_some_iff.1 hb).1
  obtain ⟨clk, hms⟩ := hs
  have hv0 := hv
  obtain ⟨op, n, ks⟩ := t
  obtain ⟨a, cap, rfl, hs⟩ := hv
  obtain ⟨W1, hW1⟩ : ∃ W1, w.alloc (.cells #[.string op, .int .i64 n, .slice a ks.len cap] 24) = W1 := ⟨_, rfl⟩
  have hB0 : Below w.heap.size w W1 := by rw [← hW1]; exact (Below.refl _ w).alloc (Nat.le_refl _) _
  have hb1 := (hB0.block bp hlt).trans hb
  have hms1 := (hB0.block ms (Array.getElem?_eq_some_iff.1 hms).1).trans hms
  have hn1 := hn.below hB0
  have c0 : W1.cell? ⟨bp, 2, none⟩ = some (.map (some ms)) := by simp [World.cell?, hb1]
  have hnum := fun many hm => number46 bp (.pointer (some ⟨hh, 0, none⟩)) (.map (some ms)) x many W1 hb1 hm
  have hput := puts47i bp (.pointer (some ⟨hh, 0, none⟩)) (.map (some ms)) 0 W1 hb1 (by omega) (by omega)
  have hblk := fun first W2 (h2 : Below W1.heap.size W1 W2) => block49 bp hh m (.slice none 0 0) (.map (some ms)) x first (.mk op n ks) _ W2 ((h2.block bp (Nat.lt_of_lt_of_le hlt hB0.size)).trans hb1) (hn1.below h2) ((hv0.below (hB0.trans (h2.mono hB0.size))).mono (Nat.le_trans hB0.size h2.size)) hk
  have hint := int10 0 W1
  rw [word0] at hint
  have back : ∀ w', ButOne bp W1 w' → ButOne bp w w' := fun w' h => ⟨h.os.trans hB0.os, h.tape.trans hB0.tape, h.out.trans hB0.output, Nat.le_trans hB0.size h.size, fun k hk hne => (h.blk k (Nat.lt_of_lt_of_le hk hB0.size) hne).trans (hB0.block k hk)⟩
  have ofB : ∀ w', Below W1.heap.size W1 w' → ButOne bp w w' ∧ w'.heap[bp]? = some (.cells #[.pointer (some ⟨hh, 0, none⟩), .slice none 0 0, .map (some ms)] 65) := fun w' h =>
    ⟨back w' ⟨h.os, h.tape, h.output, h.size, fun k hk _ => h.block k hk⟩, (h.block bp (Nat.lt_of_lt_of_le hlt hB0.size)).trans hb1⟩
  have hl := fun x => look_empty (t := 63) (q := .i64) (x := x) (w := W1) true Try.underlying63 (by kernel_rfl) hms1 (Try.zeroValue94 _)
  simp only [if_true] at hl
  subst hW1
  cases h1 : (op.toList == [105, 110, 116]) with
  | true =>
    go_enter Try.func25, Try.ntmps25
    go_wp2_with (go_at_call 46; refine (hnum _ (.inl rfl)).mono ?_; rintro e w' ⟨⟨r, rfl, hr⟩, hpb, hone⟩)
    go_ret
    exact ⟨⟨r, rfl, hr, fun _ => ⟨op, n, ks, rfl, .inl h1⟩⟩, hpb, back _ hone⟩
  | false =>
  cases h2 : (op.toList == [98, 111, 111, 108]) with
  | true =>
    go_enter Try.func25, Try.ntmps25
    go_wp2_with (go_at_call 46; refine (hnum _ (.inr (.inr rfl))).mono ?_; rintro e w' ⟨⟨r, rfl, hr⟩, hpb, hone⟩)
    go_ret
    exact ⟨⟨r, rfl, hr, fun _ => ⟨op, n, ks, rfl, .inr (.inl h2)⟩⟩, hpb, back _ hone⟩
  | false =>
  cases h3 : (op.toList == [117, 110, 105, 116]) with
  | true =>
    go_enter Try.func25, Try.ntmps25
    go_wp2_with (go_at_call 46; refine (hnum _ (.inr (.inl rfl))).mono ?_; rintro e w' ⟨⟨r, rfl, hr⟩, hpb, hone⟩)
    go_ret
    exact ⟨⟨r, rfl, hr, fun _ => ⟨op, n, ks, rfl, .inr (.inr (.inl h3))⟩⟩, hpb, back _ hone⟩
  | false =>
  cases h4 : (op.toList == [108, 105, 115, 116]) with
  | true =>
    by_cases hx : x = 1
    · subst hx
      go_enter Try.func25, Try.ntmps25
      go_wp2_with (first
        | (go_at_call 10; refine hint.mono ?_; rintro e w' ⟨rfl, rfl⟩)
        | (go_at_call 47; refine hput.mono ?_; rintro e w' ⟨⟨r, rfl⟩, ⟨g, l, cap2, hp1, hp2⟩, hone⟩))
      go_ret
      exact ⟨⟨0, rfl, .inl rfl, fun _ => ⟨op, n, ks, rfl, .inr (.inr (.inr ⟨h4, by trivial⟩))⟩⟩, ⟨_, hp1, .inr ⟨g, l, cap2, rfl, hp2⟩⟩, back _ hone⟩
    · have hx' : (x == 1) = false := by simp [hx]
      go_enter Try.func25, Try.ntmps25
      go_wp2_with (first
        | (go_at_call 10; refine hint.mono ?_; rintro e w' ⟨rfl, rfl⟩)
        | (go_at_call 49; refine (hblk _ _ ((Below.refl _ _).alloc (Nat.le_refl _) _)).mono ?_; rintro e w' ⟨rfl, hB'⟩; have hB' := ((Below.refl _ _).alloc (Nat.le_refl _) _ : Below _ _ _).trans (hB'.mono (by simp))))
      go_ret
      obtain ⟨b1, b2⟩ := ofB _ hB'
      exact ⟨⟨1, rfl, .inr rfl, fun h => by cases h⟩, ⟨_, b2, .inl rfl⟩, b1⟩
  | false =>
    go_enter Try.func25, Try.ntmps25
    go_wp2_with (first
      | (go_at_call 10; refine hint.mono ?_; rintro e w' ⟨rfl, rfl⟩)
      | (go_at_call 49; refine (hblk _ _ ((Below.refl _ _).alloc (Nat.le_refl _) _)).mono ?_; rintro e w' ⟨rfl, hB'⟩; have hB' := ((Below.refl _ _).alloc (Nat.le_refl _) _ : Below _ _ _).trans (hB'.mono (by simp))))
    go_ret
    obtain ⟨b1, b2⟩ := ofB _ hB'
    exact ⟨⟨1, rfl, .inr rfl, fun h => by cases h⟩, ⟨_, b2, .inl rfl⟩, b1⟩
end Go.Proofs.Ytbjcajjlpehfiaa
