/- What is proved here: types that are types; a new heap; bytes of a number by any type. No condition. -/
import Derived.Test.YtbjcajjlpehfiaaEach
import Derived.Test.YtbjcajjlpehfiaaIs
import Derived.Test.YtbjcajjlpehfiaaTyp
import Derived.Test.YtbjcajjlpehfiaaValue
set_option linter.unusedVariables false
set_option linter.unusedSimpArgs false
namespace Go.Proofs.Ytbjcajjlpehfiaa
open Go Go.RowKit

mutual
theorem Ty.size_w : ∀ (t : Ty) (most : Int), 1 < most → t.size most < most → t.size most = (t.w : Int)
  | .mk _ _ ks, most, h, h1 => by
    simp only [Ty.size, Ty.w] at h1 ⊢
    have := Tys.sizes_w ks most 1 (by omega) h1
    omega
theorem Tys.sizes_w : ∀ (ts : Tys) (most k : Int), 1 ≤ k → ts.sizes most k < most → ts.sizes most k = k + (ts.w : Int)
  | .nil, most, k, hk, h => by simp [Tys.sizes, Tys.w]
  | .cons t ts, most, k, hk, h => by
    simp only [Tys.sizes, Tys.w] at h ⊢
    split at h
    · next hlt =>
      rw [if_pos hlt]
      have h1 := Ty.size_le t (most - k)
      have h2 := Tys.sizes_w ts most (k + t.size (most - k)) (by omega) h
      by_cases h3 : 1 < most - k
      · have h4 : t.size (most - k) < most - k := by omega
        have h5 := Ty.size_w t (most - k) h3 h4
        omega
      · omega
    · omega
end
mutual
theorem Ty.size_of : ∀ (t : Ty) (most : Int), (t.w : Int) < most → t.size most = (t.w : Int)
  | .mk _ _ ks, most, h => by
    simp only [Ty.size, Ty.w] at h ⊢
    have := Tys.sizes_of ks most 1 (by omega)
    omega
theorem Tys.sizes_of : ∀ (ts : Tys) (most k : Int), k + (ts.w : Int) < most → ts.sizes most k = k + (ts.w : Int)
  | .nil, most, k, h => by simp [Tys.sizes, Tys.w]
  | .cons t ts, most, k, h => by
    simp only [Tys.sizes, Tys.w] at h ⊢
    rw [if_pos (by omega)]
    have h1 := Ty.size_of t (most - k) (by omega)
    have h2 := Tys.sizes_of ts most (k + t.size (most - k)) (by omega)
    omega
end

theorem box3 {w W : World} {a b c : Value} {T : TypeId} (h : Below (w.alloc (.cells #[a, b, c] T)).heap.size (w.alloc (.cells #[a, b, c] T)) W) :
    W.cell? ⟨w.heap.size, 0, none⟩ = some a ∧ W.cell? ⟨w.heap.size, 1, none⟩ = some b ∧ W.cell? ⟨w.heap.size, 2, none⟩ = some c := by
  have := (h.block w.heap.size (by simp)).trans (show (w.heap.push _)[w.heap.size]? = some (.cells #[a, b, c] T) by simp)
  simp [World.cell?, this]

set_option maxRecDepth 100000 in
set_option maxHeartbeats 4000000 in
theorem is11 (t : Ty) (v : Value) (w : World) (hw : t.w ≤ 50) (hv : TyV w.heap.size w t v) :
    Calls Try.prog 11 #[v] w fun e w' => e = .returned (.bool t.each) ∧ Below w.heap.size w w' := by
  have h7 := fun w' (b : Below w.heap.size w w') => size_any 50 t v 2001 w' hw  ((hv.below b).mono b.size) (by omega) (by omega)
  rw [Ty.size_of t 2001 (by omega)] at h7
  have h26 := fun w' (b : Below w.heap.size w w') => each26 50 t v w' hw (by omega) ((hv.below b).mono b.size)
  obtain ⟨op, n, ks⟩ := t
  obtain ⟨a, cap, rfl, hs⟩ := hv
  have b0 : Below w.heap.size w (w.alloc (.cells #[.string op, .int .i64 n, .slice a ks.len cap] 24)) := (Below.refl _ w).alloc (Nat.le_refl _) _
  go_enter Try.func11, Try.ntmps11
  go_wp2_with (first
    | (go_at_call 7; refine (h7 _ b0).mono ?_; rintro e w1 ⟨rfl, b1'⟩; obtain ⟨c10, c11, c12⟩ := box3 b1'; have b1 := b0.trans (b1'.mono b0.size))
    | (go_at_call 26; refine (h26 _ b1).mono ?_; rintro e w2 ⟨rfl, b2⟩))
  go_ret
  exact ⟨rfl, b1.trans (b2.mono b1.size)⟩
set_option maxRecDepth 100000 in
set_option maxHeartbeats 4000000 in
theorem is23 (t : Ty) (v : Value) (w : World) (hw : t.w ≤ 50) (hv : TyV w.heap.size w t v) :
    Calls Try.prog 23 #[v] w fun e w' => e = .returned (.bool t.each) ∧ Below w.heap.size w w' := by
  have h7 := fun w' (b : Below w.heap.size w w') => size42 50 t v 2001 w' hw (by omega) ((hv.below b).mono b.size) (by omega) (by omega)
  rw [Ty.size_of t 2001 (by omega)] at h7
  have h26 := fun w' (b : Below w.heap.size w w') => is43 50 t v w' hw (by omega) ((hv.below b).mono b.size)
  obtain ⟨op, n, ks⟩ := t
  obtain ⟨a, cap, rfl, hs⟩ := hv
  have b0 : Below w.heap.size w (w.alloc (.cells #[.string op, .int .i64 n, .slice a ks.len cap] 24)) := (Below.refl _ w).alloc (Nat.le_refl _) _
  go_enter Try.func23, Try.ntmps23
  go_wp2_with (first
    | (go_at_call 42; refine (h7 _ b0).mono ?_; rintro e w1 ⟨rfl, b1'⟩; obtain ⟨c10, c11, c12⟩ := box3 b1'; have b1 := b0.trans (b1'.mono b0.size))
    | (go_at_call 43; refine (h26 _ b1).mono ?_; rintro e w2 ⟨rfl, b2⟩))
  go_ret
  exact ⟨rfl, b1.trans (b2.mono b1.size)⟩

theorem ofInt_wrap (n : Int) : BitVec.ofInt 64 (wrap64 (n * 2)) = BitVec.ofInt 64 (IntKind.u64.wrap (IntKind.u64.wrap n * 2)) := by
  have e : ∀ x, IntKind.u64.wrap x = x % 18446744073709551616 := fun x => by simp [IntKind.wrap, IntKind.signed, IntKind.bits]
  apply BitVec.eq_of_toNat_eq
  rw [BitVec.toNat_ofInt, BitVec.toNat_ofInt, e, e]
  unfold wrap64
  congr 1
  simp only [show ((2 ^ 64 : Nat) : Int) = 18446744073709551616 from rfl]
  omega
theorem wrap_one (n : Int) (h : bits BinOp.or IntKind.i64 (wrap64 (n * 2)) 1 = 1) : wrap64 (bits BinOp.or IntKind.u64 (IntKind.u64.wrap (IntKind.u64.wrap n * 2)) 1) / 2 = 0 := by
  have h1 : (BitVec.ofInt 64 (wrap64 (n * 2)) ||| BitVec.ofInt 64 1).toNat = 1 := by
    have hl := (BitVec.ofInt 64 (wrap64 (n * 2)) ||| BitVec.ofInt 64 1).isLt
    have h' : IntKind.i64.wrap ((BitVec.ofInt 64 (wrap64 (n * 2)) ||| BitVec.ofInt 64 1).toNat : Int) = 1 := h
    simp only [IntKind.wrap, IntKind.signed, IntKind.bits, show ((2 : Int) ^ 64) = 18446744073709551616 from rfl, show ((2 : Int) ^ (64 - 1)) = 9223372036854775808 from rfl, Bool.true_and, decide_eq_true_eq] at h'
    have hl' : (BitVec.ofInt 64 (wrap64 (n * 2)) ||| BitVec.ofInt 64 1).toNat < 18446744073709551616 := hl
    split at h' <;> omega
  rw [ofInt_wrap] at h1
  have h2 : bits BinOp.or IntKind.u64 (IntKind.u64.wrap (IntKind.u64.wrap n * 2)) 1 = IntKind.u64.wrap ((BitVec.ofInt 64 (IntKind.u64.wrap (IntKind.u64.wrap n * 2)) ||| BitVec.ofInt 64 1).toNat : Int) := rfl
  rw [h2, h1]
  show wrap64 (IntKind.u64.wrap 1) / 2 = 0
  rw [show IntKind.u64.wrap 1 = 1 by kernel_rfl]
  kernel_rfl

theorem wrap14 (n : Int) (w : World) : Calls Try.prog 14 #[.int .i64 n] w fun e w' => e = .returned (.int .i64 (wrap64 (bits BinOp.or IntKind.u64 (IntKind.u64.wrap (IntKind.u64.wrap n * 2)) 1) / 2)) ∧ w' = w := by
  go_enter Try.func14, Try.ntmps14
  go_wp2
  go_ret
  exact ⟨rfl, rfl⟩

set_option maxRecDepth 100000 in
set_option maxHeartbeats 4000000 in
theorem new8 (w : World) : Calls Try.prog 8 #[.int .i64 9] w fun e w' => ∃ (hh m : Nat), e = .returned (.pointer (some ⟨hh, 0, none⟩)) ∧ w.heap.size ≤ hh ∧ NoBlocks w' hh m ∧ Below w.heap.size w w' := by
  have hmm := @run_makeMap Try.prog
  go_enter Try.func8, Try.ntmps8
  go_wp2
  go_ret
  refine ⟨w.heap.size + 1, w.heap.size, by simp, by omega, ⟨⟨.int .i64 9, .int .i64 0, 61, ?_⟩, 0, ?_⟩, ((Below.refl _ w).alloc (Nat.le_refl _) _).alloc (by simp) _⟩
  · show ((w.heap.push _).push _)[w.heap.size + 1]? = _
    rw [Array.getElem?_push]; simp [Array.getElem?_push]
  · show ((w.heap.push _).push _)[w.heap.size]? = _
    rw [Array.getElem?_push]; simp [Array.getElem?_push]

set_option maxRecDepth 100000 in
set_option maxHeartbeats 4000000 in
theorem bytes9 (hh m : Nat) (x : Int) (t : Ty) (v : Value) (w : World) (hw : t.w ≤ 50) (hn : NoBlocks w hh m) (hv : TyV w.heap.size w t v) :
    Calls Try.prog 9 #[.pointer (some ⟨hh, 0, none⟩), .int .i64 x, v] w fun e w' => (∃ (b : Value) (r : Int), e = .returned (.tuple #[b, .int .i64 r]) ∧ (r == 6) = !(t.each && t.sent) ∧
      (r = 0 → ∃ op n ks, t = .mk op n ks ∧ ((op.toList == [105, 110, 116]) = true ∨ (op.toList == [98, 111, 111, 108]) = true ∨ (op.toList == [117, 110, 105, 116]) = true ∨ ((op.toList == [108, 105, 115, 116]) = true ∧ x = 1)))) ∧ Below w.heap.size w w' := by
  have hk : ∀ op n ks, t = .mk op n ks → t.each = true → (op.toList == [108, 105, 115, 116]) = true → 1 ≤ ks.len := by
    intro op n ks e he h
    subst e
    have e1 : op.toList = [108, 105, 115, 116] := by simpa using h
    have e2 : kidsN op.toList = (ks.len : Int) := by simp only [Ty.each, Bool.and_eq_true] at he; simpa using he.1.1.1
    rw [e1] at e2
    have e3 : kidsN [108, 105, 115, 116] = 1 := by decide
    omega
  have h23 := fun w' (b : Below w.heap.size w w') => is23 t v w' hw ((hv.below b).mono b.size)
  have h24 := fun w' (b : Below w.heap.size w w') => sent24 50 t v w' hw (by omega) ((hv.below b).mono b.size)
  have h25 := fun w' bp ms hb hs (b : Below w.heap.size w w') (he : t.each = true) => value25 bp hh m ms x t v w' hb (hn.below b) hs ((hv.below b).mono b.size) (fun op n ks e h => hk op n ks e he h)
  obtain ⟨op, n, ks⟩ := t
  obtain ⟨a, cap, rfl, hs⟩ := hv
  have b0 : Below w.heap.size w (w.alloc (.cells #[.string op, .int .i64 n, .slice a ks.len cap] 24)) := (Below.refl _ w).alloc (Nat.le_refl _) _
  cases he : (Ty.mk op n ks).each with
  | false =>
    rw [he] at h23
    go_enter Try.func9, Try.ntmps9
    go_wp2_with (first
      | (go_at_call 23; refine (h23 _ b0).mono ?_; rintro e w1 ⟨rfl, b1'⟩; obtain ⟨c10, c11, c12⟩ := box3 b1'; have b1 := b0.trans (b1'.mono b0.size)))
    go_ret2
    exact ⟨⟨_, _, rfl, by rfl, fun h => by cases h⟩, b1⟩
  | true =>
  rw [he] at h23
  have h25 := fun w' bp ms hb hs b => h25 w' bp ms hb hs b he
  cases hs : (Ty.mk op n ks).sent with
  | false =>
    rw [hs] at h24
    go_enter Try.func9, Try.ntmps9
    go_wp2_with (first
      | (go_at_call 23; refine (h23 _ b0).mono ?_; rintro e w1 ⟨rfl, b1'⟩; obtain ⟨c10, c11, c12⟩ := box3 b1'; have b1 := b0.trans (b1'.mono b0.size))
      | (go_at_call 24; refine (h24 _ b1).mono ?_; rintro e w2 ⟨rfl, b2⟩))
    go_ret2
    exact ⟨⟨_, _, rfl, by rfl, fun h => by cases h⟩, b1.trans (b2.mono b1.size)⟩
  | true =>
    rw [hs] at h24
    have hmm := @run_makeMap Try.prog
    have below3 : ∀ w2 : World, Below w2.heap.size w2 ((w2.alloc (.map #[] 0)).alloc (.cells #[.pointer (some ⟨hh, 0, none⟩), .slice none 0 0, .map (some w2.heap.size)] 65)) :=
      fun w2 => ((Below.refl _ w2).alloc (Nat.le_refl _) _).alloc (by simp) _
    have hbp : ∀ w2 : World, ((w2.alloc (.map #[] 0)).alloc (.cells #[.pointer (some ⟨hh, 0, none⟩), .slice none 0 0, .map (some w2.heap.size)] 65)).heap[w2.heap.size + 1]? = some (.cells #[.pointer (some ⟨hh, 0, none⟩), .slice none 0 0, .map (some w2.heap.size)] 65) := fun w2 => by
      show ((w2.heap.push _).push _)[w2.heap.size + 1]? = _
      rw [Array.getElem?_push]; simp [Array.getElem?_push]
    have hmp : ∀ w2 : World, ∃ clk, ((w2.alloc (.map #[] 0)).alloc (.cells #[.pointer (some ⟨hh, 0, none⟩), .slice none 0 0, .map (some w2.heap.size)] 65)).heap[w2.heap.size]? = some (.map #[] clk) := fun w2 => by
      refine ⟨0, ?_⟩
      show ((w2.heap.push _).push _)[w2.heap.size]? = _
      rw [Array.getElem?_push]; simp [Array.getElem?_push]
    have blw : ∀ w2 w3 w4 : World, Below w.heap.size w w2 → Below w2.heap.size w2 w3 → ButOne (w2.heap.size + 1) w3 w4 → Below w.heap.size w w4 := fun w2 w3 w4 h1 h2 h3 =>
      h1.trans ⟨h3.os.trans h2.os, h3.tape.trans h2.tape, h3.out.trans h2.output, Nat.le_trans h2.size h3.size, fun k hk => (h3.blk k (by have := h1.size; have := h2.size; omega) (by have := h1.size; omega)).trans (h2.block k (by have := h1.size; omega))⟩
    go_enter Try.func9, Try.ntmps9
    go_wp2_with (first
      | (go_at_call 23; refine (h23 _ b0).mono ?_; rintro e w1 ⟨rfl, b1'⟩; obtain ⟨c10, c11, c12⟩ := box3 b1'; have b1 := b0.trans (b1'.mono b0.size))
      | (go_at_call 24; refine (h24 _ b1).mono ?_; rintro e w2 ⟨rfl, b2'⟩; obtain ⟨c20, c21, c22⟩ := box3 ((b1'.trans (b2'.mono b1'.size)).trans ((below3 w2).mono (Nat.le_trans b1'.size b2'.size))); have b2 := b1.trans (b2'.mono b1.size)))
    go_at_call 25
    refine (h25 _ _ _ (hbp w2) (hmp w2) (b2.trans ((below3 w2).mono b2.size))).mono ?_
    rintro e w4 ⟨⟨r, rfl, hr, hr0⟩, ⟨sl, hp, hsl⟩, hone⟩
    have b4 := blw _ _ _ b2 (below3 w2) hone
    have c41 : w4.cell? ⟨w2.heap.size + 1, 1, none⟩ = some sl := by simp [World.cell?, hp]
    rcases hr with rfl | rfl
    · rcases hsl with rfl | ⟨g, l, cp, rfl, hl⟩
      · go_wp2
        go_ret2
        exact ⟨⟨_, _, rfl, by rfl, fun _ => hr0 (by trivial)⟩, b4⟩
      · have hl4 : ¬ (4000 : Int) < (l : Int) := by omega
        go_wp2
        go_ret2
        exact ⟨⟨_, _, rfl, by rfl, fun _ => hr0 (by trivial)⟩, b4⟩
    · go_wp2
      go_ret2
      exact ⟨⟨_, _, rfl, by rfl, fun h => by cases h⟩, b4⟩
end Go.Proofs.Ytbjcajjlpehfiaa
