/- What is proved here: a number is put behind no bytes. No condition. -/
import Derived.Test.YtbjcajjlpehfiaaPut
import Derived.Deep.AppendLies
import Derived.Deep.RegionLaw
set_option linter.unusedVariables false
set_option linter.unusedSimpArgs false
namespace Go.Proofs.Ytbjcajjlpehfiaa
open Go Go.RowKit

/-- all that was stays, but one block -/
structure ButOne (bp : Nat) (w w' : World) : Prop where
  os : w'.os = w.os
  tape : w'.tape = w.tape
  out : w'.output = w.output
  size : w.heap.size ≤ w'.heap.size
  blk : ∀ k, k < w.heap.size → k ≠ bp → w'.heap[k]? = w.heap[k]?
set_option maxRecDepth 100000 in
set_option maxHeartbeats 4000000 in
theorem puts47 (bp : Nat) (hp mp : Value) (v : Nat) (w : World) (hb : w.heap[bp]? = some (.cells #[hp, .slice none 0 0, mp] 65)) (hv : v < 18446744073709551616) :
    Calls Try.prog 47 #[.pointer (some ⟨bp, 0, none⟩), .int .u64 (v : Int)] w fun e w' => (∃ r, e = .returned r) ∧ (∃ g l cap, w'.heap[bp]? = some (.cells #[hp, .slice (some ⟨g, 0, none⟩) l cap, mp] 65) ∧ l ≤ 10) ∧ ButOne bp w w' := by
  obtain ⟨i0, hi, hz0, hz1, hz2⟩ := info_parts info5
  have k1 : w.cell? ⟨bp, 1, none⟩ = some (.slice none 0 0) := by simp [World.cell?, hb]
  have f1 : w.frozen? ⟨bp, 1, none⟩ = false := by simp [World.frozen?, hb]
  have hlt : bp < w.heap.size := (Array.getElem?_eq_some_iff.1 hb).1
  go_enter Try.func47, Try.ntmps47
  go_wp2
  go_region_law (first
    | (refine step_append_lies _ rfl (.tmp 8) (.tmp 10) 28 rfl w.heap.size 5 i0 (.int .u8 0) 1 1 Try.underlying28 hi hz0 hz1 hz2 rfl (by decide) (.slice none 0 0) 0 [] (by simp [Act.eval, Act.put]) (World.ownsRow_nil _ _ _ _) ⟨g, 0, none⟩ l cap xs (by simp [Act.eval, Act.put]) hl
        (fun j u hu => by have := hxs j u hu; rw [Addr.add_lit]; simp [World.cell?, hcur, this]) hone h1 (by unfold maxLen; omega) (by omega) (by have := hB.size; simpa using this) _ rfl ?_; intro g2 cap2 w2 hown2 hgrow2 hat2 hlt2; have hb2 := (hgrow2.block bp (by have := hB.size; simp at this ⊢; omega) (by simp [Value.ownBlock])).trans ((hB.block bp (by simpa using hlt)).trans hb); have k2 : w2.cell? ⟨bp, 1, none⟩ = some (.slice none 0 0) := by simp [World.cell?, hb2]
       have f2 : w2.frozen? ⟨bp, 1, none⟩ = false := by simp [World.frozen?, hb2])
    | (go_simp; go_at_call 64; refine (put64b v _ hv).mono ?_; rintro e w1 ⟨g, cap, l, xs, rfl, h1, h2, hl, hg, ⟨cur, hcur, hxs⟩, hone, hB⟩
       have hb1 := (hB.block bp (by simpa using hlt)).trans hb
       have kk1 : w1.cell? ⟨bp, 1, none⟩ = some (.slice none 0 0) := by simp [World.cell?, hb1]))
  all_goals go_end0
  all_goals refine ⟨⟨_, rfl⟩, ⟨g2, l, cap2, by simp [World.setCell, Array.getElem?_modify, hb2], h2⟩, ⟨?_, ?_, ?_, ?_, fun k hk hne => ?_⟩⟩
  all_goals first
    | exact hgrow2.os.trans hB.os
    | exact hgrow2.tape.trans hB.tape
    | exact hgrow2.output.trans hB.output
    | (have e1 := hB.size; have e2 := hgrow2.size; simp [World.setCell] at e1 ⊢; omega)
    | (have e1 := hB.size
       have e2 := (hgrow2.block k (by simp at e1; omega) (by simp [Value.ownBlock])).trans (hB.block k (by simpa using hk))
       have hne' : ¬ bp = k := fun h => hne h.symm
       simpa [World.setCell, Array.getElem?_modify, hne'] using (show w2.heap[k]? = w.heap[k]? from e2))

theorem puts47i (bp : Nat) (hp mp : Value) (x : Int) (w : World) (hb : w.heap[bp]? = some (.cells #[hp, .slice none 0 0, mp] 65)) (h0 : 0 ≤ x) (hx : x < 18446744073709551616) :
    Calls Try.prog 47 #[.pointer (some ⟨bp, 0, none⟩), .int .u64 x] w fun e w' => (∃ r, e = .returned r) ∧ (∃ g l cap, w'.heap[bp]? = some (.cells #[hp, .slice (some ⟨g, 0, none⟩) l cap, mp] 65) ∧ l ≤ 10) ∧ ButOne bp w w' := by
  have e : x = (x.toNat : Int) := by omega
  rw [e]
  exact puts47 bp hp mp x.toNat w hb (by omega)

/-- the picker: no bytes, or a few -/
def PB (bp : Nat) (hp mp : Value) (w : World) : Prop := ∃ sl, w.heap[bp]? = some (.cells #[hp, sl, mp] 65) ∧ (sl = .slice none 0 0 ∨ ∃ g l cap, sl = .slice (some ⟨g, 0, none⟩) l cap ∧ l ≤ 10)
theorem ButOne.refl (bp : Nat) (w : World) : ButOne bp w w := ⟨rfl, rfl, rfl, Nat.le_refl _, fun _ _ _ => rfl⟩

theorem num61 (x : Int) (w : World) : Calls Try.prog 61 #[.int .i64 x] w fun e w' => (∃ y : Int, e = .returned (.int .i64 y)) ∧ w' = w := by
  go_enter Try.func61, Try.ntmps61
  go_wp2
  go_ret
  exact ⟨⟨_, rfl⟩, rfl⟩
theorem isInt62 (x : Int) (w : World) : Calls Try.prog 62 #[.int .i64 x] w fun e w' => (∃ b : Bool, e = .returned (.bool b)) ∧ w' = w := by
  go_enter Try.func62, Try.ntmps62
  go_wp2
  go_ret
  exact ⟨⟨_, rfl⟩, rfl⟩
theorem u64_wrap (x : Int) : 0 ≤ IntKind.u64.wrap x ∧ IntKind.u64.wrap x < 18446744073709551616 := by
  have e : IntKind.u64.wrap x = x % 18446744073709551616 := by simp [IntKind.wrap, IntKind.signed, IntKind.bits]
  rw [e]; omega
theorem u64_bits (op : BinOp) (x y : Int) : 0 ≤ bits op IntKind.u64 x y ∧ bits op IntKind.u64 x y < 18446744073709551616 := by
  unfold bits
  split
  all_goals exact u64_wrap _
theorem zig63 (x : Int) (w : World) : Calls Try.prog 63 #[.int .i64 x] w fun e w' => (∃ y : Int, e = .returned (.int .u64 y) ∧ 0 ≤ y ∧ y < 18446744073709551616) ∧ w' = w := by
  go_enter Try.func63, Try.ntmps63
  go_wp2
  all_goals go_ret
  · exact ⟨⟨_, rfl, u64_bits _ _ _⟩, rfl⟩
  · exact ⟨⟨_, rfl, u64_wrap _⟩, rfl⟩
set_option maxRecDepth 100000 in
set_option maxHeartbeats 4000000 in
theorem number46 (bp : Nat) (hp mp : Value) (x many : Int) (w : World) (hb : w.heap[bp]? = some (.cells #[hp, .slice none 0 0, mp] 65)) (hm : many = -1 ∨ many = 1 ∨ many = 2) :
    Calls Try.prog 46 #[.pointer (some ⟨bp, 0, none⟩), .int .i64 x, .int .i64 many] w fun e w' => (∃ r : Int, e = .returned (.int .i64 r) ∧ (r = 0 ∨ r = 1)) ∧ PB bp hp mp w' ∧ ButOne bp w w' := by
  have hput := puts47i bp hp mp
  rcases hm with rfl | rfl | rfl
  all_goals go_enter Try.func46, Try.ntmps46
  all_goals go_wp2_with (first
    | (go_at_call 61; refine (num61 _ _).mono ?_; rintro e w' ⟨⟨y, rfl⟩, rfl⟩)
    | (go_at_call 62; refine (isInt62 _ _).mono ?_; rintro e w' ⟨⟨b, rfl⟩, rfl⟩)
    | (go_at_call 63; refine (zig63 _ _).mono ?_; rintro e w' ⟨⟨z, rfl, hz0, hz1⟩, rfl⟩)
    | (go_at_call 47; refine (hput _ _ hb (by omega) (by omega)).mono ?_; rintro e w' ⟨⟨r, rfl⟩, hpb, hone⟩))
  all_goals go_ret
  all_goals first
    | exact ⟨⟨1, rfl, .inr rfl⟩, ⟨_, hb, .inl rfl⟩, ButOne.refl _ _⟩
    | exact ⟨⟨0, rfl, .inl rfl⟩, ⟨_, hb, .inl rfl⟩, ButOne.refl _ _⟩
    | (obtain ⟨g, l, cap, h1, h2⟩ := hpb; exact ⟨⟨0, rfl, .inl rfl⟩, ⟨_, h1, .inr ⟨g, l, cap, rfl, h2⟩⟩, hone⟩)
end Go.Proofs.Ytbjcajjlpehfiaa
