/- What is proved here: a block that no heap has is refused. No condition. -/
import Derived.Test.YtbjcajjlpehfiaaKinds
import Derived.Test.YtbjcajjlpehfiaaPuts
import Derived.Test.YtbjcajjlpehfiaaRfxM
import Derived.Deep.QuietTactic
import Derived.BigQuiet
set_option linter.unusedVariables false
set_option linter.unusedSimpArgs false
namespace Go.Proofs.Ytbjcajjlpehfiaa
open Go Go.RowKit

/-- a heap without blocks -/
structure NoBlocks (w : World) (h m : Nat) : Prop where
  h : ∃ a b T, w.heap[h]? = some (.cells #[a, b, .map (some m)] T)
  m : ∃ clk, w.heap[m]? = some (.map #[] clk)

theorem look_empty {t k e : TypeId} {q : IntKind} {m clk : Nat} {x : Int} {z : Value} {w : World} (ok : Bool) (ht : Try.prog.underlying t = some (.map k e)) (hkk : Rfx.kkOf Try.prog k = some .i) (hm : w.heap[m]? = some (.map #[] clk))
    (hz : (zeroValue e).run Try.prog w = .ok z w) : (Instr.lookup t (.map (some m)) (.int q x) ok).run Try.prog w = .ok (if ok then .tuple #[z, .bool false] else z) w := by
  have hck : ∀ e', (Instr.checkKey e' 10000 k (.int q x)).run Try.prog w = .ok () w := fun e' => Rfx.run_checkKey hkk e' 9999 _
  have hfk : (Instr.findKey k (.int q x) ([] : List MapEntry)).run Try.prog w = .ok none w := by
    simp only [Instr.findKey, Sem.run_bind]
    rcases Rfx.kkOf_some hkk with ⟨_, q, htk⟩ | ⟨_, htk⟩ | ⟨_, q, j, htk, _⟩ <;> simp [run_underlying htk, Instr.findNow]
  cases ok <;> simp only [Instr.lookup, Sem.run_bind, run_underlying ht, Result.andThen_ok, Rfx.run_getMap hm, Sem.run_pure, hck, Array.toList_empty, hfk, hz, if_true, if_false, Bool.false_eq_true]
set_option maxRecDepth 100000 in
set_option maxHeartbeats 4000000 in
theorem tag67 (h m : Nat) (x : Int) (w : World) (hn : NoBlocks w h m) : Calls Try.prog 67 #[.pointer (some ⟨h, 0, none⟩), .int .i64 x] w fun e w' => e = .returned (.int .i64 0) ∧ w' = w := by
  obtain ⟨⟨a, b, T, hh⟩, clk, hm⟩ := hn
  have c2 : w.cell? ⟨h, 2, none⟩ = some (.map (some m)) := by simp [World.cell?, hh]
  have hl := fun x => look_empty (t := 59) (q := .i64) (x := x) (z := .pointer none) (w := w) false Try.underlying59 (by kernel_rfl) hm (by kernel_rfl)
  simp only [if_false, Bool.false_eq_true] at hl
  go_enter Try.func67, Try.ntmps67
  go_wp2
  go_ret
  exact ⟨rfl, rfl⟩

set_option maxRecDepth 100000 in
set_option maxHeartbeats 4000000 in
theorem shape66 (t : Ty) (v : Value) (w : World) (hv : TyV w.heap.size w t v) (hk : ∀ op n ks, t = .mk op n ks → (op.toList == [108, 105, 115, 116]) = true → 1 ≤ ks.len) :
    Calls Try.prog 66 #[v] w fun e w' => (∃ tag sl, e = .returned (.tuple #[.int .i64 tag, sl]) ∧ 1 ≤ tag) ∧ Below w.heap.size w w' := by
  obtain ⟨op, n, ks⟩ := t
  obtain ⟨a, cap, rfl, hs⟩ := hv
  have hB0 : Below w.heap.size w (w.alloc (.cells #[.string op, .int .i64 n, .slice a ks.len cap] 24)) := (Below.refl _ w).alloc (Nat.le_refl _) _
  have hc2 : (w.alloc (.cells #[.string op, .int .i64 n, .slice a ks.len cap] 24)).heap[w.heap.size]? = some (.cells #[.string op, .int .i64 n, .slice a ks.len cap] 24) := by show (w.heap.push _)[_]? = _; simp
  cases h1 : (op.toList == [115, 116, 114, 105, 110, 103]) with
  | true =>
    go_enter Try.func66, Try.ntmps66
    go_wp2
    go_ret2
    exact ⟨⟨_, _, rfl, by omega⟩, hB0⟩
  | false =>
  cases h2 : (op.toList == [108, 105, 115, 116]) with
  | true =>
    have hl := hk op n ks rfl h2
    obtain ⟨b, o, rfl, hb, hat⟩ := hs.resolve_left (fun e => by subst e; simp [Tys.len] at hl)
    obtain ⟨u, hu, _⟩ := Tys.drop_lt ks 0 hl
    obtain ⟨v0, v1, v2, c0, c1, c2, hv'⟩ := (hat.below hB0 hb).get hu
    simp only [Nat.zero_mul, Nat.add_zero] at c0 c1 c2
    obtain ⟨uop, un, uks⟩ := u
    obtain ⟨ua, ucap, ev, us⟩ := hv'
    obtain ⟨rfl, rfl, rfl⟩ : v0 = .string uop ∧ v1 = .int .i64 un ∧ v2 = .slice ua uks.len ucap := by simpa using ev
    go_enter Try.func66, Try.ntmps66
    go_wp2
    go_region
    all_goals (try go_wp2)
    all_goals go_ret2
    all_goals exact ⟨⟨_, _, rfl, by omega⟩, (hB0.alloc hB0.size _).trans ⟨rfl, rfl, rfl, Nat.le_refl _, fun _ _ => rfl⟩⟩
  | false =>
  cases h3 : (op.toList == [112, 97, 105, 114]) with
  | true =>
    go_enter Try.func66, Try.ntmps66
    go_wp2
    go_region
    all_goals (try go_wp2)
    all_goals go_ret2
    all_goals exact ⟨⟨_, _, rfl, by omega⟩, hB0.trans ⟨rfl, rfl, rfl, Nat.le_refl _, fun _ _ => rfl⟩⟩
  | false =>
  cases h4 : (op.toList == [114, 101, 102]) with
  | true =>
    go_enter Try.func66, Try.ntmps66
    go_wp2
    go_region
    all_goals (try go_wp2)
    all_goals go_ret2
    all_goals exact ⟨⟨_, _, rfl, by omega⟩, hB0.trans ⟨rfl, rfl, rfl, Nat.le_refl _, fun _ _ => rfl⟩⟩
  | false =>
    go_enter Try.func66, Try.ntmps66
    go_wp2
    go_ret2
    exact ⟨⟨_, _, rfl, by omega⟩, (hB0.alloc hB0.size _).alloc (by have := hB0.size; simp; omega) _⟩
end Go.Proofs.Ytbjcajjlpehfiaa
