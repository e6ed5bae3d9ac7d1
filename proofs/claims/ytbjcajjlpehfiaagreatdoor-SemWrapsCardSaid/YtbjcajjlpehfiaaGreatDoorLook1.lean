/- What is proved here: 'scheme.Look' is the scheme of the last one of a name. -/
import Derived.RangeFuncNested
import Derived.RangeFuncBound
import Derived.RangeFuncCalls
import Derived.RangeFuncLeaves
import Derived.Shelf.Abstract
import Derived.Shelf.RegionOpen
import Derived.WalkKit
import Derived.OwnWalkIn
import Derived.TacticsInMore
import Derived.LoopNIn
import Derived.LoopIn
import Derived.Test.YtbjcajjlpehfiaaGreatDoorProg
set_option linter.unusedSimpArgs false
set_option linter.unusedVariables false
set_option linter.unnecessarySimpa false
namespace Go.Proofs.YtbjcajjlpehfiaaGreatDoor
open Go.RowKit Go.Shelf
attribute [local go_sem] Oper.semAt_some

/-- a name with its scheme: five cells -/
structure Bd where
  nm : ByteArray
  va : Option Addr
  vl : Nat
  vc : Nat
  op : ByteArray
  n : Int
  ka : Option Addr
  kl : Nat
  kc : Nat
def Bd.v (x : Bd) : Value := .agg #[.string x.nm, .slice x.va x.vl x.vc, .string x.op, .int .i64 x.n, .slice x.ka x.kl x.kc]
def Bd.s (x : Bd) : Value := .agg #[.slice x.va x.vl x.vc, .string x.op, .int .i64 x.n, .slice x.ka x.kl x.kc]
def Bd.hit (x : Bd) (name : ByteArray) : Bool := x.nm.toList == name.toList
def bd0 : Bd := ⟨default, none, 0, 0, default, 0, none, 0, 0⟩
/-- these lie here -/
structure BdAt (W : World) (b o : Nat) (x : Bd) : Prop where
  c0 : W.cell? ⟨b, o, none⟩ = some (.string x.nm)
  c1 : W.cell? ⟨b, o + 1, none⟩ = some (.slice x.va x.vl x.vc)
  c2 : W.cell? ⟨b, o + 2, none⟩ = some (.string x.op)
  c3 : W.cell? ⟨b, o + 3, none⟩ = some (.int .i64 x.n)
  c4 : W.cell? ⟨b, o + 4, none⟩ = some (.slice x.ka x.kl x.kc)
theorem BdAt.below {n₀ : Nat} {A B : World} {b o : Nat} {x : Bd} (h : BdAt A b o x) (k : Below n₀ A B) (hb : b < n₀) : BdAt B b o x :=
  ⟨(k.cell (p := ⟨b, o, none⟩) hb).trans h.c0, (k.cell (p := ⟨b, o + 1, none⟩) hb).trans h.c1, (k.cell (p := ⟨b, o + 2, none⟩) hb).trans h.c2, (k.cell (p := ⟨b, o + 3, none⟩) hb).trans h.c3, (k.cell (p := ⟨b, o + 4, none⟩) hb).trans h.c4⟩

def upto {α : Type} (f : Nat → α) (k : Nat) : List α := (List.range k).map f
theorem upto_succ {α : Type} (f : Nat → α) (k : Nat) : upto f (k + 1) = upto f k ++ [f k] := by simp [upto, List.range_succ]
theorem upto_length {α : Type} (f : Nat → α) (k : Nat) : (upto f k).length = k := by simp [upto]
def back (zs : List Bd) (k : Nat) : Nat × Bd := (zs.length - 1 - k, zs[zs.length - 1 - k]?.getD bd0)

set_option maxRecDepth 100000 in
set_option maxHeartbeats 2000000 in
theorem back1_in (F : Fence) (n : Nat) (h7 : F.fn 126) (hro : F.round = none) (hn : 1 ≤ n) (l Bs n₀ b off cap : Nat) (zs : List Bd) (hreach : zs.length * 8 ≤ 140737488351232) (hb : b < n₀) (J Jx : List (Nat × Bd) → World → Prop)
    (hY : ∀ pre x W, J pre W → pre.length < zs.length → YieldAt F (n - 1) Tryz.prog l #[.int .i64 (x.1 : Int), x.2.v] W fun e W' =>
      (e = .returned (.bool true) ∧ J (pre ++ [x]) W' ∧ Below n₀ W W') ∨ (e = .returned (.bool false) ∧ Jx (pre ++ [x]) W'))
    (W : World) (hBs : W.cell? ⟨Bs, 0, none⟩ = some (.slice (some ⟨b, off, none⟩) zs.length cap)) (hBs' : Bs < n₀) (hc : ∀ j (h : j < zs.length), BdAt W b (off + j * 5) zs[j]) (h0 : J [] W) :
    CallsIn F n Tryz.prog 126 #[.func (.yield l) #[] #[], .pointer (some ⟨Bs, 0, none⟩)] W fun e W' => (∃ v, e = .returned v) ∧
      ((∃ ys, ys = upto (back zs) zs.length ∧ J ys W') ∨ (∃ pre, (∃ k, k ≤ zs.length ∧ pre = upto (back zs) k) ∧ Jx pre W')) := by
  refine callsIn_of_wp Tryz.func126 rfl h7 ?_ hro
  simp only [Tryz.ntmps126, List.size_toArray, List.length_cons, List.length_nil, Nat.reduceAdd, Nat.reduceSub, Array.replicate_succ, Array.replicate_zero, List.push_toArray, List.append_toArray, List.nil_append, List.cons_append]
  gi_wp2
  gi_loopw [3] (fun i wr => ∃ j : Nat, j ≤ zs.length ∧ i = .int .i64 ((j : Int) - 1) ∧ J (upto (back zs) (zs.length - j)) wr ∧ Below n₀ W wr)
    (fun i _ => (intOf i + 1).toNat)
  case atStart => exact ⟨zs.length, Nat.le_refl _, rfl, by simpa [upto] using h0, Below.refl _ _⟩
  case round =>
    obtain ⟨j, hj, rfl, hJs, hnx⟩ := hrel
    cases j with
    | zero =>
      gi_wp2
      go_end0
      exact ⟨⟨_, rfl⟩, .inl ⟨_, rfl, by simpa using hJs⟩⟩
    | succ j =>
      have ej : ((j + 1 : Nat) : Int) - 1 = (j : Int) := by omega
      rw [ej]
      have hlt : j < zs.length := by omega
      obtain ⟨fn, tmps, assign, body, hy, hR⟩ := hY _ (j, zs[j]) wr hJs (by rw [upto_length]; omega)
      dsimp only [Bd.v] at hy
      obtain ⟨c0, c1, c2, c3, c4⟩ := (hc j hlt).below hnx hb
      have hBw := (hnx.cell (p := ⟨Bs, 0, none⟩) hBs').trans hBs
      have eb : upto (back zs) (zs.length - (j + 1)) ++ [(j, zs[j])] = upto (back zs) (zs.length - j) := by
        have e1 : zs.length - j = zs.length - (j + 1) + 1 := by omega
        have e2 : zs.length - 1 - (zs.length - (j + 1)) = j := by omega
        rw [e1, upto_succ]
        simp only [back, e2, List.getElem?_eq_getElem hlt, Option.getD_some]
      rw [eb] at hR
      gi_wp2
      refine hR.mono ?_
      rintro e W3 (⟨rfl, hJ3, hk3⟩ | ⟨rfl, hJx3⟩)
      · gi_wp2
        go_roundw
        case rel => exact ⟨j, by omega, by simp, hJ3, hnx.trans hk3⟩
        case measure => simp [intOf]
      · gi_wp2
        refine bodyPost_ret (results_none rfl _ _ _) rfl ?_
        exact ⟨⟨_, rfl⟩, .inr ⟨_, ⟨zs.length - j, by omega, rfl⟩, hJx3⟩⟩

set_option maxRecDepth 100000 in
set_option maxHeartbeats 1000000 in
theorem back1_nil_in (F : Fence) (n : Nat) (h7 : F.fn 126) (hro : F.round = none) (l Bs : Nat) (J : List (Nat × Bd) → World → Prop) (W : World) (hBs : W.cell? ⟨Bs, 0, none⟩ = some (.slice none 0 0)) (h0 : J [] W) :
    CallsIn F n Tryz.prog 126 #[.func (.yield l) #[] #[], .pointer (some ⟨Bs, 0, none⟩)] W fun e W' => (∃ v, e = .returned v) ∧ J [] W' := by
  refine callsIn_of_wp Tryz.func126 rfl h7 ?_ hro
  simp only [Tryz.ntmps126, List.size_toArray, List.length_cons, List.length_nil, Nat.reduceAdd, Nat.reduceSub, Array.replicate_succ, Array.replicate_zero, List.push_toArray, List.append_toArray, List.nil_append, List.cons_append]
  gi_wp2
  gi_loopw [3] (fun i wr => i = .int .i64 (-1) ∧ J [] wr) (fun _ _ => 0)
  case atStart => exact ⟨rfl, h0⟩
  case round =>
    obtain ⟨rfl, hJs⟩ := hrel
    gi_wp2
    go_end0
    exact ⟨⟨_, rfl⟩, hJs⟩

set_option maxHeartbeats 1000000 in
theorem backward_in (F : Fence) (n : Nat) (h5 : F.fn 98) (hro : F.round = none) (a : Option Addr) (len cap : Nat) (w : World) :
    CallsIn F n Tryz.prog 98 #[.slice a len cap] w fun e w' => e = .returned (.func (.func 126) #[] #[.pointer (some ⟨w.heap.size, 0, none⟩)]) ∧ w' = w.alloc (.cells #[.slice a len cap] 120) := by
  refine callsIn_of_wp Tryz.func98 rfl h5 ?_ hro
  simp only [Tryz.ntmps98, List.size_toArray, List.length_cons, List.length_nil, Nat.reduceAdd, Nat.reduceSub, Array.replicate_succ, Array.replicate_zero, List.push_toArray, List.append_toArray, List.nil_append, List.cons_append]
  gi_wp2
  go_ret
  exact ⟨rfl, rfl⟩

/-- the slice value sv holds zs, in a block below n₀; or it is nil and there are none -/
def Bds (n₀ : Nat) (W : World) (sv : Value) (zs : List Bd) : Prop :=
  (sv = .slice none 0 0 ∧ zs = []) ∨ ∃ b off cap, sv = .slice (some ⟨b, off, none⟩) zs.length cap ∧ b < n₀ ∧ ∀ j (h : j < zs.length), BdAt W b (off + j * 5) zs[j]
theorem Bds.below {n₀ : Nat} {A B : World} (h : Below n₀ A B) {sv : Value} {zs : List Bd} : Bds n₀ A sv zs → Bds n₀ B sv zs
  | .inl e => .inl e
  | .inr ⟨b, off, cap, e, hb, hc⟩ => .inr ⟨b, off, cap, e, hb, fun j hj => (hc j hj).below h hb⟩

theorem back_stops (F : Fence) (n : Nat) (h7 : F.fn 126) (hro : F.round = none) (hn : 1 ≤ n) (Bs n₀ : Nat) (sv : Value) (zs : List Bd) (hreach : zs.length * 8 ≤ 140737488351232) (w : World) (hBs : Bs < w.heap.size) (hn₀ : n₀ ≤ w.heap.size) (hBn : Bs < n₀)
    (hc : w.cell? ⟨Bs, 0, none⟩ = some sv) (hI : Bds n₀ w sv zs) :
    SeqStopsK F n Tryz.prog 126 #[.pointer (some ⟨Bs, 0, none⟩)] (fun x : Nat × Bd => #[Value.int .i64 (x.1 : Int), x.2.v]) (Below n₀) (fun ys => ys = upto (back zs) zs.length) (fun pre => ∃ k, k ≤ zs.length ∧ pre = upto (back zs) k) zs.length w := fun l J Jx W hW _ _ hY h0 => by
  have hc' := (hW.cell (p := ⟨Bs, 0, none⟩) hBs).trans hc
  rcases hI.below (hW.mono hn₀) with ⟨rfl, rfl⟩ | ⟨b, off, cap, rfl, hb, hcs⟩
  · exact (back1_nil_in F n h7 hro l Bs J W hc' h0).mono fun e W' ⟨he, hj⟩ => ⟨he, .inl ⟨_, rfl, hj⟩⟩
  · exact back1_in F n h7 hro hn l Bs n₀ b off cap zs hreach hb J Jx hY W hc' hBn hcs h0

theorem BdAt.own {B o : Nat} {x : Bd} : Own (fun (_ : Unit) W => BdAt W B o x) := fun _ _ _ _ hs hg hr => ⟨cell_kept hs.c0 hg hr, cell_kept hs.c1 hg hr, cell_kept hs.c2 hg hr, cell_kept hs.c3 hg hr, cell_kept hs.c4 hg hr⟩

/-- a scheme: four cells -/
structure BdAt' (W : World) (b : Nat) (x : Bd) : Prop where
  c1 : W.cell? ⟨b, 0, none⟩ = some (.slice x.va x.vl x.vc)
  c2 : W.cell? ⟨b, 1, none⟩ = some (.string x.op)
  c3 : W.cell? ⟨b, 2, none⟩ = some (.int .i64 x.n)
  c4 : W.cell? ⟨b, 3, none⟩ = some (.slice x.ka x.kl x.kc)
theorem BdAt'.own {W W' : World} {b : Nat} {x : Bd} {row : Option Nat} (h : BdAt' W b x) (hg : W.grownBy W' row) (hr : ∀ r, row = some r → ∃ o : Obj, W.heap[r]? = some o ∧ o.isCells = false) : BdAt' W' b x :=
  ⟨cell_kept h.c1 hg hr, cell_kept h.c2 hg hr, cell_kept h.c3 hg hr, cell_kept h.c4 hg hr⟩
theorem Bds.mono {n₀ n₁ : Nat} {A : World} {sv : Value} {zs : List Bd} (hn : n₀ ≤ n₁) : Bds n₀ A sv zs → Bds n₁ A sv zs
  | .inl e => .inl e
  | .inr ⟨b, off, cap, e, hb, hc⟩ => .inr ⟨b, off, cap, e, by omega, hc⟩

set_option maxRecDepth 100000 in
set_option maxHeartbeats 4000000 in
theorem Look_in (F : Fence) (n : Nat) (h3 : F.fn 54) (h4 : F.fn 98) (h5 : F.fn 126) (hro : F.round = none) (hn : 6 ≤ n) (a : Option Addr) (len cap : Nat) (zs : List Bd) (name : ByteArray) (hreach : zs.length * 8 ≤ 140737488351232) (w : World) (hI : Bds w.heap.size w (.slice a len cap) zs) :
    CallsIn F n Tryz.prog 54 #[.slice a len cap, .string name] w fun e W' =>
      ((e = .returned (.tuple #[.agg #[.slice none 0 0, .string default, .int .i64 0, .slice none 0 0], .bool false]) ∧ ∀ j (h : j < zs.length), zs[j].hit name = false) ∨
        (∃ k, ∃ h : k < zs.length, e = .returned (.tuple #[zs[k].s, .bool true]) ∧ zs[k].hit name = true ∧ ∀ j (h : j < zs.length), k < j → zs[j].hit name = false)) ∧ Below w.heap.size w W' := by
  have h1 : 1 ≤ n := by omega
  refine callsIn_of_wp_marks Tryz.func54 rfl h3 ?_ hro
  simp only [Tryz.ntmps54, List.size_toArray, List.length_cons, List.length_nil, Nat.reduceAdd, Nat.reduceSub, Array.replicate_succ, Array.replicate_zero, List.push_toArray, List.append_toArray, List.nil_append, List.cons_append]
  gi_wp2_with (gi_at_call 98; refine (backward_in F (n - 1) h4 hro _ _ _ _).mono ?_; rintro e w' ⟨rfl, rfl⟩)
  have hsz : ((((w.alloc (.cells #[.string name] 9)).alloc (.cells #[.slice none 0 0, .string default, .int .i64 0, .slice none 0 0] 123)).alloc (.cells #[.bool false] 4)).alloc (.cells #[.slice a len cap] 120)).heap.size = w.heap.size + 4 := by simp
  have hb0 : ((((w.alloc (.cells #[.string name] 9)).alloc (.cells #[.slice none 0 0, .string default, .int .i64 0, .slice none 0 0] 123)).alloc (.cells #[.bool false] 4)).alloc (.cells #[.slice a len cap] 120)).heap[w.heap.size]? = some (.cells #[.string name] 9) := by
    exact ((Below.heap_alloc _ _ _ (by simp only [World.size_alloc]; omega)).trans ((Below.heap_alloc _ _ _ (by simp only [World.size_alloc]; omega)).trans ((Below.heap_alloc _ _ _ (by simp only [World.size_alloc]; omega)).trans (World.alloc_heap_new w (.cells #[.string name] 9)))))
  have hb1 : ((((w.alloc (.cells #[.string name] 9)).alloc (.cells #[.slice none 0 0, .string default, .int .i64 0, .slice none 0 0] 123)).alloc (.cells #[.bool false] 4)).alloc (.cells #[.slice a len cap] 120)).heap[w.heap.size + 1]? = some (.cells #[.slice none 0 0, .string default, .int .i64 0, .slice none 0 0] 123) := by
    exact ((Below.heap_alloc _ _ _ (by simp only [World.size_alloc]; omega)).trans ((Below.heap_alloc _ _ _ (by simp only [World.size_alloc]; omega)).trans (by have h := World.alloc_heap_new (w.alloc (.cells #[.string name] 9)) (.cells #[.slice none 0 0, .string default, .int .i64 0, .slice none 0 0] 123); simp only [World.size_alloc] at h; exact h)))
  have hb2 : ((((w.alloc (.cells #[.string name] 9)).alloc (.cells #[.slice none 0 0, .string default, .int .i64 0, .slice none 0 0] 123)).alloc (.cells #[.bool false] 4)).alloc (.cells #[.slice a len cap] 120)).heap[w.heap.size + 2]? = some (.cells #[.bool false] 4) := by
    exact ((Below.heap_alloc _ _ _ (by simp only [World.size_alloc]; omega)).trans (by have h := World.alloc_heap_new ((w.alloc (.cells #[.string name] 9)).alloc (.cells #[.slice none 0 0, .string default, .int .i64 0, .slice none 0 0] 123)) (.cells #[.bool false] 4); simp only [World.size_alloc] at h; exact h))
  have hb3 : ((((w.alloc (.cells #[.string name] 9)).alloc (.cells #[.slice none 0 0, .string default, .int .i64 0, .slice none 0 0] 123)).alloc (.cells #[.bool false] 4)).alloc (.cells #[.slice a len cap] 120)).heap[w.heap.size + 3]? = some (.cells #[.slice a len cap] 120) := by
    exact (by have h := World.alloc_heap_new (((w.alloc (.cells #[.string name] 9)).alloc (.cells #[.slice none 0 0, .string default, .int .i64 0, .slice none 0 0] 123)).alloc (.cells #[.bool false] 4)) (.cells #[.slice a len cap] 120); simp only [World.size_alloc] at h; exact h)
  have hB0 : Below w.heap.size w ((((w.alloc (.cells #[.string name] 9)).alloc (.cells #[.slice none 0 0, .string default, .int .i64 0, .slice none 0 0] 123)).alloc (.cells #[.bool false] 4)).alloc (.cells #[.slice a len cap] 120)) :=
    ((((Below.refl _ w).alloc (Nat.le_refl _) _).alloc (by simp) _).alloc (by simp; omega) _).alloc (by simp; omega) _
  obtain ⟨W0, hW0⟩ : ∃ W0, ((((w.alloc (.cells #[.string name] 9)).alloc (.cells #[.slice none 0 0, .string default, .int .i64 0, .slice none 0 0] 123)).alloc (.cells #[.bool false] 4)).alloc (.cells #[.slice a len cap] 120)) = W0 := ⟨_, rfl⟩
  rw [hW0] at hsz hb0 hb1 hb2 hb3 hB0
  have hgoal := hW0
  refine hW0 ▸ ?_
  clear hW0 hgoal
  refine wpIn_rangeFunc_ownH hro h1 (gf := 126) (lb := #[.pointer (some ⟨w.heap.size + 1 + 1 + 1, 0, none⟩)]) rfl h5 (enters_of Tryz.func126 (by kernel_rfl) rfl)
    (back_stops F (n - 1) h5 hro (by omega) (w.heap.size + 1 + 1 + 1) W0.heap.size _ zs hreach W0 (by omega) (Nat.le_refl _) (by omega) (by simp [World.cell?, show w.heap.size + 1 + 1 + 1 = w.heap.size + 3 from rfl, hb3]) ((hI.below hB0).mono (by omega))) belowK_t (belowK_b (Nat.le_refl _)) (Below.refl _ _) (fun _ => rfl)
    (fun pre W => (∀ x ∈ pre, x.2.hit name = false) ∧ Below W0.heap.size W0 W)
    (fun c pre W => (c = .ret ∧ ∃ ini last, pre = ini ++ [last] ∧ (∀ x ∈ ini, x.2.hit name = false) ∧ last.2.hit name = true ∧ BdAt' W (w.heap.size + 1) last.2 ∧ W.cell? ⟨w.heap.size + 2, 0, none⟩ = some (.bool true)) ∧ Below w.heap.size w W)
    (OwnFrom.and (Own.from (fun _ _ _ _ hs _ _ => hs) _) (ownFrom_below (Nat.le_refl _) (Nat.le_refl _)))
    (fun c => OwnFrom.and (Own.from (fun s A B row hs hg hr => by obtain ⟨hc, ini, last, e1, e2, e3, e4, e5⟩ := hs; exact ⟨hc, ini, last, e1, e2, e3, e4.own hg hr, cell_kept e5 hg hr⟩) _) (ownFrom_below (Nat.le_refl _) (by omega)))
    ⟨by simp, Below.refl _ _⟩
    (fun x a' W => ∃ Bx, W0.heap.size ≤ Bx ∧ BdAt W Bx 0 x.2 ∧ a' = { tmps := #[.slice a len cap, .string name, undef, .pointer (some ⟨w.heap.size, 0, none⟩), .pointer (some ⟨w.heap.size + 1, 0, none⟩), .pointer (some ⟨w.heap.size + 1 + 1, 0, none⟩), undef, .pointer (some ⟨Bx, 0, none⟩), .slice a len cap, .func (.func 126) #[] #[.pointer (some ⟨w.heap.size + 1 + 1 + 1, 0, none⟩)], .int .i64 (x.1 : Int), x.2.v, undef, undef, undef, undef, undef, undef, undef], defers := [] })
    (fun x a' _ X Y row hs hg hr => by obtain ⟨Bx, h1, h2, h3⟩ := hs; exact ⟨Bx, h1, BdAt.own () X Y row h2 hg (fun r e => (hr r e).2), h3⟩)
    ?assign ?body ?done ?stop
  case assign =>
    rintro l pre x W K ⟨hp, hB1⟩ hK
    dsimp only [Bd.v]
    gi_wp2
    have hnw := World.alloc_heap_new W (.cells #[.string x.2.nm, .slice x.2.va x.2.vl x.2.vc, .string x.2.op, .int .i64 x.2.n, .slice x.2.ka x.2.kl x.2.kc] 183)
    exact hK _ _ ((KeepsOthers.alloc _ _).from _) ((Below.refl _ W).alloc hB1.size _) ⟨hp, hB1.alloc hB1.size _⟩
      ⟨W.heap.size, hB1.size, ⟨by simp only [World.cell?, hnw]; rfl, by simp only [World.cell?, hnw]; rfl, by simp only [World.cell?, hnw]; rfl, by simp only [World.cell?, hnw]; rfl, by simp only [World.cell?, hnw]; rfl⟩, rfl⟩
  case body =>
    rintro l pre x a' W hl ⟨r, hr⟩ ⟨hp, hB1⟩ ⟨Bx, hBx, bX, rfl⟩ hlt
    have g0 := (hB1.block w.heap.size (by omega)).trans hb0
    have g1 := (hB1.block (w.heap.size + 1) (by omega)).trans hb1
    have g2 : W.heap[w.heap.size + 1 + 1]? = _ := (hB1.block (w.heap.size + 2) (by omega)).trans hb2
    have k0 : W.cell? ⟨w.heap.size, 0, none⟩ = some (.string name) := by simp [World.cell?, g0]
    have k1 : W.cell? ⟨w.heap.size + 1, 0, none⟩ = some (.slice none 0 0) := by simp [World.cell?, g1]
    have k2 : W.cell? ⟨w.heap.size + 1, 1, none⟩ = some (.string default) := by simp [World.cell?, g1]
    have k3 : W.cell? ⟨w.heap.size + 1, 2, none⟩ = some (.int .i64 0) := by simp [World.cell?, g1]
    have k4 : W.cell? ⟨w.heap.size + 1, 3, none⟩ = some (.slice none 0 0) := by simp [World.cell?, g1]
    have k5 : W.cell? ⟨w.heap.size + 1 + 1, 0, none⟩ = some (.bool false) := by simp [World.cell?, g2]
    have f1 : W.frozen? ⟨w.heap.size + 1, 0, none⟩ = false := by simp [World.frozen?, g1]
    have f2 : W.frozen? ⟨w.heap.size + 1, 1, none⟩ = false := by simp [World.frozen?, g1]
    have f3 : W.frozen? ⟨w.heap.size + 1, 2, none⟩ = false := by simp [World.frozen?, g1]
    have f4 : W.frozen? ⟨w.heap.size + 1, 3, none⟩ = false := by simp [World.frozen?, g1]
    have f5 : W.frozen? ⟨w.heap.size + 1 + 1, 0, none⟩ = false := by simp [World.frozen?, g2]
    obtain ⟨c0, c1, c2, c3, c4⟩ := bX
    dsimp only [Bd.v]
    gi_wp2
    · have hx : x.2.hit name = true := by assumption
      refine ⟨(((((KeepsOthers.setCell _ _ _).trans (KeepsOthers.setCell _ _ _)).trans (KeepsOthers.setCell _ _ _)).trans (KeepsOthers.setCell _ _ _)).trans (KeepsOthers.setCell _ _ _)).from _, ⟨rfl, pre, x, rfl, hp, hx, ⟨?_, ?_, ?_, ?_⟩, ?_⟩,
        (((((hB0.trans (hB1.mono (by omega))).setCell (p := ⟨w.heap.size + 1, 0, none⟩) (by simp) _).setCell (p := ⟨w.heap.size + 1, 1, none⟩) (by simp) _).setCell (p := ⟨w.heap.size + 1, 2, none⟩) (by simp) _).setCell (p := ⟨w.heap.size + 1, 3, none⟩) (by simp) _).setCell (p := ⟨w.heap.size + 1 + 1, 0, none⟩) (by simp; omega) _⟩
      all_goals simp [go_sem, k1, k2, k3, k4, k5]
    · have hx : x.2.hit name = false := by assumption
      exact ⟨KeepsFrom.refl _ _, Below.refl _ _, ⟨fun p hp' => (List.mem_append.1 hp').elim (hp p) (fun e => by simp at e; subst e; exact hx), hB1⟩⟩
  case done =>
    rintro D ys W hD rfl ⟨hp, hB1⟩ hK
    have g0 := (hB1.block w.heap.size (by omega)).trans hb0
    have g1 := (hB1.block (w.heap.size + 1) (by omega)).trans hb1
    have g2 : W.heap[w.heap.size + 1 + 1]? = _ := (hB1.block (w.heap.size + 2) (by omega)).trans hb2
    have k0 : W.cell? ⟨w.heap.size, 0, none⟩ = some (.string name) := by simp [World.cell?, g0]
    have k1 : W.cell? ⟨w.heap.size + 1, 0, none⟩ = some (.slice none 0 0) := by simp [World.cell?, g1]
    have k2 : W.cell? ⟨w.heap.size + 1, 1, none⟩ = some (.string default) := by simp [World.cell?, g1]
    have k3 : W.cell? ⟨w.heap.size + 1, 2, none⟩ = some (.int .i64 0) := by simp [World.cell?, g1]
    have k4 : W.cell? ⟨w.heap.size + 1, 3, none⟩ = some (.slice none 0 0) := by simp [World.cell?, g1]
    have k5 : W.cell? ⟨w.heap.size + 1 + 1, 0, none⟩ = some (.bool false) := by simp [World.cell?, g2]
    have f1 : W.frozen? ⟨w.heap.size + 1, 0, none⟩ = false := by simp [World.frozen?, g1]
    have f2 : W.frozen? ⟨w.heap.size + 1, 1, none⟩ = false := by simp [World.frozen?, g1]
    have f3 : W.frozen? ⟨w.heap.size + 1, 2, none⟩ = false := by simp [World.frozen?, g1]
    have f4 : W.frozen? ⟨w.heap.size + 1, 3, none⟩ = false := by simp [World.frozen?, g1]
    have f5 : W.frozen? ⟨w.heap.size + 1 + 1, 0, none⟩ = false := by simp [World.frozen?, g2]
    gi_wp2
    have hK' := (((((KeepsOthers.setCell W ⟨w.heap.size + 1, 0, none⟩ (.slice none 0 0)).trans (KeepsOthers.setCell _ ⟨w.heap.size + 1, 1, none⟩ (.string ⟨#[]⟩))).trans (KeepsOthers.setCell _ ⟨w.heap.size + 1, 2, none⟩ (.int .i64 0))).trans (KeepsOthers.setCell _ ⟨w.heap.size + 1, 3, none⟩ (.slice none 0 0))).trans (KeepsOthers.setCell _ ⟨w.heap.size + 1 + 1, 0, none⟩ (.bool false))).same D _ hK rfl
    refine ⟨by simp, .inl ⟨_, _, rfl, run_takeDeferred hK', ?_⟩⟩
    have kept : ∀ {p : Addr} {v : Value}, (((((W.setCell ⟨w.heap.size + 1, 0, none⟩ (.slice none 0 0)).setCell ⟨w.heap.size + 1, 1, none⟩ (.string ⟨#[]⟩)).setCell ⟨w.heap.size + 1, 2, none⟩ (.int .i64 0)).setCell ⟨w.heap.size + 1, 3, none⟩ (.slice none 0 0)).setCell ⟨w.heap.size + 1 + 1, 0, none⟩ (.bool false)).cell? p = some v →
        ((((((W.setCell ⟨w.heap.size + 1, 0, none⟩ (.slice none 0 0)).setCell ⟨w.heap.size + 1, 1, none⟩ (.string ⟨#[]⟩)).setCell ⟨w.heap.size + 1, 2, none⟩ (.int .i64 0)).setCell ⟨w.heap.size + 1, 3, none⟩ (.slice none 0 0)).setCell ⟨w.heap.size + 1 + 1, 0, none⟩ (.bool false)).putObj D (.deferred none)).cell? p = some v :=
      fun h => cell_kept h (grownBy_putObj' _ D (.deferred none)) (fun r e => by cases e; exact ⟨_, hK', rfl⟩)
    have m1 := kept (p := ⟨w.heap.size + 1, 0, none⟩) (v := .slice none 0 0) (by simp [go_sem, k1, k2, k3, k4, k5])
    have m2 := kept (p := ⟨w.heap.size + 1, 1, none⟩) (v := .string ⟨#[]⟩) (by simp [go_sem, k1, k2, k3, k4, k5])
    have m3 := kept (p := ⟨w.heap.size + 1, 2, none⟩) (v := .int .i64 0) (by simp [go_sem, k1, k2, k3, k4, k5])
    have m4 := kept (p := ⟨w.heap.size + 1, 3, none⟩) (v := .slice none 0 0) (by simp [go_sem, k1, k2, k3, k4, k5])
    have m5 := kept (p := ⟨w.heap.size + 1 + 1, 0, none⟩) (v := .bool false) (by simp [go_sem, k1, k2, k3, k4, k5])
    refine ⟨.tuple #[.agg #[.slice none 0 0, .string default, .int .i64 0, .slice none 0 0], .bool false], ?_, .inl ⟨rfl, fun j hj => ?_⟩, ?_⟩
    · clear kept
      generalize ((((((W.setCell ⟨w.heap.size + 1, 0, none⟩ (.slice none 0 0)).setCell ⟨w.heap.size + 1, 1, none⟩ (.string ⟨#[]⟩)).setCell ⟨w.heap.size + 1, 2, none⟩ (.int .i64 0)).setCell ⟨w.heap.size + 1, 3, none⟩ (.slice none 0 0)).setCell ⟨w.heap.size + 1 + 1, 0, none⟩ (.bool false)).putObj D (.deferred none)) = V at m1 m2 m3 m4 m5 ⊢
      simp [results, Tryz.f54, go_sem, m1, m2, m3, m4, m5]
      try rfl
    · refine hp (j, zs[j]) ?_
      simp only [upto, List.mem_map, List.mem_range]
      refine ⟨zs.length - 1 - j, by omega, ?_⟩
      have e : zs.length - 1 - (zs.length - 1 - j) = j := by omega
      simp only [back, e, List.getElem?_eq_getElem hj, Option.getD_some]
    · exact ((((((hB0.trans (hB1.mono (by omega))).setCell (p := ⟨w.heap.size + 1, 0, none⟩) (by simp) _).setCell (p := ⟨w.heap.size + 1, 1, none⟩) (by simp) _).setCell (p := ⟨w.heap.size + 1, 2, none⟩) (by simp) _).setCell (p := ⟨w.heap.size + 1, 3, none⟩) (by simp) _).setCell (p := ⟨w.heap.size + 1 + 1, 0, none⟩) (by simp; omega) _).trans (belowK_b (w := w) (Nat.le_refl _) _ D _ _ (by omega) hK' rfl rfl)
  case stop =>
    rintro D c pre W hD ⟨k, hk, rfl⟩ ⟨⟨rfl, ini, last, e1, e2, e3, e4, e5⟩, hB1⟩ hK
    gi_wp2
    refine ⟨by simp, .inl ⟨_, _, rfl, run_takeDeferred hK, ?_⟩⟩
    obtain ⟨k', rfl⟩ : ∃ k', k = k' + 1 := by
      cases k with
      | zero => simp [upto] at e1
      | succ k' => exact ⟨k', rfl⟩
    rw [upto_succ] at e1
    obtain ⟨rfl, e6⟩ := List.append_inj' e1 rfl
    obtain rfl : back zs k' = last := by simpa using e6
    have hj : zs.length - 1 - k' < zs.length := by omega
    have ez : (back zs k').2 = zs[zs.length - 1 - k'] := by simp only [back, List.getElem?_eq_getElem hj, Option.getD_some]
    rw [ez] at e3 e4
    have kept : ∀ {p : Addr} {v : Value}, W.cell? p = some v → (W.putObj D (.deferred none)).cell? p = some v := fun h => cell_kept h (grownBy_putObj' _ D (.deferred none)) (fun r e => by cases e; exact ⟨_, hK, rfl⟩)
    have m1 := kept e4.c1
    have m2 := kept e4.c2
    have m3 := kept e4.c3
    have m4 := kept e4.c4
    have m5 := kept e5
    refine ⟨.tuple #[zs[zs.length - 1 - k'].s, .bool true], ?_, .inr ⟨zs.length - 1 - k', hj, rfl, e3, fun j hj' hlt => ?_⟩, hB1.trans (belowK_b (w := w) (Nat.le_refl _) W D _ _ (by omega) hK rfl rfl)⟩
    · simp [results, Tryz.f54, go_sem, m1, m2, m3, m4, m5, Bd.s]
    · refine e2 (j, zs[j]) ?_
      simp only [upto, List.mem_map, List.mem_range]
      refine ⟨zs.length - 1 - j, by omega, ?_⟩
      have e : zs.length - 1 - (zs.length - 1 - j) = j := by omega
      simp only [back, e, List.getElem?_eq_getElem hj', Option.getD_some]
end Go.Proofs.YtbjcajjlpehfiaaGreatDoor
