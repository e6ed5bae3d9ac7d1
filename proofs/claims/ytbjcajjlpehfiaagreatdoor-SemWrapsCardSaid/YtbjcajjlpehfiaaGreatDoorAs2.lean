/- What is proved here: what the evaluator has in place of errors.As is what that function comes to. No condition. -/
import Derived.Test.YtbjcajjlpehfiaaGreatDoorRfxDm
import Derived.Test.YtbjcajjlpehfiaaGreatDoorAs
set_option linter.unusedVariables false
set_option linter.unusedSectionVars false
set_option linter.unusedSimpArgs false
set_option linter.constructorNameAsVariable false
namespace Go.Proofs.YtbjcajjlpehfiaaGreatDoor
open Go Go.Rfx Go.RowKit
variable [Sy]

noncomputable section
/-- errors.errorType's cell -/
def etV : List V := [.w 195 (.a [.p (.r (.l .e)) 73])]
def hasG (h : H) : Bool := Option.casesOn (h.get .e) false fun b => bC b false fun l _ _ => eqF 6 (.a l) (.a etV)
/-- one more error -/
def chS (h : H) (ih : V → Option (K × Nat)) (v : V) : Option (K × Nat) :=
  match v with
  | .w t (.p i o) => Bool.casesOn (Nat.beq t 76) (Bool.casesOn (Nat.beq t 185) none (ob (h.get i) fun b => bC b none fun l _ _ => ob (nth l (Nat.add o 1)) ih)) (some (i, o))
  | _ => none
/-- the fault at the end of a chain -/
def chF (h : H) (n : Nat) : V → Option (K × Nat) := Nat.rec (motive := fun _ => V → Option (K × Nat)) (fun _ => none) (fun _ ih v => chS h ih v) n
def asS (h : H) (v : V) (j : K) (q : Nat) : OR :=
  okO (ob (chF h 200 v) fun e => ob (h.get j) fun b => bC b none fun l ro cl => Bool.casesOn ro (ob (overL [.p e.1 e.2] l q) fun l' => some (.ok (.b true) (h.set j (.c l' false cl)))) none)
def asG (al : List V) (h : H) : OR :=
  match al with
  | [.wn, _] => .ok (.b false) h
  | [v, .w tt (.p j q)] => Bool.casesOn (Nat.beq tt 78) .err (Bool.casesOn (hasG h) .err (asS h v j q))
  | _ => .err
end

theorem chF_rel {φ : Phi} {h : H} {w : World} (r : RW Tryz.prog φ h w) : ∀ (n : Nat) (v : V) (x : Value) (i : K) (o : Nat), chF h n v = some (i, o) → RV φ v x → ∃ ps ri, φ i = some ri ∧ ErrAt w ps ⟨ri.b, o, none⟩ x
  | 0, v, x, i, o, hc, hr => by cases hc
  | n + 1, v, x, i, o, hc, hr => by
    have hc' : chS h (chF h n) v = some (i, o) := hc
    unfold chS at hc'
    split at hc'
    · rename_i t i0 o0
      cases hr with | w _ _ y hy =>
      cases hy with | p _ _ ri hi =>
      cases h76 : Nat.beq t 76 with
      | true =>
        rw [h76] at hc'
        injection hc' with hc'
        injection hc' with e1 e2
        subst e1; subst e2
        have := (beq_iff _ _).1 h76
        subst this
        exact ⟨[], ri, hi, rfl⟩
      | false =>
        rw [h76] at hc'
        cases h185 : Nat.beq t 185 with
        | false => rw [h185] at hc'; cases hc'
        | true =>
          rw [h185] at hc'
          have := (beq_iff _ _).1 h185
          subst this
          obtain ⟨b, hb, c1⟩ := ob_eq.1 (show ob (h.get i0) (fun b => bC b none fun l _ _ => ob (nth l (Nat.add o0 1)) (chF h n)) = some (i, o) from hc')
          obtain ⟨l, ro, cl, rfl, c2⟩ := bC_some c1
          obtain ⟨v', hv', c3⟩ := ob_eq.1 c2
          rw [nth_eq] at hv'
          obtain ⟨x', hx', hr'⟩ := r.cell hb hi hv'
          obtain ⟨ps, rj, hj, he⟩ := chF_rel r n v' x' i o c3 hr'
          exact ⟨(ri.b, o0) :: ps, rj, hj, rfl, x', hx', he⟩
    · cases hc'

theorem as_served : Served Tryz.prog 26 (.h asG) := by
  refine ⟨by kernel_rfl, fun al h v h' hv φ w args hr r => ?_⟩
  unfold asG at hv
  split at hv
  · rename_i u
    injection hv with e1 e2
    subst e1; subst e2
    generalize hargs : args.toList = xs at hr
    cases hr with | cons _ x _ xs hx hr =>
    cases hr with | cons _ y _ xs hy hr =>
    cases hr
    cases hx
    have ha : args = #[.nilIface, y] := by rw [← Array.toArray_toList (xs := args), hargs]
    subst ha
    exact (as_nil y w).mono fun e w' hh => by
      obtain ⟨rfl, rfl⟩ := hh
      exact ⟨_, rfl, φ, .b false, r, Kp.refl _ _ _ _⟩
  · rename_i v0 tt j q hne
    generalize hargs : args.toList = xs at hr
    cases hr with | cons _ x _ xs hx hr =>
    cases hr with | cons _ y _ xs hy hr =>
    cases hr
    cases hy with | w _ _ y hy =>
    cases hy with | p _ _ rj hj =>
    cases h78 : Nat.beq tt 78 with
    | false => rw [h78] at hv; cases hv
    | true =>
    rw [h78] at hv
    have := (beq_iff _ _).1 h78
    subst this
    have ha : args = #[x, .iface 78 (.pointer (some ⟨rj.b, q, none⟩))] := by rw [← Array.toArray_toList (xs := args), hargs]
    subst ha
    cases hG : hasG h with
    | false => rw [hG] at hv; cases hv
    | true =>
    rw [hG] at hv
    have hg : w.cell? ⟨0, 0, none⟩ = some (.iface 195 (.agg #[.pointer (some ⟨4, 73, none⟩)])) := by
      unfold hasG at hG
      cases hb : h.get .e with
      | none => rw [hb] at hG; cases hG
      | some b =>
        rw [hb] at hG
        cases b with
        | m es => cases hG
        | c l ro cl =>
          have he := eqF_eq 6 _ _ (show eqF 6 (.a l) (.a etV) = true from hG)
          injection he with he
          subst he
          obtain ⟨r0, h0, h1⟩ := r.gl 0 (by rw [show gN Tryz.prog = 5 by kernel_rfl]; decide)
          obtain ⟨r4, h4, h5⟩ := r.gl 4 (by rw [show gN Tryz.prog = 5 by kernel_rfl]; decide)
          have k0 : K.of 0 = .e := rfl
          have k4 : K.of 4 = .r (.l .e) := rfl
          rw [k0] at h0
          rw [k4] at h4
          obtain ⟨z, hzc, hzr⟩ := r.cell hb h0 (j := 0) (v := .w 195 (.a [.p (.r (.l .e)) 73])) rfl
          rw [h1] at hzc
          cases hzr with | w _ _ z hzr =>
          cases hzr with | a _ zs hzr =>
          generalize hzs : zs.toList = ys at hzr
          cases hzr with | cons _ z2 _ ys hz2 hz3 =>
          cases hz3
          cases hz2 with | p _ _ rk hk =>
          rw [h4] at hk
          injection hk with hk
          subst hk
          have : zs = #[.pointer (some ⟨r4.b, 73, none⟩)] := by rw [← Array.toArray_toList (xs := zs), hzs]
          rw [hzc, this, h5]
    have hv1 := okO_ok (show asS h v0 j q = .ok v h' from hv)
    obtain ⟨e, he, v2⟩ := ob_eq.1 hv1
    obtain ⟨b, hb, v3⟩ := ob_eq.1 v2
    obtain ⟨l, ro, cl, rfl, v4⟩ := bC_some v3
    obtain ⟨rfl, v5⟩ := bcF v4
    obtain ⟨l', hl', v6⟩ := ob_eq.1 v5
    obtain ⟨hle, hl2⟩ := overL_some.1 hl'
    injection v6 with v6
    injection v6 with g1 g2
    subst g1; subst g2
    obtain ⟨ei, eo⟩ := e
    obtain ⟨ps, re, hre, hch⟩ := chF_rel r 200 v0 x ei eo he hx
    obtain ⟨rj', hj', cs, t0, fr, b1, b2, b3, b4, b5, b6⟩ := r.blk _ _ hb
    rw [hj] at hj'
    injection hj' with hj'
    subst hj'
    have hq : q < cs.size := by
      have : q + 1 ≤ l.length := by simpa using hle
      omega
    have ht0 : w.cell? ⟨rj.b, q, none⟩ = some cs[q] := by simp [World.cell?, b1, hq]
    have hf0 : w.frozen? ⟨rj.b, q, none⟩ = false := by
      have := b5 rfl q (by omega)
      obtain ⟨lo, hi⟩ := fr
      simp only [World.frozen?, b1]
      simp only [Bool.and_eq_false_imp, decide_eq_true_iff, decide_eq_false_iff_not]
      exact fun a b => this ⟨a, b⟩
    have post : ∀ e w', (e = Ending.returned (.bool true) ∧ w' = ((((w.alloc (.cells #[.pointer (some ⟨rj.b, q, none⟩)] 78)).alloc (.cells #[.pointer (some ⟨4, 78, none⟩), .pointer (some ⟨w.heap.size, 0, none⟩), .int .u64 150] 139)).alloc (.cells #[.pointer (some ⟨4, 78, none⟩), .pointer (some ⟨w.heap.size, 0, none⟩), .int .u64 150] 139)).alloc (.cells #[.pointer (some ⟨re.b, eo, none⟩)] 76)).setCell ⟨rj.b, q, none⟩ (.pointer (some ⟨re.b, eo, none⟩))) →
        ∃ x, e = .returned x ∧ After Tryz.prog (fun k => h.nx.num ≤ k.num) φ h w (.b true) (h.set j (.c l' false cl)) x w' := by
      rintro e w' ⟨rfl, rfl⟩
      have bl : Below w.heap.size w ((((w.alloc (.cells #[.pointer (some ⟨rj.b, q, none⟩)] 78)).alloc (.cells #[.pointer (some ⟨4, 78, none⟩), .pointer (some ⟨w.heap.size, 0, none⟩), .int .u64 150] 139)).alloc (.cells #[.pointer (some ⟨4, 78, none⟩), .pointer (some ⟨w.heap.size, 0, none⟩), .int .u64 150] 139)).alloc (.cells #[.pointer (some ⟨re.b, eo, none⟩)] 76)) :=
        ((((Below.refl _ w).alloc (Nat.le_refl _) _).alloc (by simp) _).alloc (by simp; omega) _).alloc (by simp; omega) _
      have kt : Kept w ((((w.alloc (.cells #[.pointer (some ⟨rj.b, q, none⟩)] 78)).alloc (.cells #[.pointer (some ⟨4, 78, none⟩), .pointer (some ⟨w.heap.size, 0, none⟩), .int .u64 150] 139)).alloc (.cells #[.pointer (some ⟨4, 78, none⟩), .pointer (some ⟨w.heap.size, 0, none⟩), .int .u64 150] 139)).alloc (.cells #[.pointer (some ⟨re.b, eo, none⟩)] 76)) :=
        ⟨bl.os, bl.tape, bl.output, bl.size, bl.block⟩
      have hlt : rj.b < w.heap.size := (Array.getElem?_eq_some_iff.1 b1).1
      have ht4 := (bl.cell (p := ⟨rj.b, q, none⟩) hlt).trans ht0
      have hf4 := (bl.frozen (p := ⟨rj.b, q, none⟩) hlt).trans hf0
      generalize ((((w.alloc (.cells #[.pointer (some ⟨rj.b, q, none⟩)] 78)).alloc (.cells #[.pointer (some ⟨4, 78, none⟩), .pointer (some ⟨w.heap.size, 0, none⟩), .int .u64 150] 139)).alloc (.cells #[.pointer (some ⟨4, 78, none⟩), .pointer (some ⟨w.heap.size, 0, none⟩), .int .u64 150] 139)).alloc (.cells #[.pointer (some ⟨re.b, eo, none⟩)] 76)) = W4 at kt ht4 hf4 ⊢
      obtain ⟨w5, k1, k2, k3⟩ := (kt.rw r).over hb hj (c := [.p ei eo]) (vs := [.pointer (some ⟨re.b, eo, none⟩)]) (.cons _ _ _ _ (.p _ _ _ hre) .nil) (by simp [Value.oneCell']) hle
      have hw5 : w5 = W4.setCell ⟨rj.b, q, none⟩ (.pointer (some ⟨re.b, eo, none⟩)) := by
        simp only [storeCells, Sem.run_bind, Addr.add_lit] at k1
        rw [run_store Tryz.prog W4 _ _ _ (by rfl)] at k1
        simp [ht4, hf4] at k1
        exact k1.symm
      rw [← hw5]
      exact ⟨_, rfl, φ, .b true, by rw [hl2]; exact k2, (kt.kp (N := fun k => h.nx.num ≤ k.num)).trans (N' := fun _ => False) (by rw [hl2]; exact k3) (fun _ hk => False.elim hk)⟩
    cases ps with
    | nil =>
      have hx' : x = .iface 76 (.pointer (some ⟨re.b, eo, none⟩)) := hch
      subst hx'
      exact (as_hit _ _ _ w hg ht0 hf0).mono post
    | cons p ps =>
      obtain ⟨rfl, u, hu, hch⟩ := hch
      exact (as_chain p ps u _ _ _ w hu hch hg ht0 hf0).mono post
  · cases hv
end Go.Proofs.YtbjcajjlpehfiaaGreatDoor
