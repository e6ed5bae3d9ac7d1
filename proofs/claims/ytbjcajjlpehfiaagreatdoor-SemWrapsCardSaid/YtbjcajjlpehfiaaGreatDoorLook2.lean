/- What is proved here: what the evaluator has in place of 'scheme.Look' is what that function comes to. No condition. -/
import Derived.Test.YtbjcajjlpehfiaaGreatDoorRfxDm
import Derived.Test.YtbjcajjlpehfiaaGreatDoorLook1
set_option linter.unusedVariables false
set_option linter.unusedSectionVars false
set_option linter.unusedSimpArgs false
set_option linter.constructorNameAsVariable false
namespace Go.Proofs.YtbjcajjlpehfiaaGreatDoor
open Go Go.Rfx Go.RowKit
variable [Sy]

noncomputable section
/-- a slice's value -/
def slV (v : V) : Bool := v.slK false true fun _ _ _ _ => true
/-- one more name -/
def lkS (nm : List Nat) (ih : List V → Option (List V) → Option (Option (List V))) (l : List V) (acc : Option (List V)) : Option (Option (List V)) :=
  match l with
  | .s x :: a :: .s op :: .i .i64 q :: k :: r => Bool.casesOn (slV a) none (Bool.casesOn (slV k) none (Bool.casesOn (eqL x nm) (ih r acc) (ih r (some [a, .s op, .i .i64 q, k]))))
  | _ => none
/-- the scheme of the last one of a name, behind another -/
def lkF (nm : List Nat) (n : Nat) : List V → Option (List V) → Option (Option (List V)) :=
  Nat.rec (motive := fun _ => List V → Option (List V) → Option (Option (List V))) (fun _ acc => some acc) (fun _ ih l acc => lkS nm ih l acc) n
def lkR (o : Option (Option (List V))) (h : H) : OR :=
  Option.casesOn o .err fun o => Option.casesOn o (.ok (.t [.a [.sn, .s [], .i .i64 (Int.ofNat 0), .sn], .b false]) h) fun l => .ok (.t [.a l, .b true]) h
def lookG (al : List V) (h : H) : OR :=
  match al with
  | [env, .s nm] => env.slK .err (lkR (some none) h) fun i o n _ => Bool.casesOn (Nat.ble n 100000) .err (Option.casesOn (loadC h i o (Nat.mul n 5)) .err fun l => lkR (lkF nm n l none) h)
  | _ => .err
end

theorem slV_rel {φ : Phi} {v : V} {x : Value} (h : slV v = true) (r : RV φ v x) : ∃ a l c, x = .slice a l c := by
  cases v <;> first | (cases h; done) | skip
  · cases r; exact ⟨_, _, _, rfl⟩
  · cases r; exact ⟨_, _, _, rfl⟩

theorem lkS_some {nm : List Nat} {ih : List V → Option (List V) → Option (Option (List V))} {l : List V} {acc : Option (List V)} {acc' : Option (List V)} (h : lkS nm ih l acc = some acc') :
    ∃ x a op q k r, l = .s x :: a :: .s op :: .i .i64 q :: k :: r ∧ slV a = true ∧ slV k = true ∧ ((eqL x nm = false ∧ ih r acc = some acc') ∨ (eqL x nm = true ∧ ih r (some [a, .s op, .i .i64 q, k]) = some acc')) := by
  unfold lkS at h
  split at h
  · rename_i x a op q k r
    cases ha : slV a with
    | false => rw [ha] at h; cases h
    | true =>
    rw [ha] at h
    cases hk : slV k with
    | false => rw [hk] at h; cases h
    | true =>
    rw [hk] at h
    cases he : eqL x nm with
    | false => rw [he] at h; exact ⟨x, a, op, q, k, r, rfl, ha, hk, .inl ⟨he, h⟩⟩
    | true => rw [he] at h; exact ⟨x, a, op, q, k, r, rfl, ha, hk, .inr ⟨he, h⟩⟩
  · cases h
theorem look_sees {φ : Phi} {w : World} {b : Nat} {nm : ByteArray} : ∀ (n : Nat) (l : List V) (off : Nat) (acc acc' : Option (List V)), (∀ (t : Nat) (v : V), l[t]? = some v → ∃ x, w.cell? ⟨b, off + t, none⟩ = some x ∧ RV φ v x) →
    lkF (nm.data.toList.map UInt8.toNat) n l acc = some acc' → ∃ zs : List Bd, zs.length = n ∧ (∀ j (h : j < zs.length), BdAt w b (off + j * 5) zs[j]) ∧ ((∀ j (h : j < zs.length), zs[j].hit nm = false) → acc' = acc) ∧
      ∀ k (h : k < zs.length), zs[k].hit nm = true → (∀ j (h : j < zs.length), k < j → zs[j].hit nm = false) → ∃ cl, acc' = some cl ∧ RV φ (.a cl) zs[k].s
  | 0, l, off, acc, acc', hl, h => by
    have h' : some acc = some acc' := h
    injection h' with h'
    exact ⟨[], rfl, fun j h => absurd h (Nat.not_lt_zero _), fun _ => h'.symm, fun k h => absurd h (Nat.not_lt_zero _)⟩
  | n + 1, l, off, acc, acc', hl, h => by
    obtain ⟨x, a, op, q, k, r, rfl, ha, hk, h1⟩ := lkS_some (show lkS (nm.data.toList.map UInt8.toNat) (lkF (nm.data.toList.map UInt8.toNat) n) l acc = some acc' from h)
    obtain ⟨y0, w0, r0⟩ := hl 0 _ rfl
    obtain ⟨y1, w1, r1⟩ := hl 1 _ rfl
    obtain ⟨y2, w2, r2⟩ := hl 2 _ rfl
    obtain ⟨y3, w3, r3⟩ := hl 3 _ rfl
    obtain ⟨y4, w4, r4⟩ := hl 4 _ rfl
    obtain ⟨va, vl, vc, rfl⟩ := slV_rel ha r1
    obtain ⟨ka, kl, kc, rfl⟩ := slV_rel hk r4
    cases r0 with | s _ s0 e0 =>
    cases r2 with | s _ s2 e2 =>
    cases r3
    have hx : eqL x (nm.data.toList.map UInt8.toNat) = (⟨s0, va, vl, vc, s2, q, ka, kl, kc⟩ : Bd).hit nm := by
      rw [eqL_eq, ← e0, str_beq]; rfl
    have zat : BdAt w b off (⟨s0, va, vl, vc, s2, q, ka, kl, kc⟩ : Bd) := ⟨w0, w1, w2, w3, w4⟩
    have zrv : RV φ (.a [a, .s op, .i .i64 q, k]) (⟨s0, va, vl, vc, s2, q, ka, kl, kc⟩ : Bd).s := .a _ _ (.cons _ _ _ _ r1 (.cons _ _ _ _ (.s _ s2 e2) (.cons _ _ _ _ (.i .i64 q) (.cons _ _ _ _ r4 .nil))))
    have hl' : ∀ (t : Nat) (v : V), r[t]? = some v → ∃ x, w.cell? ⟨b, off + 5 + t, none⟩ = some x ∧ RV φ v x := by
      intro t v hv
      obtain ⟨y, g1, g2⟩ := hl (t + 5) v (by simpa using hv)
      exact ⟨y, by rw [show off + 5 + t = off + (t + 5) by omega]; exact g1, g2⟩
    have up : ∀ (acc1 : Option (List V)), lkF (nm.data.toList.map UInt8.toNat) n r acc1 = some acc' → ((⟨s0, va, vl, vc, s2, q, ka, kl, kc⟩ : Bd).hit nm = false → acc1 = acc) → ((⟨s0, va, vl, vc, s2, q, ka, kl, kc⟩ : Bd).hit nm = true → acc1 = some [a, .s op, .i .i64 q, k]) →
        ∃ zs : List Bd, zs.length = n + 1 ∧ (∀ j (h : j < zs.length), BdAt w b (off + j * 5) zs[j]) ∧ ((∀ j (h : j < zs.length), zs[j].hit nm = false) → acc' = acc) ∧
          ∀ k (h : k < zs.length), zs[k].hit nm = true → (∀ j (h : j < zs.length), k < j → zs[j].hit nm = false) → ∃ cl, acc' = some cl ∧ RV φ (.a cl) zs[k].s := by
      intro acc1 hh c1 c2
      obtain ⟨zs, g1, g2, g3, g4⟩ := look_sees n r (off + 5) acc1 acc' hl' hh
      refine ⟨⟨s0, va, vl, vc, s2, q, ka, kl, kc⟩ :: zs, by simp [g1], ?_, ?_, ?_⟩
      · intro j hj
        cases j with
        | zero => simpa using zat
        | succ j =>
          have := g2 j (by simpa using hj)
          rw [show off + (j + 1) * 5 = off + 5 + j * 5 by omega]
          simpa using this
      · intro hn
        rw [g3 fun j hj => hn (j + 1) (by simpa using hj)]
        exact c1 (hn 0 (by simp))
      · intro k' hk' hit hlast
        cases k' with
        | zero => exact ⟨_, (g3 fun j hj => hlast (j + 1) (by simpa using hj) (by omega)).trans (c2 (by simpa using hit)), by simpa using zrv⟩
        | succ k' =>
          have := g4 k' (by simpa using hk') (by simpa using hit) fun j hj hlt => hlast (j + 1) (by simpa using hj) (by omega)
          simpa using this
    rcases h1 with ⟨he, h1⟩ | ⟨he, h1⟩
    · rw [he] at hx
      exact up acc h1 (fun _ => rfl) fun e => by rw [e] at hx; cases hx
    · rw [he] at hx
      exact up _ h1 (fun e => by rw [e] at hx; cases hx) fun _ => rfl

theorem look_served : Served Tryz.prog 54 (.h lookG) := by
  refine ⟨by kernel_rfl, fun al h v h' hv φ w args hr r => ?_⟩
  have key : ∀ (a : Option Addr) (len cap : Nat) (zs : List Bd) (name : ByteArray), args = #[.slice a len cap, .string name] → zs.length ≤ 100000 → Bds w.heap.size w (.slice a len cap) zs → (∃ o, lkR o h = .ok v h' ∧ ∃ acc, o = some acc ∧ ((∀ j (h : j < zs.length), zs[j].hit name = false) → acc = none) ∧
      ∀ k (h : k < zs.length), zs[k].hit name = true → (∀ j (h : j < zs.length), k < j → zs[j].hit name = false) → ∃ cl, acc = some cl ∧ RV φ (.a cl) zs[k].s) →
      Calls Tryz.prog 54 args w fun e w' => ∃ x, e = .returned x ∧ After Tryz.prog (fun k => h.nx.num ≤ k.num) φ h w v h' x w' := by
    rintro a len cap zs name rfl hz hB ⟨o, hv, acc, rfl, n1, n2⟩
    refine (callsIn_wide.1 (Look_in Fence.wide 6 trivial trivial trivial rfl (Nat.le_refl _) a len cap zs name (by omega) w hB)).mono fun e w' hh => ?_
    obtain ⟨hh, bl⟩ := hh
    have kt : Kept w w' := ⟨bl.os, bl.tape, bl.output, bl.size, bl.block⟩
    rcases hh with ⟨rfl, hn⟩ | ⟨k, hk, rfl, hit, hlast⟩
    · rw [n1 hn] at hv
      injection hv with e1 e2
      subst e1; subst e2
      exact ⟨_, rfl, φ, .t _ _ (.cons _ _ _ _ (.a _ _ (.cons _ _ _ _ .sn (.cons _ _ _ _ (.s _ _ rfl) (.cons _ _ _ _ (.i .i64 0) (.cons _ _ _ _ .sn .nil))))) (.cons _ _ _ _ (.b false) .nil)), kt.rw r, kt.kp⟩
    · obtain ⟨cl, e0, hcl⟩ := n2 k hk hit hlast
      rw [e0] at hv
      injection hv with e1 e2
      subst e1; subst e2
      exact ⟨_, rfl, φ, .t _ _ (.cons _ _ _ _ hcl (.cons _ _ _ _ (.b true) .nil)), kt.rw r, kt.kp⟩
  unfold lookG at hv
  split at hv
  · rename_i env nm
    generalize hargs : args.toList = xs at hr
    cases hr with | cons _ x _ xs hx hr =>
    cases hr with | cons _ y _ xs hy hr =>
    cases hr
    cases hy with | s _ name en =>
    have ha : args = #[x, .string name] := by rw [← Array.toArray_toList (xs := args), hargs]
    cases env with
    | sn =>
      cases hx
      exact key none 0 0 [] name ha (by simp) (.inl ⟨rfl, rfl⟩) ⟨some none, hv, none, rfl, fun _ => rfl, fun k hk => absurd hk (Nat.not_lt_zero _)⟩
    | sl i o n c =>
      cases hx with | sl _ _ _ _ cap ri hi hc =>
      have hv1 : (Bool.casesOn (Nat.ble n 100000) .err (Option.casesOn (loadC h i o (Nat.mul n 5)) .err fun l => lkR (lkF nm n l none) h) : OR) = .ok v h' := hv
      cases hle : Nat.ble n 100000 with
      | false => rw [hle] at hv1; cases hv1
      | true =>
      rw [hle] at hv1
      obtain ⟨l, hl, hv2⟩ := OR_none (show (Option.casesOn (loadC h i o (Nat.mul n 5)) .err fun l => lkR (lkF nm n l none) h : OR) = .ok v h' from hv1)
      obtain ⟨q, hq, hl1⟩ := ob_eq.1 (show ob (h.get i) (fun b => bC b none fun l _ _ => takeL (dropL l o) (Nat.mul n 5)) = some l from hl)
      cases q with
      | m es => cases hl1
      | c cells ro cl =>
      obtain ⟨hlen, rfl⟩ := takeL_some.1 (show takeL (dropL cells o) (Nat.mul n 5) = some l from hl1)
      rw [dropL_eq] at hlen hv2
      cases hacc : lkF nm n ((cells.drop o).take (Nat.mul n 5)) none with
      | none => rw [hacc] at hv2; cases hv2
      | some acc =>
      rw [hacc] at hv2
      rw [← en] at hacc
      obtain ⟨zs, g1, g2, g3, g4⟩ := look_sees (φ := φ) (w := w) (b := ri.b) n _ o none acc (fun t v ht => by
        rw [List.getElem?_take] at ht
        split at ht
        · rw [List.getElem?_drop] at ht
          exact r.cell hq hi ht
        · cases ht) hacc
      have hb : ri.b < w.heap.size := by
        obtain ⟨ri', h1, cs, t, fr, h2, _⟩ := r.blk _ _ hq
        rw [hi] at h1; injection h1 with h1; subst h1
        exact (Array.getElem?_eq_some_iff.1 h2).1
      have hz : zs.length ≤ 100000 := by rw [g1]; exact Nat.le_of_ble_eq_true hle
      exact key _ _ _ zs name ha hz (.inr ⟨ri.b, o, cap, by rw [g1], hb, g2⟩) ⟨some acc, hv2, acc, rfl, g3, g4⟩
    | _ => cases hv
  · cases hv
end Go.Proofs.YtbjcajjlpehfiaaGreatDoor
