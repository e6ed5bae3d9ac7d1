/- What is proved here: a function whose code and plans are checked by computing is served. No condition but the check. -/
import Derived.Test.YtbjcajjlpehfiaaGreatDoorRfxDi
set_option linter.unusedVariables false
set_option linter.unusedSectionVars false
set_option linter.unusedSimpArgs false
set_option linter.constructorNameAsVariable false
namespace Go.Rfx
open Go
variable [Sy]

noncomputable section
/-- a list of numbers, each in its head form, handed on -/
def nlF {β : Type} (l : List Nat) : (List Nat → β) → β := List.rec (motive := fun _ => (List Nat → β) → β) (fun k => k []) (fun a _ ih k => nF a fun a => ih fun r => k (a :: r)) l
def bF {β : Type} (b : Bool) (k : Bool → β) : β := Bool.casesOn b (k false) (k true)
def psF {β : Type} (l : PS) : (PS → β) → β := List.rec (motive := fun _ => (PS → β) → β) (fun k => k []) (fun a _ ih k => nF a.1 fun n => bF a.2.1 fun b => bF a.2.2 fun c => ih fun r => k ((n, b, c) :: r)) l
theorem nlF_eq {β : Type} : ∀ (l : List Nat) (k : List Nat → β), nlF l k = k l
  | [], k => rfl
  | a :: l, k => by
    show nF a (fun a => nlF l fun r => k (a :: r)) = _
    rw [nF_eq, nlF_eq l]
theorem bF_eq {β : Type} (b : Bool) (k : Bool → β) : bF b k = k b := by cases b <;> rfl
theorem psF_eq {β : Type} : ∀ (l : PS) (k : PS → β), psF l k = k l
  | [], k => rfl
  | (n, b, c) :: l, k => by
    show nF n (fun n => bF b fun b => bF c fun c => psF l fun r => k ((n, b, c) :: r)) = _
    rw [nF_eq, bF_eq, bF_eq, psF_eq l]
def drB (p : Program) (nt : Nat) (ops : Array Oper) : Bool :=
  match ops.toList.mapM (cO p nt ops.toList) with
  | some cs => nlF (masks ops.toList) fun ms => match pairL ms cs with
    | none => psF (mkPlan ms cs) fun pl => bF (hides pl) fun hd => Bool.casesOn hd (nlF (posL ops.size pl) fun ps => edgesB ops ms && planB ops cs pl ms ps) true
    | some (L, M) => nF L fun L => nF M fun M => nlF (joinM ms L M) fun mA => nlF (joinM ms M L) fun mB => psF (mkPlan mA cs) fun pl => psF (mkPlan mB cs) fun pm => bF (hides pl || hides pm) fun hd =>
      Bool.casesOn hd (nlF (posL ops.size pl) fun psA => nlF (posL ops.size pm) fun psB => planB2 ops cs pl ms pm mA mB psA psB L M) true
  | none => true
def drsB (p : Program) (nt : Nat) : Code → Bool
  | .region _ ops true => drB p nt ops
  | .seq a b => drsB p nt a && drsB p nt b
  | .cond _ a b => drsB p nt a && drsB p nt b
  | .block _ b => drsB p nt b
  | .loop b => drsB p nt b
  | _ => true
end
theorem drB_ok {p : Program} {nt : Nat} {ops : Array Oper} (hm : p.follows .mixedOrders = true) (h : drB p nt ops = true) : DrOK p nt ops := by
  unfold drB at h
  cases hcs : ops.toList.mapM (cO p nt ops.toList) with
  | none =>
    refine drOK_of hm fun c hcD => ?_
    simp only [cD, hcs, bind, Option.bind_none] at hcD
    cases hcD
  | some cs =>
    rw [hcs] at h
    simp only [nlF_eq] at h
    cases hpr : pairL (masks ops.toList) cs with
    | none =>
      rw [hpr] at h
      simp only [psF_eq, bF_eq, nlF_eq] at h
      exact drOK_by hm hcs hpr fun hh => by rw [hh] at h; exact (Bool.and_eq_true _ _).mp h
    | some LM =>
      obtain ⟨L, M⟩ := LM
      rw [hpr] at h
      simp only [psF_eq, bF_eq, nlF_eq, nF_eq] at h
      exact drOK_by2 hm hcs hpr fun hh => by rw [hh] at h; exact h
theorem drsB_ok {p : Program} {nt : Nat} (hm : p.follows .mixedOrders = true) : ∀ (code : Code), drsB p nt code = true → Drs (DrOK p nt) code := by
  intro code
  induction code with
  | region id ops draw => cases draw with
    | true => exact drB_ok hm
    | false => exact fun _ => trivial
  | seq x y ix iy => intro h; simp only [drsB, Bool.and_eq_true] at h; exact ⟨ix h.1, iy h.2⟩
  | cond c x y ix iy => intro h; simp only [drsB, Bool.and_eq_true] at h; exact ⟨ix h.1, iy h.2⟩
  | block id x ix => exact fun h => ix h
  | loop x ix => exact fun h => ix h
  | _ => exact fun _ => trivial
theorem served_of {p : Program} {f : Nat} {fn : Func} {code : Code} {c : CF} (hm : p.follows .mixedOrders = true) (hf : p.funcs[f]? = some fn) (hb : fn.body = some code) (hn : (fn.name == "runtime.NumGoroutine") = false) (hc : cF p fn = some c) (hd : drsB p fn.ntmps code = true) : Served p f (.c c) :=
  ⟨by unfold okFunc; rw [hf]; simp only [hb, Option.isSome_some, hn, Bool.not_false, Bool.and_self], fn, code, hf, hb, hc, drsB_ok hm code hd⟩
end Go.Rfx
