/- What is proved here: a table given as a list; the beginning without package variables. No condition. -/
import Derived.Test.YtbjcajjlpehfiaaGreatDoorRfxDj
set_option linter.unusedVariables false
set_option linter.unusedSectionVars false
set_option linter.unusedSimpArgs false
set_option linter.constructorNameAsVariable false
namespace Go.Rfx
open Go
variable [Sy]

noncomputable def tOf {α : Type} : List (K × α) → T α
  | [] => .leaf
  | e :: l => T.set e.2 e.1 (tOf l)
theorem tOf_get {α : Type} : ∀ {l : List (K × α)} {k : K} {s : α}, T.get k (tOf l) = some s → (k, s) ∈ l
  | [], k, s, h => by rw [tOf, T.get_leaf] at h; cases h
  | e :: l, k, s, h => by
    by_cases hk : k = e.1
    · subst hk
      rw [tOf, T.set, T.get_put_same] at h
      injection h with h
      subst h
      simp
    · rw [tOf, T.set, T.get_put_other _ hk] at h
      exact List.mem_cons_of_mem _ (tOf_get h)
theorem served_rd {p : Program} {f : Nat} {fn : Func} {c : CF} (hm : p.follows .mixedOrders = true) (hf : p.funcs[f]? = some fn) (hc : cF p fn = some c) (hd : (match fn.body with | some code => drsB p fn.ntmps code && okFunc p f | none => false) = true) : Served p f (.c c) := by
  cases hb : fn.body with
  | none => rw [hb] at hd; cases hd
  | some code =>
    rw [hb] at hd
    simp only [Bool.and_eq_true] at hd
    exact ⟨hd.2, fn, code, hf, hb, hc, drsB_ok hm code hd.1⟩
/-- served, each of these -/
def AllServed (p : Program) : List (K × FS) → Prop
  | [] => True
  | e :: l => Served p e.1.num e.2 ∧ AllServed p l
theorem AllServed.mem {p : Program} : ∀ {l : List (K × FS)}, AllServed p l → ∀ e, e ∈ l → Served p e.1.num e.2
  | [], _, e, h => by cases h
  | a :: l, hs, e, h => by
    rcases List.mem_cons.1 h with rfl | h
    · exact hs.1
    · exact AllServed.mem hs.2 e h
theorem snd_of {p : Program} {l : List (K × FS)} {t : T FS} (ht : tOf l = t) (hs : AllServed p l) (n d : Nat) : Snd p (evF t n d) :=
  evF_sound (fun k s h => hs.mem (k, s) (tOf_get (by rw [ht]; exact h))) n d
theorem get_leaf (nx k : K) : (H.mk .leaf nx).get k = none := T.get_leaf k
/-- no package variable: nothing is named -/
theorem RW.empty {p : Program} (hg : p.globals.size = 0) (nx : K) (w : World) : RW p (fun _ => none) (.mk .leaf nx) w :=
  ⟨fun k b h => (by rw [get_leaf] at h; cases h), fun k k' b b' ri ri' h => (by rw [get_leaf] at h; cases h), fun k _ => rfl, fun g h => by unfold gN at h; rw [hg] at h; simp at h⟩
/-- nothing named: all that was there stays -/
theorem Kp.all {N : K → Prop} {nx : K} {w w' : World} {φ' : Phi} {h' : H} (kp : Kp N (fun _ => none) (.mk .leaf nx) w φ' h' w') : ∀ b, b < w.heap.size → w'.heap[b]? = w.heap[b]? :=
  fun b hb => (kp.blk b hb fun ⟨k, q, ri, h, _⟩ => (by rw [get_leaf] at h; cases h)).1
end Go.Rfx
