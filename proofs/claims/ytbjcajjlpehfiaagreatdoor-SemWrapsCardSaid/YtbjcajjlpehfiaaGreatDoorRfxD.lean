/- What is proved here: each operation without memory comes, in Go's own run, to a value that is related to the evaluator's. No condition but the relation of its operands. -/
import Derived.Test.YtbjcajjlpehfiaaGreatDoorRfxC
import Derived.Laws.Small
import Derived.Laws.Entries
import Derived.Laws.Slices
set_option linter.unusedVariables false
set_option linter.unusedSectionVars false
set_option linter.unusedSimpArgs false
set_option linter.constructorNameAsVariable false
namespace Go.Rfx
open Go
variable [Sy]

/-! ### taking the evaluator's answers apart -/
section
variable {β : Type}
theorem bc {c : Bool} {a b : Option β} {v : β} (h : (Bool.casesOn c a b : Option β) = some v) : (c = false ∧ a = some v) ∨ (c = true ∧ b = some v) := by
  cases c
  · exact .inl ⟨rfl, h⟩
  · exact .inr ⟨rfl, h⟩
theorem bcT {c : Bool} {b : Option β} {v : β} (h : (Bool.casesOn c none b : Option β) = some v) : c = true ∧ b = some v := by
  cases c
  · cases h
  · exact ⟨rfl, h⟩
theorem bcF {c : Bool} {a : Option β} {v : β} (h : (Bool.casesOn c a none : Option β) = some v) : c = false ∧ a = some v := by
  cases c
  · exact ⟨rfl, h⟩
  · cases h
theorem bK_some {v : V} {k : Bool → Option β} {r : β} (h : v.bK none k = some r) : ∃ b, v = .b b ∧ k b = some r := by
  cases v <;> first | cases h; done | exact ⟨_, rfl, h⟩
theorem iK_some {v : V} {k : IntKind → Int → Option β} {r : β} (h : v.iK none k = some r) : ∃ t n, v = .i t n ∧ k t n = some r := by
  cases v <;> first | cases h; done | exact ⟨_, _, rfl, h⟩
theorem sK_some {v : V} {k : List Nat → Option β} {r : β} (h : v.sK none k = some r) : ∃ l, v = .s l ∧ k l = some r := by
  cases v <;> first | cases h; done | exact ⟨_, rfl, h⟩
theorem pK_some {v : V} {k : K → Nat → Option β} {r : β} (h : v.pK none k = some r) : ∃ i o, v = .p i o ∧ k i o = some r := by
  cases v <;> first | cases h; done | exact ⟨_, _, rfl, h⟩
theorem aK_some {v : V} {k : List V → Option β} {r : β} (h : v.aK none k = some r) : ∃ l, v = .a l ∧ k l = some r := by
  cases v <;> first | cases h; done | exact ⟨_, rfl, h⟩
theorem tK_some {v : V} {k : List V → Option β} {r : β} (h : v.tK none k = some r) : ∃ l, v = .t l ∧ k l = some r := by
  cases v <;> first | cases h; done | exact ⟨_, rfl, h⟩
theorem fK_some {v : V} {k : K → List V → List V → Option β} {r : β} (h : v.fK none k = some r) : ∃ f a c, v = .f f a c ∧ k f a c = some r := by
  cases v <;> first | cases h; done | exact ⟨_, _, _, rfl, h⟩
theorem slK_some {v : V} {z : Option β} {k : K → Nat → Nat → Cp → Option β} {r : β} (h : v.slK none z k = some r) : (v = .sn ∧ z = some r) ∨ ∃ i o n c, v = .sl i o n c ∧ k i o n c = some r := by
  cases v <;> first | cases h; done | exact .inl ⟨rfl, h⟩ | exact .inr ⟨_, _, _, _, rfl, h⟩
theorem mK_some {v : V} {z : Option β} {k : K → Option β} {r : β} (h : v.mK none z k = some r) : (v = .mn ∧ z = some r) ∨ ∃ i, v = .m i ∧ k i = some r := by
  cases v <;> first | cases h; done | exact .inl ⟨rfl, h⟩ | exact .inr ⟨_, rfl, h⟩
end
theorem yK_some {β : Type} {v : V} {d : Option β} {k : Int → Int → Ex → Option β} {r : β} (h : v.yK d k = some r) : d = some r ∨ ∃ lo hi e, v = .y lo hi e ∧ k lo hi e = some r := by
  cases v <;> first | exact .inl h | exact .inr ⟨_, _, _, rfl, h⟩
theorem Ex.eq_eq : ∀ (a b : Ex), Ex.eq a b = true → a = b := by
  have two : ∀ {p q : Bool}, (Bool.casesOn p false q : Bool) = true → p = true ∧ q = true := by
    intro p q h
    cases p
    · cases h
    · exact ⟨rfl, h⟩
  intro a
  induction a with
  | v n =>
    intro b h
    cases b with
    | v m => rw [Nat.eq_of_beq_eq_true h]
    | _ => cases h
  | ad x y ix iy =>
    intro b h
    cases b with
    | ad x' y' => obtain ⟨h1, h2⟩ := two h; rw [ix _ h1, iy _ h2]
    | _ => cases h
  | wm x y ix iy =>
    intro b h
    cases b with
    | wm x' y' => obtain ⟨h1, h2⟩ := two h; rw [ix _ h1, iy _ h2]
    | _ => cases h
  | sl x n ix =>
    intro b h
    cases b with
    | sl x' m => obtain ⟨h1, h2⟩ := two h; rw [ix _ h1, Nat.eq_of_beq_eq_true h2]
    | _ => cases h
  | ws x n ix =>
    intro b h
    cases b with
    | ws x' m => obtain ⟨h1, h2⟩ := two h; rw [ix _ h1, Nat.eq_of_beq_eq_true h2]
    | _ => cases h
  | sr x n ix =>
    intro b h
    cases b with
    | sr x' m => obtain ⟨h1, h2⟩ := two h; rw [ix _ h1, Nat.eq_of_beq_eq_true h2]
    | _ => cases h
theorem cells_some {v : V} {l : List V} (h : cells v = some l) : (v = .a l) ∨ (l = [v] ∧ v.one = true) := by
  cases v with
  | u => cases h
  | t l => cases h
  | a q => injection h with h; subst h; exact .inl rfl
  | _ => injection h with h; subst h; exact .inr ⟨rfl, rfl⟩

section
variable {φ : Phi} {p : Program}
theorem RV.cells {v : V} {x : Value} {l : List V} (h : RV φ v x) (hc : cells v = some l) : RVs φ l x.cells.toList := by
  rcases cells_some hc with rfl | ⟨rfl, h1⟩
  · cases h with | a _ xs h => exact h
  · have hx : x.cells = #[x] := by cases h <;> first | rfl | cases h1
    rw [hx]; exact .cons _ _ _ _ h .nil

/-- constants -/
theorem cV_rel : ∀ (n : Nat) {v : Value} {c : V}, cV n v = some c → RV φ c v
  | 0, v, c, h => by cases h
  | n + 1, v, c, h => by
    have lst : ∀ (xs : List Value) (l : List V), xs.mapM (cV n) = some l → RVs φ l xs := by
      intro xs
      induction xs with
      | nil => intro l h; simp at h; subst h; exact .nil
      | cons x xs ih =>
        intro l h
        rw [List.mapM_cons] at h
        simp only [bind, Option.bind_eq_some_iff, pure] at h
        obtain ⟨a, ha, r, hr, h⟩ := h
        injection h with h
        subst h
        exact .cons _ _ _ _ (cV_rel n ha) (ih _ hr)
    cases v with
    | bool b => simp [cV] at h; subst h; exact .b b
    | int k m => simp [cV] at h; subst h; exact .i k m
    | string s => simp only [cV, Option.some.injEq] at h; subst h; exact .s _ _ rfl
    | pointer a => cases a <;> simp [cV] at h; subst h; exact .pn
    | slice a l m =>
      cases a with
      | some _ => simp [cV] at h
      | none =>
        cases l with
        | zero => cases m with | zero => simp [cV] at h; subst h; exact .sn | succ m => simp [cV] at h
        | succ l => simp [cV] at h
    | map r => cases r <;> simp [cV] at h; subst h; exact .mn
    | nilFunc => simp [cV] at h; subst h; exact .fn
    | nilIface => simp [cV] at h; subst h; exact .wn
    | func f a c' =>
      cases f <;> simp [cV] at h
      obtain ⟨h1, h2, h3, h4⟩ := h
      subst h4
      rename_i f
      have := RV.f (φ := φ) (K.of f) [] [] a c' (by rw [h2]; exact .nil) (by rw [h3]; exact .nil)
      rwa [h1] at this
    | agg cs =>
      simp only [cV, Option.map_eq_some_iff] at h
      obtain ⟨l, hl, rfl⟩ := h
      exact .a _ _ (lst _ _ hl)
    | tuple vs =>
      simp [cV] at h
      obtain ⟨h1, rfl⟩ := h
      rw [h1]; exact .u
    | _ => simp [cV] at h
end
end Go.Rfx
