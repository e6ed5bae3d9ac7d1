/- What is proved here: every operation without memory that is compiled comes, in Go's own run, to a value that is related to the evaluator's. The condition is the relation of the operands. -/
import Derived.Test.YtbjcajjlpehfiaaGreatDoorRfxF
import Derived.Laws.Tables
set_option linter.unusedVariables false
set_option linter.unusedSectionVars false
set_option linter.unusedSimpArgs false
set_option linter.constructorNameAsVariable false
namespace Go.Rfx
open Go
variable [Sy]
section
variable {p : Program} {φ : Phi} {F : T V} {ρ : Operand → Value} {w : World} {o : Oper} {v : V}

theorem tZeroV_rel {t : TypeId} {z : V} (h : tZeroV p t = some z) : ∃ i zv, p.info? t = some i ∧ i.zero = some zv ∧ RV φ z zv := by
  simp only [tZeroV, bind, Option.bind_eq_some_iff] at h
  obtain ⟨i, hi, zv, hz, hc⟩ := h
  exact ⟨i, zv, hi, hz, cV_rel 8 hc⟩
theorem RV.flat {c : V} {x : Value} (h : RV φ c x) : RVs φ (flatV c) x.cells.toList := by
  cases h with
  | a l xs h => exact h
  | u => exact .cons _ _ _ _ .u .nil
  | b x => exact .cons _ _ _ _ (.b x) .nil
  | i k n => exact .cons _ _ _ _ (.i k n) .nil
  | s l s h => exact .cons _ _ _ _ (.s l s h) .nil
  | p i o ri h => exact .cons _ _ _ _ (.p i o ri h) .nil
  | pn => exact .cons _ _ _ _ .pn .nil
  | sl i o n c cap ri h hc => exact .cons _ _ _ _ (.sl i o n c cap ri h hc) .nil
  | sn => exact .cons _ _ _ _ .sn .nil
  | m i ri h => exact .cons _ _ _ _ (.m i ri h) .nil
  | mn => exact .cons _ _ _ _ .mn .nil
  | f f fs cs xs ys hx hy => exact .cons _ _ _ _ (.f f fs cs xs ys hx hy) .nil
  | fn => exact .cons _ _ _ _ .fn .nil
  | w t v x h => exact .cons _ _ _ _ (.w t v x h) .nil
  | wn => exact .cons _ _ _ _ .wn .nil
  | t l xs h => exact .cons _ _ _ _ (.t l xs h) .nil
  | y lo hi e h1 h2 => exact .cons _ _ _ _ (.y lo hi e h1 h2) .nil
theorem tZero_rel {t : TypeId} {z : List V} (h : tZero p t = some z) : ∃ i zv, p.info? t = some i ∧ i.zero = some zv ∧ RVs φ z zv.cells.toList ∧ z.length = i.size := by
  simp only [tZero, Option.bind_eq_some_iff] at h
  obtain ⟨i, hi, zv, hz, c, hc, h⟩ := h
  have hr := (cV_rel (φ := φ) 8 hc).flat
  by_cases hl : (flatV c).length = i.size
  · rw [if_pos hl] at h
    injection h with h
    subst h
    exact ⟨i, zv, hi, hz, hr, hl⟩
  · rw [if_neg hl] at h; cases h
theorem s_bd {t : TypeId} {fs : Array Field} {ps : Array (Nat × Operand)} {z : List V} {sz : List (Nat × Nat)} {qs : List (Nat × Nat × A)} (h : OpR p φ F ρ) (ho : o.op = .build t ps) (ht : p.underlying t = some (.struct fs))
    (hz : tZero p t = some z) (hsz : (fs.toList.mapM fun f => (tSize p f.type).map fun n => (f.offset, n)) = some sz) (hq : parts p (fun i => sz[i]?) ps.toList = some qs) (hv : pBd F z qs = some v) : Does p φ ρ o w v := by
  obtain ⟨l, hl, v1⟩ := ob_eq.1 hv
  injection v1 with v1
  subst v1
  obtain ⟨i, zv, hi, hzv, hzr, _⟩ := tZero_rel (φ := φ) hz
  obtain ⟨xs, hxs, hrel⟩ := parts_rel h (fun i => sz[i]?) hq hzr hl
  refine ⟨.agg xs, ?_, .a _ _ hrel⟩
  have hsz' : (fs.toList.mapM fun f => (p.info? f.type).map fun i => (f.offset, i.size)) = some sz := by
    rw [← hsz]
    congr 1
    funext f
    simp [tSize, Option.map_map, Function.comp_def]
  have hb : p.built t (ps.map fun (i, x) => (i, ρ x)).toList = some xs := by
    unfold Program.built
    simp only [hi, ht, hzv, hsz']
    have e : (fun x : Nat => sz.toArray[x]?) = fun i => sz[i]? := by funext i; simp
    rw [e, Array.toList_map]
    exact hxs
  simp [execOp, ho, run_build w t _ xs hb]

/-! ### structs told apart -/
theorem eqKinds_rel (d : Nat) : ∀ (fs : List Field) (i : Nat) (ks : List KK) (la lb : List V) (xs ys : Array Value) (q : Bool), eqKinds p i fs = some ks → RVs φ la (xs.toList.drop i) → RVs φ lb (ys.toList.drop i) → eqVs ks la lb = some q →
    (Op.eqFields (d + 1) xs ys fs).run p w = .ok q w
  | [], i, ks, la, lb, xs, ys, q, hk, ha, hb, hq => by
    injection hk with hk; subst hk
    cases la with
    | cons _ _ => cases hq
    | nil =>
      cases lb with
      | cons _ _ => cases hq
      | nil => injection hq with hq; subst hq; rfl
  | f :: fs, i, ks, la, lb, xs, ys, q, hk, ha, hb, hq => by
    simp only [eqKinds, Option.bind_eq_some_iff] at hk
    obtain ⟨k, hk1, hk2⟩ := hk
    by_cases hbad : f.name = "_" ∨ f.offset ≠ i
    · rw [if_pos hbad] at hk2; cases hk2
    rw [if_neg hbad] at hk2
    have hname : f.name ≠ "_" := fun e => hbad (.inl e)
    have hoff : f.offset = i := Decidable.byContradiction fun e => hbad (.inr e)
    simp only [Option.map_eq_some_iff] at hk2
    obtain ⟨r, hr, hk3⟩ := hk2
    subst hk3
    cases la with
    | nil => cases hq
    | cons x la =>
      cases lb with
      | nil => cases hq
      | cons y lb =>
        obtain ⟨e, he, hq1⟩ := ob_eq.1 (show ob (eqV k x y) _ = some q from hq)
        obtain ⟨x', hx', hrx⟩ := ha.get 0 x rfl
        obtain ⟨y', hy', hry⟩ := hb.get 0 y rfl
        have gx : xs[f.offset]? = some x' := by rw [hoff, ← Array.getElem?_toList]; simpa using hx'
        have gy : ys[f.offset]? = some y' := by rw [hoff, ← Array.getElem?_toList]; simpa using hy'
        have da : RVs φ la (xs.toList.drop (i + 1)) := by have := ha.drop 1; simpa [List.drop_drop, Nat.add_comm] using this
        have db : RVs φ lb (ys.toList.drop (i + 1)) := by have := hb.drop 1; simpa [List.drop_drop, Nat.add_comm] using this
        have hpart : ∀ (zs : Array Value) (z : Value), zs[f.offset]? = some z → (part f.type zs f.offset).run p w = .ok z w ∧ True := by
          intro zs z hz
          refine ⟨?_, trivial⟩
          have hag : (isAgg f.type).run p w = .ok false w := by
            revert hk1
            unfold fKind
            cases hd : p.underlying f.type with
            | none => intro hk1; cases hk1
            | some dd => intro hk1; simp only [isAgg, Sem.run_bind, run_underlying hd, Result.andThen_ok]; cases dd <;> first | rfl | cases hk1
          simp [part, hag, hz]
        have heq : (Op.equalIn (d + 1) f.type x' y').run p w = .ok e w := by
          revert hk1
          unfold fKind
          cases hd : p.underlying f.type with
          | none => intro hk1; cases hk1
          | some dd =>
            cases dd with
            | int kk =>
              intro hk1
              injection hk1 with hk1
              subst hk1
              rcases yK_some (show V.yK x _ _ = some e from he) with he | ⟨lo, hi, ea, rfl, he⟩
              · obtain ⟨k1, a, rfl, h1⟩ := iK_some he
                obtain ⟨k2, b, rfl, h2⟩ := iK_some h1
                obtain ⟨h3, h4⟩ := bcT h2
                rw [eqK_eq, decide_eq_true_iff] at h3
                subst h3
                injection h4 with h4
                cases hrx; cases hry
                rw [run_equalIn_int w d _ k1 kk a b hd, ← h4, ieq_eq]
                rfl
              · rcases yK_some (show V.yK y _ _ = some e from he) with he | ⟨lo', hi', eb, rfl, he⟩
                · cases he
                · obtain ⟨h3, h4⟩ := bcT he
                  obtain rfl := Ex.eq_eq _ _ h3
                  injection h4 with h4
                  cases hrx; cases hry
                  rw [run_equalIn_int w d _ .i64 kk _ _ hd, ← h4]
                  simp
            | string =>
              intro hk1
              injection hk1 with hk1
              subst hk1
              obtain ⟨a, rfl, h1⟩ := sK_some he
              obtain ⟨b, rfl, h2⟩ := sK_some h1
              injection h2 with h2
              cases hrx with | s _ sx hsx => cases hry with | s _ sy hsy =>
              rw [run_equalIn_string w d _ sx sy hd, ← h2, eqL_eq, ← hsx, ← hsy, str_beq]
            | bool =>
              intro hk1
              injection hk1 with hk1
              subst hk1
              obtain ⟨a, rfl, h1⟩ := bK_some he
              obtain ⟨b, rfl, h2⟩ := bK_some h1
              injection h2 with h2
              cases hrx; cases hry
              rw [run_equalIn_bool' w d _ a b hd, ← h2]
              cases a <;> cases b <;> rfl
            | _ => intro hk1; cases hk1
        simp only [Op.eqFields, if_pos (show f.name ≠ "_" from hname), Sem.run_bind, (hpart xs x' gx).1, (hpart ys y' gy).1, Result.andThen_ok, heq, Sem.run_ite]
        cases e with
        | false =>
          injection (show some false = some q from hq1) with hq2
          subst hq2
          simp
        | true =>
          simp only [Bool.not_true, Bool.false_eq_true, if_false]
          exact eqKinds_rel d fs (i + 1) r la lb xs ys q hr da db hq1
theorem s_be {ne : Bool} {op : BinOp} {t t' : TypeId} {fs : Array Field} {ks : List KK} {x y : Operand} {a b : A} (h : OpR p φ F ρ) (ho : o.op = .binOp op t x y t') (ht : p.underlying t = some (.struct fs)) (hg : p.eqGuardType p.depth t = false) (hs : p.stoodInHeld t = false)
    (hk : eqKinds p 0 fs.toList = some ks) (hop : (op = .eql ∧ ne = false) ∨ (op = .neq ∧ ne = true)) (ha : cA p x = some a) (hb : cA p y = some b) (hv : pBe F ne ks a b = some v) : Does p φ ρ o w v := by
  obtain ⟨q, hx, v1⟩ := h.take ha hv
  obtain ⟨la, rfl, v2⟩ := aK_some v1
  obtain ⟨r, hy, v3⟩ := h.take hb v2
  obtain ⟨lb, rfl, v4⟩ := aK_some v3
  obtain ⟨e, he, v5⟩ := ob_eq.1 v4
  rw [vB_eq, Option.some.injEq] at v5
  subst v5
  generalize hρ : ρ x = r1 at hx
  generalize hρ' : ρ y = r2 at hy
  cases hx with | a _ xs hxs => cases hy with | a _ ys hys =>
  have hf : p.fieldsOf t = fs := by simp [Program.fieldsOf, ht]
  have heq : (Op.equalIn 10000 t (.agg xs) (.agg ys)).run p w = .ok e w := by
    rw [run_equalIn_struct w 9999 t xs ys (by rw [hf]; exact ht) hs, hf]
    exact eqKinds_rel 9998 fs.toList 0 ks la lb xs ys e hk hxs hys he
  refine ⟨_, ho_bin ho (.bool (xorB ne e)) ?_ ?_, .b _⟩
  · rw [hρ, hρ']; exact run_eqGuard_agg w op t x y xs ys hg
  · rw [hρ, hρ']
    rcases hop with ⟨rfl, rfl⟩ | ⟨rfl, rfl⟩
    · rw [run_eql_struct, heq]; cases e <;> rfl
    · rw [run_neq_struct, heq]; cases e <;> rfl
end
end Go.Rfx
