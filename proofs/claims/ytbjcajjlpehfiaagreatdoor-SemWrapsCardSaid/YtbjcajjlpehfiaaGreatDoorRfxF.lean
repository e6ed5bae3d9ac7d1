/- What is proved here: the other operations without memory, as in the text before. The condition is the relation of the operands. -/
import Derived.Test.YtbjcajjlpehfiaaGreatDoorRfxE
set_option linter.unusedVariables false
set_option linter.unusedSectionVars false
set_option linter.unusedSimpArgs false
set_option linter.constructorNameAsVariable false
namespace Go.Rfx
open Go
variable [Sy]
section
variable {p : Program} {φ : Phi} {F : T V} {ρ : Operand → Value} {w : World} {o : Oper} {v : V}

theorem s_ng {t : TypeId} {x : Operand} {a : A} (h : OpR p φ F ρ) (ho : o.op = .unOp .neg t x) (ha : cA p x = some a) (hv : pNg F a = some v) : Does p φ ρ o w v := by
  obtain ⟨q, hx, v1⟩ := h.take ha hv
  obtain ⟨k, m, rfl, v2⟩ := iK_some v1
  generalize hρ : ρ x = r at hx
  cases hx
  rw [vI_eq, Option.some.injEq] at v2
  subst v2
  exact ⟨.int k (k.wrap (ineg m)), by simp [execOp, ho, hρ, Op.unary, Op.intArith, ineg_eq], .i _ _⟩
theorem s_no {t : TypeId} {x : Operand} {a : A} (h : OpR p φ F ρ) (ho : o.op = .unOp .not t x) (ha : cA p x = some a) (hv : pNo F a = some v) : Does p φ ρ o w v := by
  obtain ⟨q, hx, v1⟩ := h.take ha hv
  obtain ⟨m, rfl, v2⟩ := bK_some v1
  generalize hρ : ρ x = r at hx
  cases hx
  rw [vB_eq, Option.some.injEq] at v2
  subst v2
  exact ⟨.bool (!m), by simp [execOp, ho, hρ, Op.unary], .b _⟩
theorem s_xo {t : TypeId} {x : Operand} {a : A} (h : OpR p φ F ρ) (ho : o.op = .unOp .xor t x) (ha : cA p x = some a) (hv : pXo F a = some v) : Does p φ ρ o w v := by
  obtain ⟨q, hx, v1⟩ := h.take ha hv
  obtain ⟨k, m, rfl, v2⟩ := iK_some v1
  generalize hρ : ρ x = r at hx
  cases hx
  rw [vI_eq, Option.some.injEq] at v2
  subst v2
  exact ⟨_, by simp only [execOp, ho, hρ, Op.unary, Op.intBits]; rfl, .i _ _⟩
theorem s_cv {s d : TypeId} {k : IntKind} {j : IntKind} {x : Operand} {a : A} (h : OpR p φ F ρ) (ho : o.op = .convert s d x) (hs : p.underlying s = some (.int j)) (hd : p.underlying d = some (.int k)) (ha : cA p x = some a) (hv : pCv F k a = some v) : Does p φ ρ o w v := by
  obtain ⟨q, hx, v1⟩ := h.take ha hv
  obtain ⟨k, m, rfl, v2⟩ := iK_some v1
  generalize hρ : ρ x = r at hx
  cases hx
  rw [vI_eq, Option.some.injEq] at v2
  subst v2
  exact ⟨_, by simp [execOp, ho, hρ, convert, run_underlying hs, run_underlying hd, Conv.intToInt], .i _ _⟩
theorem s_cs {s d : TypeId} {x : Operand} {a : A} (h : OpR p φ F ρ) (ho : o.op = .convert s d x) (hs : p.underlying s = some .string) (hd : p.underlying d = some .string) (ha : cA p x = some a) (hv : pCs F a = some v) : Does p φ ρ o w v := by
  obtain ⟨q, hx, v1⟩ := h.take ha hv
  obtain ⟨m, rfl, v2⟩ := sK_some v1
  rw [Option.some.injEq] at v2
  subst v2
  refine ⟨ρ x, ?_, hx⟩
  generalize hρ : ρ x = r at hx
  cases hx
  simp [execOp, ho, hρ, convert, run_underlying hs, run_underlying hd]
theorem s_wi {t : TypeId} {d : TypeDesc} {x : Operand} {a : A} (h : OpR p φ F ρ) (ho : o.op = .makeInterface t x) (hd : p.underlying t = some d) (hn : ∀ m, d ≠ .interface m) (ha : cA p x = some a) (hv : pWi F t a = some v) : Does p φ ρ o w v := by
  obtain ⟨q, hx, v1⟩ := h.take ha hv
  rw [Option.some.injEq] at v1
  subst v1
  refine ⟨.iface t (ρ x), ?_, .w _ _ _ hx⟩
  cases d <;> first | exact absurd rfl (hn _) | simp [execOp, ho, Instr.makeInterface, run_underlying hd]
theorem s_mf {f : FuncId} {k : K} {xs ys : Array Operand} {as bs : List A} (h : OpR p φ F ρ) (ho : o.op = .makeFunc (.func f) xs ys) (hk : k.num = f) (ha : cAs p xs = some as) (hb : cAs p ys = some bs) (hv : pMf F k as bs = some v) : Does p φ ρ o w v := by
  obtain ⟨q, hq, v1⟩ := ob_eq.1 hv
  obtain ⟨r, hr, v2⟩ := ob_eq.1 v1
  rw [Option.some.injEq] at v2
  subst v2
  refine ⟨.func (.func f) (xs.map ρ) (ys.map ρ), by simp [execOp, ho, Instr.makeFunc], ?_⟩
  rw [← hk]
  exact .f _ _ _ _ _ (h.arr ha hq) (h.arr hb hr)

/-! ### addresses, fields, elements -/
theorem s_fa {t : TypeId} {i : Nat} {fs : Array Field} {f : Field} {j : TypeInfo} {x : Operand} {a : A} (h : OpR p φ F ρ) (ho : o.op = .fieldAddr t x i) (ht : p.underlying t = some (.struct fs)) (hf : fs[i]? = some f)
    (hj : p.info? f.type = some j) (h0 : j.size ≠ 0) (ha : cA p x = some a) (hv : pFa F f.offset a = some v) : Does p φ ρ o w v := by
  obtain ⟨q, hx, v1⟩ := h.take ha hv
  obtain ⟨k, m, rfl, v2⟩ := pK_some v1
  generalize hρ : ρ x = r at hx
  cases hx with | p _ _ ri hri =>
  rw [nF_eq, Option.some.injEq] at v2
  subst v2
  refine ⟨.pointer (some ⟨ri.b, m + f.offset, none⟩), ?_, .p _ _ _ hri⟩
  simp [execOp, ho, hρ, Instr.fieldAt, run_underlying ht, hf, Instr.sureAddr, fieldPlace, sizeOf, typeInfo, hj, h0, Addr.add_lit]
theorem tAgg_run {t : TypeId} {g : Bool} (h : tAgg p t = some g) : (isAgg t).run p w = .ok g w := by
  simp only [tAgg, Option.map_eq_some_iff] at h
  obtain ⟨d, hd, rfl⟩ := h
  simp only [isAgg, Sem.run_bind, run_underlying hd, Result.andThen_ok]
  cases d <;> rfl
theorem tSize_run {t : TypeId} {n : Nat} (h : tSize p t = some n) : (sizeOf t).run p w = .ok n w := by
  simp only [tSize, Option.map_eq_some_iff] at h
  obtain ⟨i, hi, rfl⟩ := h
  simp [sizeOf, typeInfo, hi]
/-- a part of an aggregate -/
theorem part_rel {t : TypeId} {ag : Bool} {n off : Nat} {l : List V} {xs : Array Value} (hg : tAgg p t = some ag) (hn : tSize p t = some n) (hl : RVs φ l xs.toList)
    (hv : (Bool.casesOn ag (nth l off) (ob (takeL (dropL l off) n) fun r => some (.a r)) : Option V) = some v) : ∃ x, (part t xs off).run p w = .ok x w ∧ RV φ v x := by
  cases ag with
  | false =>
    have hv' : l[off]? = some v := by rw [← nth_eq]; exact hv
    obtain ⟨x, hx, hr⟩ := hl.get off v hv'
    rw [Array.getElem?_toList] at hx
    exact ⟨x, by simp [part, tAgg_run hg, hx], hr⟩
  | true =>
    obtain ⟨r, hr, v1⟩ := ob_eq.1 (show ob (takeL (dropL l off) n) _ = some v from hv)
    obtain ⟨h1, rfl⟩ := takeL_some.1 hr
    rw [Option.some.injEq] at v1
    subst v1
    refine ⟨.agg (xs.extract off (off + n)), by simp [part, tAgg_run hg, tSize_run hn], .a _ _ ?_⟩
    rw [dropL_eq]
    have : (xs.extract off (off + n)).toList = (xs.toList.drop off).take n := by simp
    rw [this]
    exact (hl.drop off).take n
theorem s_fd {t : TypeId} {i : Nat} {fs : Array Field} {f : Field} {ag : Bool} {n : Nat} {x : Operand} {a : A} (h : OpR p φ F ρ) (ho : o.op = .field t x i) (ht : p.underlying t = some (.struct fs)) (hf : fs[i]? = some f)
    (hn : tSize p f.type = some n) (hg : tAgg p f.type = some ag) (ha : cA p x = some a) (hv : pFd F ag n f.offset a = some v) : Does p φ ρ o w v := by
  obtain ⟨q, hx, v1⟩ := h.take ha hv
  obtain ⟨l, rfl, v2⟩ := aK_some v1
  generalize hρ : ρ x = r at hx
  cases hx with | a _ xs hl =>
  obtain ⟨z, hz, hr⟩ := part_rel (w := w) hg hn hl v2
  exact ⟨z, by simp [execOp, ho, hρ, Instr.field, run_underlying ht, hf, asAgg, hz], hr⟩
theorem pos_of (j : Nat) : (0 : Int) ≤ Int.ofNat j ∧ (Int.ofNat j).toNat = j := ⟨Int.natCast_nonneg j, rfl⟩
theorem s_ia {t e : TypeId} {n : Nat} {x i : Operand} {a b : A} (h : OpR p φ F ρ) (ho : o.op = .indexAddr t x i) (ht : p.underlying t = some (.slice e)) (hn : tSize p e = some n) (ha : cA p x = some a) (hb : cA p i = some b)
    (hv : pIa F n a b = some v) : Does p φ ρ o w v := by
  obtain ⟨q, hx, v1⟩ := h.take ha hv
  obtain ⟨r, hy, v2⟩ := h.take hb v1
  obtain ⟨k, m, rfl, v3⟩ := iK_some v2
  cases m with
  | negSucc m => cases v3
  | ofNat m =>
    rcases slK_some v3 with ⟨_, hh⟩ | ⟨i', o', n', c, rfl, v4⟩
    · cases hh
    · obtain ⟨hlt, v5⟩ := bcT v4
      rw [nF_eq, Option.some.injEq] at v5
      subst v5
      generalize hρ : ρ x = r1 at hx
      generalize hρ' : ρ i = r2 at hy
      cases hy
      cases hx with | sl _ _ _ _ cap ri hri hc =>
      have hlt' : m < n' := (blt_iff _ _).1 hlt
      refine ⟨.pointer (some ⟨ri.b, o' + m * n, none⟩), ?_, .p _ _ _ hri⟩
      have hc1 : (0 : Int) ≤ Int.ofNat m ∧ Int.ofNat m < (n' : Int) := ⟨Int.natCast_nonneg m, Int.ofNat_lt.2 hlt'⟩
      simp only [execOp, ho, hρ, hρ', Instr.indexAt, asIntOf, Sem.run_bind, Sem.run_pure, Result.andThen_ok, run_underlying ht, Sem.run_ite, if_pos hc1, tSize_run hn, Addr.add_lit]
      rfl
theorem s_iaa {t e : TypeId} {len n : Nat} {x i : Operand} {a b : A} (h : OpR p φ F ρ) (ho : o.op = .indexAddr t x i) (ht : p.underlying t = some (.array len e)) (hn : tSize p e = some n) (ha : cA p x = some a) (hb : cA p i = some b)
    (hv : pIaa F len n a b = some v) : Does p φ ρ o w v := by
  obtain ⟨q, hx, v1⟩ := h.take ha hv
  obtain ⟨r, hy, v2⟩ := h.take hb v1
  obtain ⟨k, m, rfl, v3⟩ := iK_some v2
  cases m with
  | negSucc m => cases v3
  | ofNat m =>
    obtain ⟨i', o', rfl, v4⟩ := pK_some v3
    obtain ⟨hlt, v5⟩ := bcT v4
    rw [nF_eq, Option.some.injEq] at v5
    subst v5
    generalize hρ : ρ x = r1 at hx
    generalize hρ' : ρ i = r2 at hy
    cases hy
    cases hx with | p _ _ ri hri =>
    have hlt' : m < len := (blt_iff _ _).1 hlt
    refine ⟨.pointer (some ⟨ri.b, o' + m * n, none⟩), ?_, .p _ _ _ hri⟩
    have hc1 : (0 : Int) ≤ Int.ofNat m ∧ Int.ofNat m < (len : Int) := ⟨Int.natCast_nonneg m, Int.ofNat_lt.2 hlt'⟩
    simp only [execOp, ho, hρ, hρ', Instr.indexAt, asIntOf, Instr.sureAddr, Sem.run_bind, Sem.run_pure, Result.andThen_ok, run_underlying ht, Sem.run_ite, if_pos hc1, tSize_run hn, Addr.add_lit]
    rfl
theorem s_ix {t : TypeId} {x i : Operand} {a b : A} (h : OpR p φ F ρ) (ho : o.op = .index t x i) (ht : p.underlying t = some .string) (ha : cA p x = some a) (hb : cA p i = some b)
    (hv : pIx F a b = some v) : Does p φ ρ o w v := by
  obtain ⟨q, hx, v1⟩ := h.take ha hv
  obtain ⟨l, rfl, v2⟩ := sK_some v1
  obtain ⟨r, hy, v3⟩ := h.take hb v2
  obtain ⟨k, m, rfl, v4⟩ := iK_some v3
  cases m with
  | negSucc m => cases v4
  | ofNat m =>
    obtain ⟨c, hc, v5⟩ := ob_eq.1 (show ob (nth l m) _ = some v from v4)
    rw [Option.some.injEq] at v5
    subst v5
    rw [nth_eq] at hc
    generalize hρ : ρ x = r1 at hx
    generalize hρ' : ρ i = r2 at hy
    cases hy
    cases hx with | s _ s hs =>
    subst hs
    rw [List.getElem?_map, Option.map_eq_some_iff] at hc
    obtain ⟨u, hu, rfl⟩ := hc
    rw [Array.getElem?_toList] at hu
    have hu' : s[m]? = some u := by
      have hlt : m < s.data.size := (Array.getElem?_eq_some_iff.1 hu).1
      have hlt' : m < s.size := hlt
      rw [getElem?_pos s m hlt']
      have := (Array.getElem?_eq_some_iff.1 hu).2
      exact congrArg some this
    have hc1 : (0 : Int) ≤ Int.ofNat m := Int.natCast_nonneg m
    refine ⟨.int .u8 u.toNat, ?_, .i _ _⟩
    simp only [execOp, ho, hρ, hρ', Instr.index, asIntOf, Sem.run_bind, Sem.run_pure, Result.andThen_ok, run_underlying ht, if_pos hc1]
    have e : (Int.ofNat m).toNat = m := rfl
    rw [e, hu']
    rfl
theorem s_ex {n : Nat} {x : Operand} {a : A} (h : OpR p φ F ρ) (ho : o.op = .extract x n) (ha : cA p x = some a) (hv : pEx F n a = some v) : Does p φ ρ o w v := by
  obtain ⟨q, hx, v1⟩ := h.take ha hv
  obtain ⟨l, rfl, v2⟩ := tK_some v1
  rw [nth_eq] at v2
  generalize hρ : ρ x = r at hx
  cases hx with | t _ xs hl =>
  obtain ⟨y, hy, hr⟩ := hl.get n v v2
  rw [Array.getElem?_toList] at hy
  exact ⟨y, by simp [execOp, ho, hρ, Instr.extract, hy], hr⟩
theorem s_ln {c : Call} {t e : TypeId} {ts : List TypeId} {x : Operand} {xs : List Operand} {a : A} (h : OpR p φ F ρ) (ho : o.op = .call c) (hc : c.callee = .builtin .len) (hts : c.argTypes.toList = t :: ts) (hxs : c.args.toList = x :: xs)
    (ht : p.underlying t = some (.slice e)) (ha : cA p x = some a) (hv : pLn F a = some v) : Does p φ ρ o w v := by
  obtain ⟨q, hx, v1⟩ := h.take ha hv
  have g1 : c.argTypes[0]? = some t := by rw [← Array.getElem?_toList, hts]; rfl
  have g2 : (c.args.map ρ)[0]? = some (ρ x) := by rw [← Array.getElem?_toList]; simp [hxs]
  rcases slK_some v1 with ⟨rfl, v2⟩ | ⟨i, o', n, cc, rfl, v2⟩
  · rw [Option.some.injEq] at v2
    subst v2
    generalize hρ : ρ x = r at hx g2
    cases hx
    exact ⟨.int .i64 0, by simp [execOp, ho, resolve, hc, invoke, builtin, Builtin.len_, g1, g2, run_underlying ht, goInt], .i _ _⟩
  · rw [Option.some.injEq] at v2
    subst v2
    generalize hρ : ρ x = r at hx g2
    cases hx
    exact ⟨.int .i64 n, by simp [execOp, ho, resolve, hc, invoke, builtin, Builtin.len_, g1, g2, run_underlying ht, goInt], .i _ _⟩
theorem s_ls {c : Call} {t : TypeId} {ts : List TypeId} {x : Operand} {xs : List Operand} {a : A} (h : OpR p φ F ρ) (ho : o.op = .call c) (hc : c.callee = .builtin .len) (hts : c.argTypes.toList = t :: ts) (hxs : c.args.toList = x :: xs)
    (ht : p.underlying t = some .string) (ha : cA p x = some a) (hv : pLs F a = some v) : Does p φ ρ o w v := by
  obtain ⟨q, hx, v1⟩ := h.take ha hv
  obtain ⟨l, rfl, v2⟩ := sK_some v1
  have g1 : c.argTypes[0]? = some t := by rw [← Array.getElem?_toList, hts]; rfl
  have g2 : (c.args.map ρ)[0]? = some (ρ x) := by rw [← Array.getElem?_toList]; simp [hxs]
  rw [nF_eq, Option.some.injEq] at v2
  subst v2
  generalize hρ : ρ x = r at hx g2
  cases hx with | s _ s hs =>
  subst hs
  refine ⟨.int .i64 s.size, by simp [execOp, ho, resolve, hc, invoke, builtin, Builtin.len_, g1, g2, run_underlying ht, goInt], ?_⟩
  have : (Int.ofNat (lenL (s.data.toList.map UInt8.toNat))) = (s.size : Int) := by rw [lenL_eq, List.length_map]; rfl
  rw [this]; exact .i _ _
theorem s_mm {mx : Bool} {c : Call} {x y : Operand} {a b : A} (h : OpR p φ F ρ) (ho : o.op = .call c) (hc : c.callee = .builtin (if mx then .max else .min)) (hxs : c.args.toList = [x, y])
    (ha : cA p x = some a) (hb : cA p y = some b) (hv : pMm F mx a b = some v) : Does p φ ρ o w v := by
  obtain ⟨q, hx, v1⟩ := h.take ha hv
  obtain ⟨k, m, rfl, v2⟩ := iK_some v1
  obtain ⟨r, hy, v3⟩ := h.take hb v2
  obtain ⟨k', n, rfl, v4⟩ := iK_some v3
  have g : c.args.map ρ = #[ρ x, ρ y] := by apply Array.toList_inj.1; simp [hxs]
  clear hv v1 v2 v3
  generalize hρ : ρ x = r1 at hx g
  generalize hρ' : ρ y = r2 at hy g
  cases hx; cases hy
  cases mx with
  | true =>
    refine ⟨.int k (if n > m then n else m), ?_, ?_⟩
    · simp [execOp, ho, resolve, hc, invoke, builtin, g, run_max_int2]
    · rcases bc (show (Bool.casesOn (ilt m n) (some (.i k m)) (some (.i k n)) : Option V) = some v from v4) with ⟨h1, h2⟩ | ⟨h1, h2⟩
      · rw [ilt_eq, decide_eq_false_iff_not] at h1
        injection h2 with h2
        subst h2
        rw [if_neg (fun h => h1 h)]; exact .i _ _
      · rw [ilt_eq, decide_eq_true_iff] at h1
        injection h2 with h2
        subst h2
        rw [if_pos h1]; exact .i _ _
  | false =>
    refine ⟨.int k (if n < m then n else m), ?_, ?_⟩
    · simp [execOp, ho, resolve, hc, invoke, builtin, g, run_min_int2]
    · rcases bc (show (Bool.casesOn (ilt n m) (some (.i k m)) (some (.i k n)) : Option V) = some v from v4) with ⟨h1, h2⟩ | ⟨h1, h2⟩
      · rw [ilt_eq, decide_eq_false_iff_not] at h1
        injection h2 with h2
        subst h2
        rw [if_neg h1]; exact .i _ _
      · rw [ilt_eq, decide_eq_true_iff] at h1
        injection h2 with h2
        subst h2
        rw [if_pos h1]; exact .i _ _
theorem s_nc {x : Operand} {a : A} (h : OpR p φ F ρ) (ho : o.op = .nilCheck x) (ha : cA p x = some a) (hv : pNc F a = some v) : Does p φ ρ o w v := by
  obtain ⟨q, hx, v1⟩ := h.take ha hv
  generalize hρ : ρ x = r at hx
  have key : v = q ∧ ((∃ b, r = .pointer (some b)) ∨ ∃ f xs ys, r = .func (.func f) xs ys) := by
    cases hx with
    | p i o' ri hri => injection v1 with v1; exact ⟨v1.symm, .inl ⟨_, rfl⟩⟩
    | f f fs cs xs ys h1 h2 => injection v1 with v1; exact ⟨v1.symm, .inr ⟨_, _, _, rfl⟩⟩
    | _ => cases v1
  obtain ⟨rfl, hk⟩ := key
  refine ⟨r, ?_, hx⟩
  rcases hk with ⟨b, hb⟩ | ⟨f, xs, ys, hb⟩
  · simp [execOp, ho, hρ, hb]
  · simp [execOp, ho, hρ, hb]

/-! ### slices -/
theorem bnd_some {u : V} {lo hi n : Nat} (h : bnd u lo hi = some n) : ∃ k, u = .i k (n : Int) ∧ lo ≤ n ∧ n ≤ hi := by
  obtain ⟨k, m, rfl, h⟩ := iK_some h
  cases m with
  | negSucc m => cases h
  | ofNat m =>
    obtain ⟨h1, h2⟩ := bcT (show (Bool.casesOn (Nat.ble lo m) none _ : Option Nat) = some n from h)
    obtain ⟨h3, h4⟩ := bcT h2
    injection h4 with h4
    subst h4
    exact ⟨k, rfl, by simpa using h1, by simpa using h3⟩
theorem run_bnd {k : IntKind} {n y : Nat} {code : BoundsCode} (h : n ≤ y) : (Instr.sliceBound (.int k (n : Int)) y code).run p w = .ok n w := by
  have hc : (0 : Int) ≤ (n : Int) ∧ (n : Int) ≤ (y : Int) := ⟨Int.natCast_nonneg n, Int.ofNat_le.2 h⟩
  simp only [Instr.sliceBound, asIntOf, Sem.run_bind, Sem.run_pure, Result.andThen_ok, Sem.run_ite, if_pos hc]
  rfl
/-- an operand that may lack, as a bound -/
theorem bndO_some {r : Option V} {d lo hi n : Nat} (h : bndO r d lo hi = some n) : (r = none ∧ n = d) ∨ ∃ k, r = some (.i k (n : Int)) ∧ lo ≤ n ∧ n ≤ hi := by
  cases r with
  | none => injection h with h; exact .inl ⟨rfl, h.symm⟩
  | some u =>
    obtain ⟨k, rfl, h1, h2⟩ := bnd_some (show bnd u lo hi = some n from h)
    exact .inr ⟨k, rfl, h1, h2⟩
theorem s_ss {t : TypeId} {x : Operand} {lo hi : Option Operand} {a : A} {b c : Option A} (h : OpR p φ F ρ) (ho : o.op = .slice t x lo hi none) (ht : p.underlying t = some .string) (ha : cA p x = some a) (hb : cAo p lo = some b) (hc : cAo p hi = some c)
    (hv : pSs F a b c = some v) : Does p φ ρ o w v := by
  obtain ⟨q, hx, v1⟩ := h.take ha hv
  obtain ⟨l, rfl, v2⟩ := sK_some v1
  obtain ⟨rl, hl, v3⟩ := ob_eq.1 v2
  obtain ⟨rh, hh, v4⟩ := ob_eq.1 v3
  obtain ⟨n, hn, v5⟩ := ob_eq.1 v4
  obtain ⟨m, hm, v6⟩ := ob_eq.1 v5
  obtain ⟨s', hs', v7⟩ := ob_eq.1 v6
  obtain ⟨h1, rfl⟩ := takeL_some.1 hs'
  injection v7 with v7
  subst v7
  generalize hρ : ρ x = r at hx
  cases hx with | s _ s hs =>
  subst hs
  have hsz : lenL (s.data.toList.map UInt8.toNat) = s.size := by rw [lenL_eq, List.length_map]; rfl
  rw [hsz] at hn
  have e1 := h.opt hb hl
  have e2 := h.opt hc hh
  -- the bounds
  have bh : n ≤ s.size ∧ ∀ W : World, (match hi.map ρ with | some v => Instr.sliceBound v s.size .sliceAlen | none => pure s.size : Sem Nat).run p W = .ok n W := by
    rcases e2 with ⟨rfl, rfl⟩ | ⟨y, u, rfl, rfl, hr⟩
    · rcases bndO_some hn with ⟨_, rfl⟩ | ⟨k, hk, _⟩
      · exact ⟨Nat.le_refl _, fun W => rfl⟩
      · cases hk
    · rcases bndO_some hn with ⟨hk, _⟩ | ⟨k, hk, _, hle⟩
      · cases hk
      · injection hk with hk
        subst hk
        generalize hρ' : ρ y = r2 at hr
        cases hr
        exact ⟨hle, fun W => by simp only [Option.map_some, hρ']; exact run_bnd hle⟩
  have bl : m ≤ n ∧ ∀ W : World, (match lo.map ρ with | some v => Instr.sliceBound v n .sliceB | none => pure 0 : Sem Nat).run p W = .ok m W := by
    rcases e1 with ⟨rfl, rfl⟩ | ⟨y, u, rfl, rfl, hr⟩
    · rcases bndO_some hm with ⟨_, rfl⟩ | ⟨k, hk, _⟩
      · exact ⟨Nat.zero_le _, fun W => rfl⟩
      · cases hk
    · rcases bndO_some hm with ⟨hk, _⟩ | ⟨k, hk, _, hle⟩
      · cases hk
      · injection hk with hk
        subst hk
        generalize hρ' : ρ y = r2 at hr
        cases hr
        exact ⟨hle, fun W => by simp only [Option.map_some, hρ']; exact run_bnd hle⟩
  refine ⟨.string (s.extract m n), ?_, .s _ _ ?_⟩
  · have hb2 : ∀ W : World, (Instr.sliceBounds false s.size s.size (lo.map ρ) (hi.map ρ) none).run p W = .ok (m, n, s.size) W := by
      intro W
      simp only [Instr.sliceBounds, Sem.run_bind, Sem.run_pure, Result.andThen_ok]
      have := bh.2 W
      have h2 := bl.2 W
      cases hh : hi.map ρ <;> cases hl : lo.map ρ <;> simp only [hh, hl] at this h2 ⊢ <;> simp_all
    simp only [execOp, ho, hρ, Instr.sliceAt, Instr.slice, Option.map_none, Sem.run_bind, run_underlying ht, Result.andThen_ok, Option.isSome_none, Bool.false_eq_true, if_false, hb2, Sem.run_pure]
  · rw [dropL_eq]
    have : (s.extract m n).data.toList = (s.data.toList.drop m).take (n - m) := by simp [ByteArray.data_extract]
    rw [this, ← List.map_drop, ← List.map_take]
    rfl

/-- the three bounds of a slice, in Go's own run -/
theorem run_bounds {len cap l n m : Nat} {lo hi mx : Option Operand} {rl rh rm : Option V}
    (el : (lo = none ∧ rl = none) ∨ ∃ y v, lo = some y ∧ rl = some v ∧ RV φ v (ρ y))
    (eh : (hi = none ∧ rh = none) ∨ ∃ y v, hi = some y ∧ rh = some v ∧ RV φ v (ρ y))
    (em : (mx = none ∧ rm = none) ∨ ∃ y v, mx = some y ∧ rm = some v ∧ RV φ v (ρ y))
    (hl : (rl = none ∧ l = 0) ∨ ∃ k, rl = some (.i k (l : Int)) ∧ l ≤ n)
    (hh : (rh = none ∧ rm = none ∧ n = len) ∨ ∃ k, rh = some (.i k (n : Int)) ∧ n ≤ m)
    (hm : (rm = none ∧ m = cap) ∨ ∃ k, rm = some (.i k (m : Int)) ∧ m ≤ cap) (W : World) :
    (Instr.sliceBounds true len cap (lo.map ρ) (hi.map ρ) (mx.map ρ)).run p W = .ok (l, n, m) W := by
  have one : ∀ {z : Option Operand} {r : Option V} {k : IntKind} {q : Nat}, ((z = none ∧ r = none) ∨ ∃ y v, z = some y ∧ r = some v ∧ RV φ v (ρ y)) → r = some (.i k (q : Int)) → z.map ρ = some (.int k (q : Int)) := by
    intro z r k q hz hr
    rcases hz with ⟨rfl, rfl⟩ | ⟨y, v, rfl, rfl, h⟩
    · cases hr
    · injection hr with hr
      subst hr
      generalize hρ : ρ y = x at h
      cases h
      simp [hρ]
  have non : ∀ {z : Option Operand} {r : Option V}, ((z = none ∧ r = none) ∨ ∃ y v, z = some y ∧ r = some v ∧ RV φ v (ρ y)) → r = none → z.map ρ = none := by
    intro z r hz hr
    rcases hz with ⟨rfl, rfl⟩ | ⟨y, v, rfl, rfl, h⟩
    · rfl
    · cases hr
  have gl : (lo.map ρ = none ∧ l = 0) ∨ ∃ k, lo.map ρ = some (.int k (l : Int)) ∧ l ≤ n := by
    rcases hl with ⟨h1, h2⟩ | ⟨k, h1, h2⟩
    · exact .inl ⟨non el h1, h2⟩
    · exact .inr ⟨k, one el h1, h2⟩
  have gm : (mx.map ρ = none ∧ m = cap) ∨ ∃ k, mx.map ρ = some (.int k (m : Int)) ∧ m ≤ cap := by
    rcases hm with ⟨h1, h2⟩ | ⟨k, h1, h2⟩
    · exact .inl ⟨non em h1, h2⟩
    · exact .inr ⟨k, one em h1, h2⟩
  have gh : (hi.map ρ = none ∧ mx.map ρ = none ∧ n = len) ∨ ∃ k, hi.map ρ = some (.int k (n : Int)) ∧ n ≤ m := by
    rcases hh with ⟨h1, h2, h3⟩ | ⟨k, h1, h2⟩
    · exact .inl ⟨non eh h1, non em h2, h3⟩
    · exact .inr ⟨k, one eh h1, h2⟩
  generalize lo.map ρ = A at gl ⊢
  generalize hi.map ρ = B at gh ⊢
  generalize mx.map ρ = C at gm gh ⊢
  rcases gm with ⟨rfl, rfl⟩ | ⟨km, rfl, hm'⟩
  · rcases gh with ⟨rfl, _, rfl⟩ | ⟨kh, rfl, hh'⟩
    · rcases gl with ⟨rfl, rfl⟩ | ⟨kl, rfl, hl'⟩
      · simp [Instr.sliceBounds]
      · simp [Instr.sliceBounds, run_bnd hl']
    · rcases gl with ⟨rfl, rfl⟩ | ⟨kl, rfl, hl'⟩
      · simp [Instr.sliceBounds, run_bnd hh']
      · simp [Instr.sliceBounds, run_bnd hh', run_bnd hl']
  · rcases gh with ⟨_, h, _⟩ | ⟨kh, rfl, hh'⟩
    · cases h
    · rcases gl with ⟨rfl, rfl⟩ | ⟨kl, rfl, hl'⟩
      · simp [Instr.sliceBounds, run_bnd hh', run_bnd hm']
      · simp [Instr.sliceBounds, run_bnd hh', run_bnd hl', run_bnd hm']
theorem hiO {rh rm : Option V} {n m len : Nat} (h : (Option.casesOn rh (Option.casesOn rm (some len) fun _ => none) fun hi => bnd hi 0 m : Option Nat) = some n) : (rh = none ∧ rm = none ∧ n = len) ∨ ∃ k, rh = some (.i k (n : Int)) ∧ n ≤ m := by
  cases rh with
  | none =>
    cases rm with
    | none => injection h with h; exact .inl ⟨rfl, rfl, h.symm⟩
    | some _ => cases h
  | some u =>
    obtain ⟨k, rfl, _, h2⟩ := bnd_some (show bnd u 0 m = some n from h)
    exact .inr ⟨k, rfl, h2⟩
theorem loO {r : Option V} {d hi n : Nat} (h : bndO r d 0 hi = some n) : (r = none ∧ n = d) ∨ ∃ k, r = some (.i k (n : Int)) ∧ n ≤ hi := by
  rcases bndO_some h with h | ⟨k, h1, _, h2⟩
  · exact .inl h
  · exact .inr ⟨k, h1, h2⟩
theorem slV_eq (i : K) (o n : Nat) (c : Cp) : slV i o n c = some (.sl i o n c) := by
  unfold slV
  rw [nF_eq, nF_eq]
  cases c with
  | x c => exact nF_eq c fun c => some (V.sl i o n (.x c))
  | o z => rfl

theorem run_sl {t e : TypeId} {sz l n m len cap : Nat} {x : Operand} {lo hi mx : Option Operand} {a : Option Addr} (ho : o.op = .slice t x lo hi mx) (ht : p.underlying t = some (.slice e)) (hn : tSize p e = some sz) (hρ : ρ x = .slice a len cap)
    (hb : ∀ W : World, (Instr.sliceBounds true len cap (lo.map ρ) (hi.map ρ) (mx.map ρ)).run p W = .ok (l, n, m) W) :
    (execOp ρ o).run p w = .ok (.value (.slice (if m = l then a else a.map (·.add (l * sz))) (n - l) (m - l))) w := by
  simp only [execOp, ho, hρ, Instr.sliceAt, Instr.slice, Sem.run_bind, run_underlying ht, Result.andThen_ok, hb, tSize_run hn, Sem.run_pure]
theorem s_sl {t e : TypeId} {sz : Nat} {x : Operand} {lo hi mx : Option Operand} {a : A} {al ah am : Option A} (h : OpR p φ F ρ) (ho : o.op = .slice t x lo hi mx) (ht : p.underlying t = some (.slice e)) (hn : tSize p e = some sz)
    (ha : cA p x = some a) (hal : cAo p lo = some al) (hah : cAo p hi = some ah) (ham : cAo p mx = some am) (hv : pSl F sz a al ah am = some v) : Does p φ ρ o w v := by
  obtain ⟨q, hx, v1⟩ := h.take ha hv
  obtain ⟨rl, hl, v2⟩ := ob_eq.1 v1
  obtain ⟨rh, hh, v3⟩ := ob_eq.1 v2
  obtain ⟨rm, hm, v4⟩ := ob_eq.1 v3
  have el := h.opt hal hl
  have eh := h.opt hah hh
  have em := h.opt ham hm
  generalize hρ : ρ x = r at hx
  rcases slK_some v4 with ⟨rfl, v5⟩ | ⟨i, o', n, c, rfl, v5⟩
  · cases hx
    obtain ⟨m', hm', v6⟩ := ob_eq.1 v5
    obtain ⟨n', hn', v7⟩ := ob_eq.1 v6
    obtain ⟨l', hl', v8⟩ := ob_eq.1 v7
    injection v8 with v8
    subst v8
    have bm := loO hm'
    have em0 : m' = 0 := by rcases bm with ⟨_, h⟩ | ⟨_, _, h⟩ <;> omega
    subst em0
    have bn := hiO hn'
    have en0 : n' = 0 := by rcases bn with ⟨_, _, h⟩ | ⟨_, _, h⟩ <;> omega
    subst en0
    have bl := loO hl'
    have el0 : l' = 0 := by rcases bl with ⟨_, h⟩ | ⟨_, _, h⟩ <;> omega
    subst el0
    have := run_sl (w := w) ho ht hn hρ (run_bounds el eh em bl bn bm)
    exact ⟨_, this, .sn⟩
  · cases hx with | sl _ _ _ _ cap ri hri hc =>
    cases c with
    | x c =>
      have hc' : cap = c := hc
      subst hc'
      obtain ⟨m', hm', v6⟩ := ob_eq.1 (show ob (bndO rm cap 0 cap) _ = some v from v5)
      obtain ⟨n', hn', v7⟩ := ob_eq.1 v6
      obtain ⟨l', hl', v8⟩ := ob_eq.1 v7
      have bm := loO hm'
      have bn := hiO hn'
      have bl := loO hl'
      have run := run_sl (w := w) ho ht hn hρ (run_bounds el eh em bl bn bm)
      rcases bc v8 with ⟨hb, v9⟩ | ⟨hb, v9⟩
      · rw [slV_eq, Option.some.injEq] at v9
        subst v9
        have hne : ¬ m' = l' := fun e => by rw [(beq_iff m' l').2 e] at hb; cases hb
        rw [if_neg hne] at run
        refine ⟨_, run, ?_⟩
        rw [Option.map_some, Addr.add_lit]
        exact .sl _ _ _ _ _ _ hri rfl
      · rw [slV_eq, Option.some.injEq] at v9
        subst v9
        have he : m' = l' := by simpa using hb
        rw [if_pos he] at run
        exact ⟨_, run, .sl _ _ _ _ _ _ hri rfl⟩
    | o z =>
      obtain ⟨hz, v5'⟩ := bcT (show (Bool.casesOn (Nat.beq sz z) none _ : Option V) = some v from v5)
      have hz' : sz = z := by simpa using hz
      subst hz'
      have hc1 : n ≤ cap := hc.1
      have hc2 : o' + cap * sz ≤ ri.n := hc.2
      cases rm with
      | none =>
        obtain ⟨n', hn', v7⟩ := ob_eq.1 (show ob (bndO rh n 0 n) _ = some v from v5')
        obtain ⟨l', hl', v8⟩ := ob_eq.1 v7
        have bn := loO hn'
        have hn1 : n' ≤ n := by rcases bn with ⟨_, h⟩ | ⟨_, _, h⟩ <;> omega
        have bl := loO hl'
        have hl1 : l' ≤ n' := by rcases bl with ⟨_, h⟩ | ⟨_, _, h⟩ <;> omega
        have bn' : (rh = none ∧ (none : Option V) = none ∧ n' = n) ∨ ∃ k, rh = some (.i k (n' : Int)) ∧ n' ≤ cap := by
          rcases bn with ⟨h1, h2⟩ | ⟨k, h1, h2⟩
          · exact .inl ⟨h1, rfl, h2⟩
          · exact .inr ⟨k, h1, by omega⟩
        have run := run_sl (w := w) ho ht hn hρ (run_bounds el eh em bl bn' (.inl ⟨rfl, rfl⟩))
        rcases bc v8 with ⟨hb, v9⟩ | ⟨hb, v9⟩
        · obtain ⟨hlt, v10⟩ := bcT v9
          have hlt' : l' < n := (blt_iff _ _).1 hlt
          rw [slV_eq, Option.some.injEq] at v10
          subst v10
          rw [if_neg (by omega)] at run
          refine ⟨_, run, ?_⟩
          rw [Option.map_some, Addr.add_lit]
          refine .sl _ _ _ _ _ _ hri ⟨?_, ?_⟩
          · show n' - l' ≤ cap - l'; omega
          · show o' + l' * sz + (cap - l') * sz ≤ ri.n
            rw [Nat.add_assoc, ← Nat.add_mul, Nat.add_sub_cancel' (by omega)]
            exact hc2
        · have he : l' = 0 := by simpa using hb
          subst he
          rw [slV_eq, Option.some.injEq] at v9
          subst v9
          have e1 : (if cap = 0 then some (⟨ri.b, o', none⟩ : Addr) else (some (⟨ri.b, o', none⟩ : Addr)).map (·.add (0 * sz))) = some ⟨ri.b, o', none⟩ := by
            split
            · rfl
            · rw [Option.map_some, Addr.add_lit]; simp
          rw [e1] at run
          exact ⟨_, run, .sl _ _ _ _ _ _ hri ⟨by show n' ≤ cap - 0; omega, by simpa using hc2⟩⟩
      | some um =>
        obtain ⟨m', hm', v6⟩ := ob_eq.1 (show ob (bnd um 0 n) _ = some v from v5')
        obtain ⟨km, rfl, _, hm1⟩ := bnd_some hm'
        obtain ⟨n', hn', v7⟩ := ob_eq.1 v6
        obtain ⟨l', hl', v8⟩ := ob_eq.1 v7
        have bl := loO hl'
        have bn : (rh = none ∧ (some (V.i km (m' : Int)) : Option V) = none ∧ n' = n) ∨ ∃ k, rh = some (.i k (n' : Int)) ∧ n' ≤ m' := by
          cases rh with
          | none => cases hn'
          | some uh =>
            obtain ⟨k, rfl, _, h2⟩ := bnd_some (show bnd uh 0 m' = some n' from hn')
            exact .inr ⟨k, rfl, h2⟩
        have run := run_sl (w := w) ho ht hn hρ (run_bounds el eh em bl bn (.inr ⟨km, rfl, by omega⟩))
        rcases bc v8 with ⟨hb, v9⟩ | ⟨hb, v9⟩
        · rw [slV_eq, Option.some.injEq] at v9
          subst v9
          have hne : ¬ m' = l' := fun e => by rw [(beq_iff m' l').2 e] at hb; cases hb
          rw [if_neg hne] at run
          refine ⟨_, run, ?_⟩
          rw [Option.map_some, Addr.add_lit]
          exact .sl _ _ _ _ _ _ hri rfl
        · rw [slV_eq, Option.some.injEq] at v9
          subst v9
          have he : m' = l' := by simpa using hb
          rw [if_pos he] at run
          exact ⟨_, run, .sl _ _ _ _ _ _ hri rfl⟩

theorem take_set {α : Type} (c : α) : ∀ (l : List α) (k : Nat), k < l.length → (l.set k c).take (k + 1) = l.take k ++ [c]
  | [], k, h => by simp at h
  | a :: l, 0, _ => by simp
  | a :: l, k + 1, h => by simp [take_set c l k (by simpa using h)]
theorem drop_set {α : Type} (c : α) : ∀ (l : List α) (k m : Nat), k < m → (l.set k c).drop m = l.drop m
  | [], k, m, h => by simp
  | a :: l, 0, m + 1, _ => by simp
  | a :: l, k + 1, 0, h => by omega
  | a :: l, k + 1, m + 1, h => by simp [drop_set c l k m (by omega)]
/-- the cells laid over -/
theorem layOver (cs : List Value) : ∀ (zs : Array Value) (off j0 : Nat), off + j0 + cs.length ≤ zs.size →
    ((cs.zipIdx j0).foldl (fun acc (q : Value × Nat) => acc.setIfInBounds (off + q.2) q.1) zs).toList = zs.toList.take (off + j0) ++ (cs ++ zs.toList.drop (off + j0 + cs.length)) := by
  induction cs with
  | nil => intro zs off j0 _; simp
  | cons c cs ih =>
    intro zs off j0 hle
    simp only [List.length_cons] at hle
    simp only [List.zipIdx_cons, List.foldl_cons]
    rw [ih (zs.setIfInBounds (off + j0) c) off (j0 + 1) (by simp; omega), Array.toList_setIfInBounds]
    have hlt : off + j0 < zs.toList.length := by simp; omega
    have e1 : off + (j0 + 1) = off + j0 + 1 := by omega
    rw [e1, take_set c _ _ hlt, drop_set c _ _ _ (by omega)]
    have e2 : off + j0 + 1 + cs.length = off + j0 + (c :: cs).length := by simp; omega
    rw [e2]
    simp

/-! ### struct values -/
theorem parts_rel (h : OpR p φ F ρ) (place : Nat → Option (Nat × Nat)) :
    ∀ {ps : List (Nat × Operand)} {qs : List (Nat × Nat × A)} {z l : List V} {zs : Array Value}, parts p place ps = some qs → RVs φ z zs.toList → fillP F qs z = some l →
      ∃ xs, Instr.fill place zs (ps.map fun (i, x) => (i, ρ x)) = some xs ∧ RVs φ l xs.toList
  | [], qs, z, l, zs, hc, hz, hv => by
    injection hc with hc; subst hc
    injection hv with hv; subst hv
    exact ⟨zs, rfl, hz⟩
  | (i, x) :: ps, qs, z, l, zs, hc, hz, hv => by
    simp only [parts, bind, Option.bind_eq_some_iff] at hc
    obtain ⟨⟨off, n⟩, hi, a, ha, r, hr, hc⟩ := hc
    injection hc with hc
    subst hc
    obtain ⟨q, hq, v1⟩ := ob_eq.1 (show ob (gA F a) _ = some l from hv)
    obtain ⟨c, hcc, v2⟩ := ob_eq.1 v1
    obtain ⟨hlen, v3⟩ := bcT v2
    obtain ⟨z', hz', v4⟩ := ob_eq.1 v3
    have hx := h _ _ _ ha hq
    have hcs := hx.cells hcc
    have hn : c.length = n := by rw [lenL_eq] at hlen; simpa using hlen
    obtain ⟨hfit, rfl⟩ := overL_some.1 hz'
    have hsz : (ρ x).cells.size = n := by rw [← hn, hcs.length]; simp
    have hzs : z.length = zs.size := by rw [hz.length]; simp
    have hk := layOver (ρ x).cells.toList zs off 0 (by simp; omega)
    obtain ⟨xs, hxs, hrel⟩ := parts_rel h place (zs := ((ρ x).cells.zipIdx.foldl (fun cs (c, j) => cs.setIfInBounds (off + j) c) zs)) hr (by
      rw [← Array.foldl_toList, Array.toList_zipIdx, hk]
      have e : (ρ x).cells.toList.length = c.length := hcs.length.symm
      simp only [Nat.add_zero]
      rw [e]
      exact (hz.take off).append (hcs.append (hz.drop _))) v4
    refine ⟨xs, ?_, hrel⟩
    have hcond : ((decide ((ρ x).cells.size ≠ n)) || (decide (off + (ρ x).cells.size > zs.size))) = false := by
      simp [hsz]; omega
    simp only [List.map_cons, Instr.fill, hi]
    rw [if_neg (by rw [hcond]; simp)]
    exact hxs
end
end Go.Rfx
