/- What is proved here: operations that make a block: in Go's own run a value comes, and memory, that are related to the evaluator's. The conditions are the relations of operands and of memory. -/
import Derived.Test.YtbjcajjlpehfiaaGreatDoorRfxN
set_option linter.unusedVariables false
set_option linter.unusedSectionVars false
set_option linter.unusedSimpArgs false
set_option linter.constructorNameAsVariable false
namespace Go.Rfx
open Go
variable [Sy]
section
variable {p : Program} {φ : Phi} {F : T V} {ρ : Operand → Value} {h : H} {w : World} {o : Oper} {v : V} {nid : K} {b : B}

/-- what such an operation comes to: a block and a value, whatever the names are -/
def Makes (p : Program) (φ : Phi) (ρ : Operand → Value) (o : Oper) (w : World) (nid : K) (v : V) (b : B) : Prop :=
  ∃ x w' obj n, (execOp ρ o).run p w = .ok (.value x) w' ∧ w'.heap = w.heap.push obj ∧ w'.os = w.os ∧ w'.tape = w.tape ∧ w'.output = w.output ∧
    ∀ φ' : Phi, Ext φ φ' → φ' nid = some ⟨w.heap.size, n⟩ → RV φ' v x ∧ RB φ' b ⟨w.heap.size, n⟩ (some obj)
theorem Makes.done (r : RW p φ h w) (hn : φ nid = none) (hlt : nid.num < h.nx.num) (hm : Makes p φ ρ o w nid v b) :
    ∃ x w' φ', (execOp ρ o).run p w = .ok (.value x) w' ∧ RV φ' v x ∧ RW p φ' (h.set nid b) w' ∧ Kp (· = nid) φ h w φ' (h.set nid b) w' := by
  obtain ⟨x, w', obj, n, h1, h2, h3, h4, h5, h6⟩ := hm
  obtain ⟨hv, hb⟩ := h6 (φ.put nid ⟨w.heap.size, n⟩) (Phi.put_ext hn) (Phi.put_same _ _ _)
  obtain ⟨g1, g2⟩ := r.make hn hlt h2 h3 h4 h5 hb
  exact ⟨x, w', _, h1, hv, g1, g2⟩
/-- a row of cells that is just these -/
theorem RB.row {φ : Phi} {l : List V} {xs : Array Value} {t : TypeId} {n g : Nat} (hr : RVs φ l xs.toList) (hn : xs.size = n) : RB φ (.c l false true) ⟨g, n⟩ (some (.cells xs t (0, 0))) := by
  refine ⟨xs, t, (0, 0), rfl, hn, ?_, ?_, fun _ j _ hh => by omega, fun _ => rfl⟩
  · rw [hr.length]; simp [hn]
  · intro j v hv
    obtain ⟨x, hx, hrel⟩ := hr.get j v hv
    exact ⟨x, by simpa using hx, hrel⟩
theorem s_bx {t : TypeId} {x : Operand} {a : A} (hp : OpR p φ F ρ) (ho : o.op = .box t x) (ha : cA p x = some a) (hv : aBx F nid a = some (v, b)) : Makes p φ ρ o w nid v b := by
  obtain ⟨q, hx, v1⟩ := hp.take ha hv
  obtain ⟨l, hl, v2⟩ := ob_eq.1 v1
  injection v2 with v2
  injection v2 with e1 e2
  subst e1; subst e2
  refine ⟨.pointer (some ⟨w.heap.size, 0, none⟩), { w with heap := w.heap.push (.cells (ρ x).cells t) }, .cells (ρ x).cells t, (ρ x).cells.size, ?_, rfl, rfl, rfl, rfl, fun φ' he hf => ⟨.p _ _ _ hf, RB.row ((hx.cells hl).mono he) rfl⟩⟩
  simp [execOp, ho, Instr.box, newVar, newRow]
theorem s_al {t : TypeId} {z : V} (ho : o.op = .alloc t) (hz : tZeroV p t = some z) (hv : aBx F nid (.c z) = some (v, b)) : Makes p φ ρ o w nid v b := by
  obtain ⟨i, zv, hi, hzv, hr⟩ := tZeroV_rel (φ := φ) hz
  obtain ⟨q, hq, v1⟩ := ob_eq.1 (show ob (gA F (.c z)) _ = some (v, b) from hv)
  injection hq with hq
  subst hq
  obtain ⟨l, hl, v2⟩ := ob_eq.1 v1
  injection v2 with v2
  injection v2 with e1 e2
  subst e1; subst e2
  refine ⟨.pointer (some ⟨w.heap.size, 0, none⟩), { w with heap := w.heap.push (.cells zv.cells t) }, .cells zv.cells t, zv.cells.size, ?_, rfl, rfl, rfl, rfl, fun φ' he hf => ⟨.p _ _ _ hf, RB.row ((hr.cells hl).mono he) rfl⟩⟩
  have hzero : (zeroValue t).run p w = .ok zv w := by simp [zeroValue, typeInfo, hi, hzv]
  simp [execOp, ho, Instr.alloc, newVar, newRow, hzero]
theorem s_mkm {t : TypeId} (ho : o.op = .makeMap t none) (hv : (some (V.m nid, B.m []) : Option (V × B)) = some (v, b)) : Makes p φ ρ o w nid v b := by
  injection hv with v2
  injection v2 with e1 e2
  subst e1; subst e2
  refine ⟨.map (some w.heap.size), { w with heap := w.heap.push (.map #[] 0) }, .map #[] 0, 0, ?_, rfl, rfl, rfl, rfl, fun φ' he hf => ⟨.m _ _ hf, #[], 0, rfl, rfl, fun j e he => by simp at he⟩⟩
  simp [execOp, ho, Instr.makeMap]
/-- so many zero values in a row -/
theorem rep_cells (z : Array Value) : ∀ n : Nat, ((Array.range (n * z.size)).map (z[· % z.size]!)).toList = (List.replicate n z.toList).flatten
  | 0 => by simp
  | n + 1 => by
    have ih := rep_cells z n
    simp only [Array.toList_map, Array.toList_range] at ih ⊢
    rw [show (n + 1) * z.size = z.size + n * z.size by rw [Nat.add_mul]; omega, List.range_add, List.map_append, List.replicate_succ, List.flatten_cons, List.map_map]
    congr 1
    · apply List.ext_getElem?
      intro k
      by_cases hk : k < z.size
      · simp [hk, Nat.mod_eq_of_lt hk]
      · simp [hk]
    · rw [← ih]
      apply List.map_congr_left
      intro k _
      simp
theorem RVs.rep {φ : Phi} {l : List V} {xs : List Value} (hr : RVs φ l xs) : ∀ n : Nat, RVs φ (List.replicate n l).flatten (List.replicate n xs).flatten
  | 0 => .nil
  | n + 1 => by rw [List.replicate_succ, List.replicate_succ, List.flatten_cons, List.flatten_cons]; exact hr.append (RVs.rep hr n)
theorem s_bsl {t e : TypeId} {n sz : Nat} {ps : Array (Nat × Operand)} {z : List V} {qs : List (Nat × Nat × A)} (hp : OpR p φ F ρ) (ho : o.op = .buildSlice t n ps) (ht : p.underlying t = some (.slice e)) (hsz : tSize p e = some sz) (hz : tZero p e = some z)
    (hq : parts p (fun i => some (i * sz, sz)) ps.toList = some qs) (hle : n * sz ≤ 16777216) (hv : aSl F nid sz n z qs = some (v, b)) : Makes p φ ρ o w nid v b := by
  obtain ⟨l, hl, v1⟩ := ob_eq.1 hv
  injection v1 with v1
  injection v1 with e1 e2
  subst e1; subst e2
  obtain ⟨i, zv, hi, hzv, hzr, hzl⟩ := tZero_rel (φ := φ) hz
  have hsz' : sz = i.size := by simp only [tSize, hi, Option.map_some, Option.some.injEq] at hsz; exact hsz.symm
  have hzs : zv.cells.size = sz := by rw [hsz', ← hzl, hzr.length]; simp
  have hbase : RVs φ (repL z n) ((Array.range (n * sz)).map (zv.cells[· % zv.cells.size]!)).toList := by
    rw [repL_eq, ← hzs, rep_cells]
    exact hzr.rep n
  obtain ⟨xs, hxs, hrel⟩ := parts_rel hp (fun i => some (i * sz, sz)) hq hbase hl
  refine ⟨.slice (some ⟨w.heap.size, 0, none⟩) n n, { w with heap := w.heap.push (.cells xs e) }, .cells xs e, xs.size, ?_, rfl, rfl, rfl, rfl, fun φ' he hf => ⟨.sl _ _ _ _ _ _ hf rfl, RB.row (hrel.mono he) rfl⟩⟩
  have hzero : (zeroValue e).run p w = .ok zv w := by simp [zeroValue, typeInfo, hi, hzv]
  have hps : (ps.map fun (i, x) => (i, ρ x)).toList = ps.toList.map fun (i, x) => (i, ρ x) := by simp
  by_cases h0 : n * sz = 0
  · have hxs' : Instr.fill (fun i => some (i * sz, sz)) ((Array.range (n * sz)).map ((#[] : Array Value)[· % (#[] : Array Value).size]!)) (ps.toList.map fun (i, x) => (i, ρ x)) = some xs := by
      have a1 : ∀ f : Nat → Value, (Array.range 0).map f = #[] := fun f => by rw [Array.range_zero']; simp
      rw [h0, a1] at hxs ⊢
      exact hxs
    simp only [execOp, ho, Instr.buildSlice, Sem.run_bind, run_underlying ht, Result.andThen_ok, tSize_run hsz, Sem.run_ite, if_neg (show ¬ n * sz > 2 ^ 24 by omega), h0, if_true, Sem.run_pure, hps]
    rw [h0] at hxs'
    rw [hxs']
    rfl
  · simp only [execOp, ho, Instr.buildSlice, Sem.run_bind, run_underlying ht, Result.andThen_ok, tSize_run hsz, Sem.run_ite, if_neg (show ¬ n * sz > 2 ^ 24 by omega), if_neg h0, hzero, Sem.run_pure, hps]
    rw [hxs]
    rfl

theorem bytesFit_some {e : TypeId} (hf : bytesFit p e = true) : ∃ i zv, p.info? e = some i ∧ i.zero = some zv ∧ i.bytes ≤ 65536 := by
  unfold bytesFit at hf
  cases hi : p.info? e with
  | none => rw [hi] at hf; cases hf
  | some i =>
    rw [hi] at hf
    simp only [Bool.and_eq_true, decide_eq_true_eq, Option.isSome_iff_exists] at hf
    obtain ⟨h1, zv, h2⟩ := hf
    exact ⟨i, zv, rfl, h2, h1⟩
theorem s_mks {t e : TypeId} {sz : Nat} {x y : Operand} {z : List V} {a c : A} (hp : OpR p φ F ρ) (ho : o.op = .makeSlice t x y) (ht : p.underlying t = some (.slice e)) (hf : bytesFit p e = true) (hsz : tSize p e = some sz) (hz : tZero p e = some z)
    (ha : cA p x = some a) (hc : cA p y = some c) (hv : aMs F nid sz z a c = some (v, b)) : Makes p φ ρ o w nid v b := by
  obtain ⟨q, hy, v1⟩ := hp.take hc hv
  obtain ⟨m, hm, v2⟩ := ob_eq.1 v1
  obtain ⟨kc, rfl, _, hm1⟩ := bnd_some hm
  obtain ⟨q2, hx, v3⟩ := hp.take ha v2
  obtain ⟨n, hn, v4⟩ := ob_eq.1 v3
  obtain ⟨kn, rfl, _, hn1⟩ := bnd_some hn
  rw [nF_eq, nF_eq, lF_eq, Option.some.injEq] at v4
  injection v4 with e1 e2
  subst e1; subst e2
  generalize hρ : ρ x = r1 at hx
  generalize hρ' : ρ y = r2 at hy
  cases hx; cases hy
  obtain ⟨i, zv, hi, hzv, hbytes⟩ := bytesFit_some hf
  obtain ⟨i', zv', hi', hzv', hzr, hzl⟩ := tZero_rel (φ := φ) hz
  rw [hi] at hi'; injection hi' with hi'; subst hi'
  rw [hzv] at hzv'; injection hzv' with hzv'; subst hzv'
  have hsz' : sz = i.size := by simp only [tSize, hi, Option.map_some, Option.some.injEq] at hsz; exact hsz.symm
  have hzs : zv.cells.size = sz := by rw [hsz', ← hzl, hzr.length]; simp
  have hzero : (zeroValue e).run p w = .ok zv w := by simp [zeroValue, typeInfo, hi, hzv]
  have hinfo : (typeInfo e).run p w = .ok i w := by simp [typeInfo, hi]
  have w1 : IntKind.i64.wrap (n : Int) = n := wrap_i64_in _ (by omega) (by omega)
  have w2 : IntKind.i64.wrap (m : Int) = m := wrap_i64_in _ (by omega) (by omega)
  have hmul : i.bytes * m ≤ 65536 * 1000000 := Nat.mul_le_mul hbytes hm1
  have hbig : ¬ (((i.bytes : Nat) : Int) * (m : Int) > 2 ^ 48) := by
    have : ((i.bytes * m : Nat) : Int) ≤ 65536000000 := by omega
    rw [Int.natCast_mul] at this
    omega
  have hok : (((decide ((m : Int) < 0) || decide (((i.bytes : Nat) : Int) * (m : Int) > 2 ^ 48)) || decide ((n : Int) < 0)) || decide ((n : Int) > (m : Int))) = false := by
    simp only [Bool.or_eq_false_iff, decide_eq_false_iff_not]
    exact ⟨⟨⟨by omega, hbig⟩, by omega⟩, by omega⟩
  have hrow : RVs φ (repL z m) ((Array.range (m * sz)).map (zv.cells[· % zv.cells.size]!)).toList := by
    rw [repL_eq, ← hzs, rep_cells]
    exact hzr.rep m
  let xs : Array Value := (Array.range (m * sz)).map (zv.cells[· % zv.cells.size]!)
  refine ⟨.slice (some ⟨w.heap.size, 0, none⟩) n m, { w with heap := w.heap.push (.cells xs e) }, .cells xs e, xs.size, ?_, rfl, rfl, rfl, rfl, fun φ' he hf' => ⟨.sl _ _ _ _ _ _ hf' rfl, RB.row (hrow.mono he) rfl⟩⟩
  by_cases h0 : m * sz = 0
  · have a1 : ∀ f : Nat → Value, (Array.range 0).map f = #[] := fun f => by rw [Array.range_zero']; simp
    have hxs : xs = #[] := by show (Array.range (m * sz)).map _ = #[]; rw [h0, a1]
    rw [hxs]
    simp only [execOp, ho, hρ, hρ', Instr.makeSlice, Sem.run_bind, run_underlying ht, Result.andThen_ok, asInt, asIntOf, Sem.run_pure, hinfo, w1, w2]
    rw [if_neg (by rw [hok]; simp)]
    simp only [Sem.run_bind, run_askRoom, Result.andThen_ok, tSize_run hsz, Int.toNat_natCast, h0, if_true, Sem.run_pure, a1]
    rfl
  · simp only [execOp, ho, hρ, hρ', Instr.makeSlice, Sem.run_bind, run_underlying ht, Result.andThen_ok, asInt, asIntOf, Sem.run_pure, hinfo, w1, w2]
    rw [if_neg (by rw [hok]; simp)]
    simp only [Sem.run_bind, run_askRoom, Result.andThen_ok, tSize_run hsz, Int.toNat_natCast, if_neg h0, hzero, Sem.run_pure]
    rfl
theorem bytesV_rel {φ : Phi} : ∀ bs : List UInt8, RVs φ (bytesV (bs.map UInt8.toNat)) (bs.map fun b => Value.int .u8 (b.toNat : Int))
  | [] => .nil
  | b :: bs => .cons _ _ _ _ (.i .u8 _) (bytesV_rel bs)

theorem isU8_some {e : TypeId} (he : isU8 p e = true) : p.underlying e = some (.int .u8) := by
  unfold isU8 at he
  cases hq : p.underlying e with
  | none => rw [hq] at he; cases he
  | some dd => rw [hq] at he; cases dd <;> first | (cases he; done) | (rename_i k; cases k <;> first | (cases he; done) | rfl)
theorem s_sb {s d e : TypeId} {x : Operand} {a : A} (hp : OpR p φ F ρ) (ho : o.op = .convert s d x) (hs : p.underlying s = some .string) (hd : p.underlying d = some (.slice e)) (he : isU8 p e = true) (ha : cA p x = some a) (hv : aSb F nid a = some (v, b)) : Makes p φ ρ o w nid v b := by
  obtain ⟨q, hx, v1⟩ := hp.take ha hv
  obtain ⟨l, rfl, v2⟩ := sK_some v1
  rw [nF_eq, lF_eq, Option.some.injEq] at v2
  injection v2 with e1 e2
  subst e1; subst e2
  have hu8 := isU8_some he
  generalize hρ : ρ x = r1 at hx
  cases hx with | s _ s hsl =>
  subst hsl
  let cap : Nat := (Question.appendCap s.size 0 e).cut (w.tape w.drawn (.appendCap s.size 0 e))
  have hcap : s.size ≤ cap := by show s.size ≤ s.size + _; omega
  let row : Array Value := s.data.map (fun b => .int .u8 b.toNat) ++ Array.replicate (cap - s.size) (.int .u8 0)
  have hrow : row.size = cap := by
    have : s.data.size = s.size := rfl
    simp [row, this]; omega
  refine ⟨.slice (some ⟨w.heap.size, 0, none⟩) s.size cap, { w with drawn := w.drawn + 1, heap := w.heap.push (.cells row e (cap, cap + 1)) }, .cells row e (cap, cap + 1), cap, ?_, rfl, rfl, rfl, rfl, fun φ' hx' hf' => ⟨?_, ?_⟩⟩
  · have hch : (choose (.appendCap s.size 0 e)).run p w = .ok cap { w with drawn := w.drawn + 1 } := by
      simp [choose, Sem.run, Question.forced]; rfl
    have hfr : (({ w with drawn := w.drawn + 1, heap := w.heap.push (.cells row e) } : World).freeze ⟨w.heap.size, cap, none⟩ 1) = { w with drawn := w.drawn + 1, heap := w.heap.push (.cells row e (cap, cap + 1)) } := by
      simp only [World.freeze, if_neg (show ¬ (1 : Nat) = 0 by omega)]
      congr 1
      apply Array.ext_getElem?
      intro k
      rw [Array.getElem?_modify]
      by_cases hk : w.heap.size = k
      · subst hk; simp
      · simp [hk, Array.getElem?_push, Ne.symm hk]
    have hsh : ({ w with drawn := w.drawn + 1, heap := w.heap.push (.cells row e) } : World).shape? w.heap.size = some (e, cap) := by
      simp [World.shape?, hrow]
    simp only [execOp, ho, hρ, convert, Sem.run_bind, run_underlying hs, run_underlying hd, run_underlying hu8, Result.andThen_ok, Conv.stringToBytes, hch, newRow, run_newObj, Sem.run_pure, markStringish, run_shape]
    rw [hsh]
    simp only [Result.andThen_ok, run_freeze]
    rw [hfr]
  · have e1 : lenL (s.data.toList.map UInt8.toNat) = s.size := by rw [lenL_eq, List.length_map]; rfl
    rw [e1]
    exact .sl _ _ _ _ cap _ hf' ⟨hcap, by show 0 + cap * 1 ≤ cap; omega⟩
  · have hr := bytesV_rel (φ := φ') s.data.toList
    refine ⟨row, e, (cap, cap + 1), rfl, hrow, ?_, ?_, fun _ j hj hh => by simp at hh hj; omega, fun h => by cases h⟩
    · rw [hr.length, List.length_map]; exact hcap
    · intro j v hv
      obtain ⟨x, hx, hrel⟩ := hr.get j v hv
      refine ⟨x, ?_, hrel⟩
      rw [List.getElem?_map, Option.map_eq_some_iff] at hx
      obtain ⟨u, hu, rfl⟩ := hx
      rw [Array.getElem?_toList] at hu
      have hlt : j < s.data.size := (Array.getElem?_eq_some_iff.1 hu).1
      show (s.data.map _ ++ _)[j]? = _
      rw [Array.getElem?_append_left (by simpa using hlt)]
      simp [hu]
theorem make_rel {q : Al} (hp : OpR p φ F ρ) (hc : cOp p o.op = some (.a q)) (hv : evA F nid q = some (v, b)) : Makes p φ ρ o w nid v b := by
  cases ho : o.op with
  | alloc t =>
    rw [ho] at hc
    simp only [cOp, bind, Option.bind_eq_some_iff, Option.some.injEq, O.a.injEq] at hc
    obtain ⟨z, hz, rfl⟩ := hc
    exact s_al ho hz hv
  | box t x =>
    rw [ho] at hc
    simp only [cOp, bind, Option.bind_eq_some_iff, Option.some.injEq, O.a.injEq] at hc
    obtain ⟨a, ha, rfl⟩ := hc
    exact s_bx hp ho ha hv
  | makeMap t r =>
    rw [ho] at hc
    cases r with
    | none => simp only [cOp, Option.some.injEq, O.a.injEq] at hc; subst hc; exact s_mkm ho hv
    | some r => simp [cOp] at hc
  | buildSlice t n ps =>
    rw [ho] at hc
    cases ht : p.underlying t with
    | none => simp only [cOp, ht] at hc; cases hc
    | some d =>
      cases d with
      | slice e =>
        simp only [cOp, ht, bind, Option.bind_eq_some_iff] at hc
        obtain ⟨sz, hsz, z, hz, qs, hq, hc⟩ := hc
        by_cases hle : n * sz ≤ 16777216
        · rw [if_pos hle] at hc
          simp only [Option.some.injEq, O.a.injEq] at hc
          subst hc
          exact s_bsl hp ho ht hsz hz hq hle hv
        · rw [if_neg hle] at hc; cases hc
      | _ => simp only [cOp, ht] at hc; cases hc
  | makeSlice t n c =>
    rw [ho] at hc
    cases ht : p.underlying t with
    | none => simp only [cOp, ht] at hc; cases hc
    | some d =>
      cases d with
      | slice e =>
        simp only [cOp, ht] at hc
        by_cases hf : bytesFit p e = true
        · rw [if_pos hf] at hc
          simp only [bind, Option.bind_eq_some_iff, Option.some.injEq, O.a.injEq] at hc
          obtain ⟨sz, hsz, z, hz, a, ha, c', hcc, rfl⟩ := hc
          exact s_mks hp ho ht hf hsz hz ha hcc hv
        · rw [if_neg hf] at hc; cases hc
      | _ => simp only [cOp, ht] at hc; cases hc
  | convert s d x =>
    rw [ho] at hc
    simp only [cOp, bind, Option.bind_eq_some_iff] at hc
    obtain ⟨a, ha, hc⟩ := hc
    cases hs : p.underlying s with
    | none => rw [hs] at hc; cases hc
    | some ds =>
      cases hd : p.underlying d with
      | none => rw [hs, hd] at hc; cases ds <;> cases hc
      | some dd =>
        rw [hs, hd] at hc
        cases ds <;> cases dd <;> first
          | (cases hc; done)
          | (simp at hc; done)
          | (rename_i e
             by_cases he : isU8 p e = true
             · simp only [he, if_true, Option.some.injEq, O.a.injEq, reduceCtorEq] at hc
               subst hc
               exact s_sb hp ho hs hd he ha hv
             · simp only [he, if_false, reduceCtorEq, Bool.false_eq_true] at hc)
  | call c =>
    rw [ho] at hc
    simp only [cOp] at hc
    cases hcc : c.callee with
    | value x =>
      simp only [cCall, hcc] at hc
      cases x <;> simp [Option.bind_eq_some_iff] at hc
    | invoke r m => simp only [cCall, hcc] at hc; cases hc
    | builtin bi =>
      cases bi with
      | len =>
        simp only [cCall, hcc] at hc
        split at hc
        · simp only [Option.bind_eq_some_iff] at hc
          obtain ⟨a, ha, hc⟩ := hc
          unfold cLen at hc
          split at hc <;> simp at hc
        · cases hc
      | append =>
        simp only [cCall, hcc] at hc
        split at hc
        · simp only [Option.bind_eq_some_iff] at hc
          obtain ⟨a, ha, b, hb, hc⟩ := hc
          unfold cApp at hc
          split at hc
          · simp [Option.bind_eq_some_iff] at hc
          · cases hc
        · cases hc
      | max =>
        simp only [cCall, hcc] at hc
        split at hc
        · simp [Option.bind_eq_some_iff] at hc
        · cases hc
      | min =>
        simp only [cCall, hcc] at hc
        split at hc
        · simp [Option.bind_eq_some_iff] at hc
        · cases hc
      | _ => simp only [cCall, hcc] at hc; cases hc
  | move x => rw [ho] at hc; simp [cOp, bind, Option.bind_eq_some_iff] at hc
  | assign x => rw [ho] at hc; simp [cOp, bind, Option.bind_eq_some_iff] at hc
  | pick x y z => rw [ho] at hc; simp [cOp, bind, Option.bind_eq_some_iff] at hc
  | nilCheck x => rw [ho] at hc; simp [cOp, bind, Option.bind_eq_some_iff] at hc
  | extract x i => rw [ho] at hc; simp [cOp, bind, Option.bind_eq_some_iff] at hc
  | load t x => rw [ho] at hc; simp [cOp, bind, Option.bind_eq_some_iff] at hc
  | store t x y => rw [ho] at hc; simp [cOp, bind, Option.bind_eq_some_iff] at hc
  | binOp op t x y t' => rw [ho] at hc; simp [cOp, bind, Option.bind_eq_some_iff] at hc
  | unOp op t x => rw [ho] at hc; cases op <;> simp [cOp, bind, Option.bind_eq_some_iff] at hc
  | makeFunc f a c => rw [ho] at hc; cases f <;> simp [cOp, bind, Option.bind_eq_some_iff] at hc
  | build t ps =>
    rw [ho] at hc
    simp only [cOp, bind, Option.bind_eq_some_iff] at hc
    obtain ⟨z, hz, hc⟩ := hc
    split at hc
    · simp [Option.bind_eq_some_iff] at hc
    · cases hc
  | makeInterface t x =>
    rw [ho] at hc
    simp only [cOp] at hc
    split at hc
    · cases hc
    · simp [bind, Option.bind_eq_some_iff] at hc
    · cases hc
  | fieldAddr t x i =>
    rw [ho] at hc
    simp only [cOp] at hc
    split at hc
    · simp only [bind, Option.bind_eq_some_iff] at hc
      obtain ⟨f, hf, n, hn, hc⟩ := hc
      split at hc
      · cases hc
      · simp [Option.bind_eq_some_iff] at hc
    · cases hc
  | field t x i =>
    rw [ho] at hc
    simp only [cOp] at hc
    split at hc
    · simp [bind, Option.bind_eq_some_iff] at hc
    · cases hc
  | indexAddr t x i =>
    rw [ho] at hc
    simp only [cOp] at hc
    split at hc
    · simp [bind, Option.bind_eq_some_iff] at hc
    · simp [bind, Option.bind_eq_some_iff] at hc
    · cases hc
  | index t x i =>
    rw [ho] at hc
    simp only [cOp] at hc
    split at hc
    · simp [bind, Option.bind_eq_some_iff] at hc
    · cases hc
  | slice t x lo hi mx =>
    rw [ho] at hc
    simp only [cOp] at hc
    split at hc
    · split at hc
      · simp [bind, Option.bind_eq_some_iff] at hc
      · cases hc
    · simp [bind, Option.bind_eq_some_iff] at hc
    · cases hc
  | lookup t x i ok =>
    rw [ho] at hc
    simp only [cOp] at hc
    split at hc
    · simp [bind, Option.bind_eq_some_iff] at hc
    · cases hc
  | mapUpdate t m k x =>
    rw [ho] at hc
    simp only [cOp] at hc
    split at hc
    · simp [bind, Option.bind_eq_some_iff] at hc
    · cases hc
  | insert t m k x =>
    rw [ho] at hc
    simp only [cOp] at hc
    split at hc
    · simp [bind, Option.bind_eq_some_iff] at hc
    · cases hc
  | _ => rw [ho] at hc; cases hc
end
end Go.Rfx
