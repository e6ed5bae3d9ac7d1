/- What is proved here: operations that look into memory come, in Go's own run, to values that are related to the evaluator's. The conditions are the relations of operands and of memory. -/
import Derived.Test.YtbjcajjlpehfiaaGreatDoorRfxL
set_option linter.unusedVariables false
set_option linter.unusedSectionVars false
set_option linter.unusedSimpArgs false
set_option linter.constructorNameAsVariable false
namespace Go.Rfx
open Go
variable [Sy]
section
variable {p : Program} {φ : Phi} {F : T V} {ρ : Operand → Value} {h : H} {w : World} {o : Oper} {v : V}

theorem s_ld {t : TypeId} {ag : Bool} {n : Nat} {x : Operand} {a : A} (hp : OpR p φ F ρ) (r : RW p φ h w) (ho : o.op = .load t x) (hg : tAgg p t = some ag) (hn : tSize p t = some n) (ha : cA p x = some a) (hv : rLd F h ag n a = some v) : Does p φ ρ o w v := by
  obtain ⟨q, hx, v1⟩ := hp.take ha hv
  obtain ⟨i, o', rfl, v2⟩ := pK_some v1
  obtain ⟨b, hb, v3⟩ := ob_eq.1 v2
  obtain ⟨l, ro, cl, rfl, v4⟩ := bC_some v3
  generalize hρ : ρ x = z at hx
  cases hx with | p _ _ ri hri =>
  cases ag with
  | false =>
    have v5 : l[o']? = some v := by rw [← nth_eq]; exact v4
    obtain ⟨y, hy, hr⟩ := r.cell hb hri v5
    exact ⟨y, by simp [execOp, ho, hρ, Instr.loadAt, Instr.sureAddr, loadVar, tAgg_run hg, hy], hr⟩
  | true =>
    obtain ⟨q, hq, v5⟩ := ob_eq.1 (show ob (takeL (dropL l o') n) _ = some v from v4)
    obtain ⟨h1, rfl⟩ := takeL_some.1 hq
    injection v5 with v5
    subst v5
    rw [dropL_eq] at h1 ⊢
    obtain ⟨xs, hxs, hlen, hrel⟩ := r.loads hb hri (o := o') (n := n) (by rw [List.length_drop] at h1; exact h1)
    exact ⟨.agg xs.toArray, by simp [execOp, ho, hρ, Instr.loadAt, Instr.sureAddr, loadVar, tAgg_run hg, tSize_run hn, hxs], .a _ _ (by simpa using hrel)⟩
theorem okV_rel {ok q : Bool} {v : V} {x : Value} (hx : RV φ v x) : RV φ (okV ok v q) (if ok then .tuple #[x, .bool q] else x) := by
  cases ok with
  | false => exact hx
  | true => exact .t _ _ (.cons _ _ _ _ hx (.cons _ _ _ _ (.b q) .nil))
theorem RW.mapAt (r : RW p φ h w) {i : K} {ri : RI} {es : List (V × V)} (hg : h.get i = some (.m es)) (hi : φ i = some ri) : ∃ ents clk, w.heap[ri.b]? = some (.map ents clk) ∧ REs φ es ents.toList := by
  obtain ⟨ri', hri', ents, clk, h1, h2, h3⟩ := r.blk i _ hg
  rw [hi] at hri'
  injection hri' with e
  subst e
  exact ⟨ents, clk, h1, by simpa using h2, fun j e he => by simpa using h3 j e he⟩
theorem run_getMap {g : Nat} {ents : Array MapEntry} {clk : Nat} (hg : w.heap[g]? = some (.map ents clk)) : (getObj g).run p w = .ok (.map ents clk) w := by
  simp [getObj, Sem.run, hg]
theorem s_lk {t k e : TypeId} {kk : KK} {z : V} {ok : Bool} {x i : Operand} {a b : A} (hp : OpR p φ F ρ) (r : RW p φ h w) (ho : o.op = .lookup t x i ok) (ht : p.underlying t = some (.map k e)) (hkk : kkOf p k = some kk) (hz : tZeroV p e = some z)
    (ha : cA p x = some a) (hb : cA p i = some b) (hv : rLk F h kk z ok a b = some v) : Does p φ ρ o w v := by
  obtain ⟨q, hx, v1⟩ := hp.take ha hv
  obtain ⟨kv, hk, v2⟩ := hp.take hb v1
  obtain ⟨hok, v3⟩ := bcT v2
  obtain ⟨ti, zv, hi, hzv, hzr⟩ := tZeroV_rel (φ := φ) hz
  have hck : ∀ e', (Instr.checkKey e' 10000 k (ρ i)).run p w = .ok () w := fun e' => run_checkKey hkk e' 9999 _
  have hzero : (zeroValue e).run p w = .ok zv w := by simp [zeroValue, typeInfo, hi, hzv]
  generalize hρ : ρ x = y at hx
  rcases mK_some v3 with ⟨rfl, v4⟩ | ⟨m, rfl, v4⟩
  · injection v4 with v4
    subst v4
    cases hx
    have hfk : (Instr.findKey k (ρ i) ([] : List MapEntry)).run p w = .ok none w := by
      simp only [Instr.findKey, Sem.run_bind]
      rcases kkOf_some hkk with ⟨_, q, htk⟩ | ⟨_, htk⟩ | ⟨_, q, j, htk, _⟩ <;> simp [run_underlying htk, Instr.findNow]
    refine ⟨_, ?_, okV_rel (q := false) (ok := ok) hzr⟩
    simp only [execOp, ho, hρ, Instr.lookup, Sem.run_bind, run_underlying ht, Result.andThen_ok, Sem.run_pure, hck, Array.toList_empty, hfk, hzero]
  · obtain ⟨bb, hbb, v5⟩ := ob_eq.1 v4
    obtain ⟨es, rfl, v6⟩ := bM_some v5
    obtain ⟨res, hres, v7⟩ := ob_eq.1 v6
    obtain ⟨fi, hfi, hfr⟩ := find_fidx hres
    cases hx with | m _ ri hri =>
    obtain ⟨ents, clk, hm, hrel⟩ := r.mapAt hbb hri
    obtain ⟨R, hR, hfnd⟩ := run_findKey r hkk hk hrel hfi
    cases fi with
    | none =>
      simp only at hfr
      subst hfr
      injection v7 with v7
      subst v7
      have hR0 : R = none := hfnd
      subst hR0
      refine ⟨_, ?_, okV_rel (q := false) (ok := ok) hzr⟩
      simp only [execOp, ho, hρ, Instr.lookup, Sem.run_bind, run_underlying ht, Result.andThen_ok, run_getMap hm, Sem.run_pure, hck, hR, hzero]
    | some j =>
      obtain ⟨e1, he1, rfl⟩ := hfr
      injection v7 with v7
      subst v7
      obtain ⟨e2, he2, rfl⟩ := hfnd
      obtain ⟨e3, he3, _, hval⟩ := hrel.2 j e1 he1
      rw [he2] at he3
      injection he3 with he3
      subst he3
      refine ⟨_, ?_, okV_rel (q := true) (ok := ok) hval⟩
      simp only [execOp, ho, hρ, Instr.lookup, Sem.run_bind, run_underlying ht, Result.andThen_ok, run_getMap hm, Sem.run_pure, hck, hR]
theorem s_lm {c : Call} {t k e : TypeId} {ts : List TypeId} {x : Operand} {xs : List Operand} {a : A} (hp : OpR p φ F ρ) (r : RW p φ h w) (ho : o.op = .call c) (hc : c.callee = .builtin .len) (hts : c.argTypes.toList = t :: ts) (hxs : c.args.toList = x :: xs)
    (ht : p.underlying t = some (.map k e)) (ha : cA p x = some a) (hv : rLm F h a = some v) : Does p φ ρ o w v := by
  obtain ⟨q, hx, v1⟩ := hp.take ha hv
  have g1 : c.argTypes[0]? = some t := by rw [← Array.getElem?_toList, hts]; rfl
  have g2 : (c.args.map ρ)[0]? = some (ρ x) := by rw [← Array.getElem?_toList]; simp [hxs]
  generalize hρ : ρ x = y at hx g2
  rcases mK_some v1 with ⟨rfl, v2⟩ | ⟨m, rfl, v2⟩
  · injection v2 with v2
    subst v2
    cases hx
    exact ⟨.int .i64 0, by simp [execOp, ho, resolve, hc, invoke, builtin, Builtin.len_, g1, g2, run_underlying ht, goInt], .i _ _⟩
  · obtain ⟨bb, hbb, v5⟩ := ob_eq.1 v2
    obtain ⟨es, rfl, v6⟩ := bM_some v5
    rw [nF_eq, Option.some.injEq] at v6
    subst v6
    cases hx with | m _ ri hri =>
    obtain ⟨ents, clk, hm, hrel⟩ := r.mapAt hbb hri
    refine ⟨.int .i64 ents.size, by simp [execOp, ho, resolve, hc, invoke, builtin, Builtin.len_, g1, g2, run_underlying ht, goInt, run_getMap hm], ?_⟩
    have : (Int.ofNat (lenL es)) = (ents.size : Int) := by rw [lenL_eq, hrel.1]; simp
    rw [this]; exact .i _ _
theorem bytesOf_rel : ∀ {l : List V} {xs : List Value} {r : List Nat}, RVs φ l xs → bytesOf l = some r → ∃ bs : List UInt8, bs.map UInt8.toNat = r ∧ xs = bs.map fun b => .int .u8 (b.toNat : Int)
  | [], xs, r, hr, hb => by injection hb with hb; subst hb; cases hr; exact ⟨[], rfl, rfl⟩
  | u :: l, xs, r, hr, hb => by
    obtain ⟨n, hn, h1⟩ := ob_eq.1 (show ob (byteOf u) _ = some r from hb)
    obtain ⟨r', hr', h2⟩ := ob_eq.1 h1
    injection h2 with h2
    subst h2
    cases hr with | cons _ x _ xs hx hxs =>
    obtain ⟨bs, rfl, rfl⟩ := bytesOf_rel hxs hr'
    obtain ⟨k, m, rfl, h3⟩ := iK_some hn
    obtain ⟨h4, h5⟩ := bcT h3
    rw [eqK_eq, decide_eq_true_iff] at h4
    subst h4
    cases m with
    | negSucc m => cases h5
    | ofNat m =>
      obtain ⟨h6, h7⟩ := bcT (show (Bool.casesOn (Nat.blt m 256) none _ : Option Nat) = some n from h5)
      injection h7 with h7
      subst h7
      have hlt : m < 256 := (blt_iff _ _).1 h6
      cases hx
      refine ⟨UInt8.ofNat m :: bs, ?_, ?_⟩
      · simp [Nat.mod_eq_of_lt hlt]
      · simp [Nat.mod_eq_of_lt hlt]
theorem s_rbs {s d e : TypeId} {x : Operand} {a : A} (hp : OpR p φ F ρ) (r : RW p φ h w) (ho : o.op = .convert s d x) (hs : p.underlying s = some (.slice e)) (hd : p.underlying d = some .string) (he : isU8 p e = true) (ha : cA p x = some a) (hv : rBs F h a = some v) : Does p φ ρ o w v := by
  obtain ⟨q, hx, v1⟩ := hp.take ha hv
  have hu8 : p.underlying e = some (.int .u8) := by
    unfold isU8 at he
    cases hq : p.underlying e with
    | none => rw [hq] at he; cases he
    | some dd => rw [hq] at he; cases dd <;> first | (cases he; done) | (rename_i k; cases k <;> first | (cases he; done) | rfl)
  generalize hρ : ρ x = y at hx
  rcases slK_some v1 with ⟨rfl, v2⟩ | ⟨i, o', n, c, rfl, v2⟩
  · injection v2 with v2
    subst v2
    cases hx
    exact ⟨.string .empty, by simp [execOp, ho, hρ, convert, run_underlying hs, run_underlying hd, run_underlying hu8, Conv.bytesToString], .s _ _ rfl⟩
  · obtain ⟨l, hl, v3⟩ := ob_eq.1 v2
    obtain ⟨bs, hbs, v4⟩ := ob_eq.1 v3
    injection v4 with v4
    subst v4
    obtain ⟨b, hb, v5⟩ := ob_eq.1 (show ob (h.get i) _ = some l from hl)
    obtain ⟨l', ro, cl, rfl, v6⟩ := bC_some v5
    obtain ⟨h1, rfl⟩ := takeL_some.1 v6
    rw [dropL_eq] at h1 hbs
    cases hx with | sl _ _ _ _ cap ri hri hc =>
    obtain ⟨xs, hxs, hlen, hrel⟩ := r.loads hb hri (o := o') (n := n) (by rw [List.length_drop] at h1; exact h1)
    obtain ⟨us, rfl, rfl⟩ := bytesOf_rel hrel hbs
    refine ⟨.string ⟨us.toArray⟩, ?_, .s _ _ (by simp)⟩
    have key : ∀ (f : Value → ByteArray → Sem (ForInStep ByteArray)) (hf : ∀ (u : UInt8) s, (f (.int .u8 (u.toNat : Int)) s).run p w = .ok (.yield (s.push u)) w) (us : List UInt8) (s0 : ByteArray), (forIn (us.map fun b => Value.int .u8 (b.toNat : Int)) s0 f).run p w = .ok ⟨s0.data ++ us.toArray⟩ w := by
      intro f hf us
      induction us with
      | nil => intro s0; simp
      | cons u us ih =>
        intro s0
        simp only [List.map_cons, List.forIn_cons, Sem.run_bind, hf, Result.andThen_ok]
        rw [ih]
        congr 1
        simp [ByteArray.push]
    simp only [execOp, ho, hρ, convert, Sem.run_bind, run_underlying hs, run_underlying hd, run_underlying hu8, Result.andThen_ok, Conv.bytesToString, hxs]
    rw [← Array.forIn_toList]
    rw [List.toList_toArray, key]
    · simp [ByteArray.empty, ByteArray.emptyWithCapacity]; rfl
    · intro u s; simp

theorem read_rel {q : Rd} (hp : OpR p φ F ρ) (r : RW p φ h w) (hc : cOp p o.op = some (.r q)) (hv : evR F h q = some v) : Does p φ ρ o w v := by
  cases ho : o.op with
  | load t x =>
    rw [ho] at hc
    simp only [cOp, bind, Option.bind_eq_some_iff, Option.some.injEq, O.r.injEq] at hc
    obtain ⟨g, hg, n, hn, a, ha, rfl⟩ := hc
    exact s_ld hp r ho hg hn ha hv
  | lookup t x i ok =>
    rw [ho] at hc
    cases ht : p.underlying t with
    | none => simp only [cOp, ht] at hc; cases hc
    | some d =>
      cases d with
      | map k e =>
        simp only [cOp, ht, bind, Option.bind_eq_some_iff, Option.some.injEq, O.r.injEq] at hc
        obtain ⟨kk, hk, z, hz, a, ha, b, hb, rfl⟩ := hc
        exact s_lk hp r ho ht hk hz ha hb hv
      | _ => simp only [cOp, ht] at hc; cases hc
  | convert s d x =>
    rw [ho] at hc
    simp only [cOp, bind, Option.bind_eq_some_iff] at hc
    obtain ⟨a, ha, hc⟩ := hc
    cases hs : p.underlying s with
    | none => rw [hs] at hc; cases hc
    | some ds =>
      cases hd : p.underlying d with
      | none => rw [hs, hd] at hc; cases ds <;> cases hc
      | some dd =>
        rw [hs, hd] at hc
        cases ds <;> cases dd <;> first
          | (cases hc; done)
          | (simp at hc; done)
          | (rename_i e
             by_cases he : isU8 p e = true
             · simp only [he, if_true, Option.some.injEq, O.r.injEq, reduceCtorEq] at hc
               subst hc
               exact s_rbs hp r ho hs hd he ha hv
             · simp only [he, if_false, reduceCtorEq, Bool.false_eq_true] at hc)
  | call c =>
    rw [ho] at hc
    simp only [cOp] at hc
    cases hcc : c.callee with
    | value x =>
      simp only [cCall, hcc] at hc
      cases x <;> simp [Option.bind_eq_some_iff] at hc
    | invoke r m => simp only [cCall, hcc] at hc; cases hc
    | builtin bi =>
      cases bi with
      | len =>
        simp only [cCall, hcc] at hc
        cases hts : c.argTypes.toList with
        | nil => rw [hts] at hc; cases hc
        | cons t ts =>
          cases hxs : c.args.toList with
          | nil => rw [hts, hxs] at hc; cases hc
          | cons x xs =>
            rw [hts, hxs] at hc
            simp only [Option.bind_eq_some_iff] at hc
            obtain ⟨a, ha, hc⟩ := hc
            cases ht : p.underlying t with
            | none => simp only [cLen, ht] at hc; cases hc
            | some d =>
              cases d with
              | map k e => simp only [cLen, ht, Option.some.injEq, O.r.injEq] at hc; subst hc; exact s_lm hp r ho hcc hts hxs ht ha hv
              | _ => simp [cLen, ht] at hc
      | append =>
        simp only [cCall, hcc] at hc
        split at hc
        · simp only [Option.bind_eq_some_iff] at hc
          obtain ⟨a, ha, b, hb, hc⟩ := hc
          unfold cApp at hc
          split at hc
          · simp [Option.bind_eq_some_iff] at hc
          · cases hc
        · cases hc
      | max =>
        simp only [cCall, hcc] at hc
        split at hc
        · simp [Option.bind_eq_some_iff] at hc
        · cases hc
      | min =>
        simp only [cCall, hcc] at hc
        split at hc
        · simp [Option.bind_eq_some_iff] at hc
        · cases hc
      | _ => simp only [cCall, hcc] at hc; cases hc
  | move x => rw [ho] at hc; simp [cOp, bind, Option.bind_eq_some_iff] at hc
  | assign x => rw [ho] at hc; simp [cOp, bind, Option.bind_eq_some_iff] at hc
  | pick x y z => rw [ho] at hc; simp [cOp, bind, Option.bind_eq_some_iff] at hc
  | nilCheck x => rw [ho] at hc; simp [cOp, bind, Option.bind_eq_some_iff] at hc
  | extract x i => rw [ho] at hc; simp [cOp, bind, Option.bind_eq_some_iff] at hc
  | binOp op t x y t' => rw [ho] at hc; simp [cOp, bind, Option.bind_eq_some_iff] at hc
  | unOp op t x => rw [ho] at hc; cases op <;> simp [cOp, bind, Option.bind_eq_some_iff] at hc
  | alloc t => rw [ho] at hc; simp [cOp, bind, Option.bind_eq_some_iff] at hc
  | box t x => rw [ho] at hc; simp [cOp, bind, Option.bind_eq_some_iff] at hc
  | store t x y => rw [ho] at hc; simp [cOp, bind, Option.bind_eq_some_iff] at hc
  | makeMap t r => rw [ho] at hc; cases r <;> simp [cOp] at hc
  | makeFunc f a c => rw [ho] at hc; cases f <;> simp [cOp, bind, Option.bind_eq_some_iff] at hc
  | build t ps =>
    rw [ho] at hc
    simp only [cOp, bind, Option.bind_eq_some_iff] at hc
    obtain ⟨z, hz, hc⟩ := hc
    split at hc
    · simp [Option.bind_eq_some_iff] at hc
    · cases hc
  | makeInterface t x =>
    rw [ho] at hc
    simp only [cOp] at hc
    split at hc
    · cases hc
    · simp [bind, Option.bind_eq_some_iff] at hc
    · cases hc
  | fieldAddr t x i =>
    rw [ho] at hc
    simp only [cOp] at hc
    split at hc
    · simp only [bind, Option.bind_eq_some_iff] at hc
      obtain ⟨f, hf, n, hn, hc⟩ := hc
      split at hc
      · cases hc
      · simp [Option.bind_eq_some_iff] at hc
    · cases hc
  | field t x i =>
    rw [ho] at hc
    simp only [cOp] at hc
    split at hc
    · simp [bind, Option.bind_eq_some_iff] at hc
    · cases hc
  | indexAddr t x i =>
    rw [ho] at hc
    simp only [cOp] at hc
    split at hc
    · simp [bind, Option.bind_eq_some_iff] at hc
    · simp [bind, Option.bind_eq_some_iff] at hc
    · cases hc
  | index t x i =>
    rw [ho] at hc
    simp only [cOp] at hc
    split at hc
    · simp [bind, Option.bind_eq_some_iff] at hc
    · cases hc
  | slice t x lo hi mx =>
    rw [ho] at hc
    simp only [cOp] at hc
    split at hc
    · split at hc
      · simp [bind, Option.bind_eq_some_iff] at hc
      · cases hc
    · simp [bind, Option.bind_eq_some_iff] at hc
    · cases hc
  | buildSlice t n ps =>
    rw [ho] at hc
    simp only [cOp] at hc
    split at hc
    · simp [bind, Option.bind_eq_some_iff] at hc
    · cases hc
  | makeSlice t n c =>
    rw [ho] at hc
    simp only [cOp] at hc
    split at hc
    · split at hc
      · simp [bind, Option.bind_eq_some_iff] at hc
      · cases hc
    · cases hc
  | mapUpdate t m k x =>
    rw [ho] at hc
    simp only [cOp] at hc
    split at hc
    · simp [bind, Option.bind_eq_some_iff] at hc
    · cases hc
  | insert t m k x =>
    rw [ho] at hc
    simp only [cOp] at hc
    split at hc
    · simp [bind, Option.bind_eq_some_iff] at hc
    · cases hc
  | _ => rw [ho] at hc; cases hc
end
end Go.Rfx
