/- What is proved here: appending: in Go's own run a slice comes, and memory, that are related to the evaluator's. The conditions are the relations of operands and of memory. -/
import Derived.Test.YtbjcajjlpehfiaaGreatDoorRfxQ
import Derived.Laws.Append
set_option linter.unusedVariables false
set_option linter.unusedSectionVars false
set_option linter.unusedSimpArgs false
set_option linter.constructorNameAsVariable false
namespace Go.Rfx
open Go
variable [Sy]
section
variable {p : Program} {φ : Phi} {F : T V} {ρ : Operand → Value} {h h' : H} {w : World} {o : Oper} {v : V} {nid : K}

/-- what is appended -/
theorem news_rel (r : RW p φ h w) {sz m : Nat} {q : V} {x : Value} {l : List V} (hx : RV φ q x) (hn : news h sz q = some (m, l)) :
    ∃ xs : Array Value, RVs φ l xs.toList ∧ l.length = m * sz ∧ (Builtin.lenOf x).run p w = .ok m w ∧ ∀ w' : World, w'.heap = w.heap → (Builtin.firstCells sz m x).run p w' = .ok xs w' := by
  cases q with
  | s l0 =>
    obtain ⟨h1, h2⟩ := bcT (show (Bool.casesOn (Nat.beq sz 1) none (nF (lenL l0) fun n => lF (bytesV l0) fun l => some (n, l)) : Option (Nat × List V)) = some (m, l) from hn)
    rw [nF_eq, lF_eq, Option.some.injEq] at h2
    injection h2 with e1 e2
    subst e1; subst e2
    have h1' := (beq_iff _ _).1 h1
    subst h1'
    cases hx with | s _ s hs =>
    subst hs
    have hl : lenL (s.data.toList.map UInt8.toNat) = s.size := by rw [lenL_eq, List.length_map]; rfl
    rw [hl]
    have hr := bytesV_rel (φ := φ) s.data.toList
    have hrow : (s.data.map fun b => Value.int .u8 (b.toNat : Int)).toList = s.data.toList.map fun b => Value.int .u8 (b.toNat : Int) := by simp
    refine ⟨s.data.map fun b => .int .u8 (b.toNat : Int), by rw [hrow]; exact hr, ?_, rfl, fun w' _ => ?_⟩
    · rw [hr.length, List.length_map, Nat.mul_one]; rfl
    · have hx : (s.extract 0 s.size).data = s.data := by
        rw [ByteArray.data_extract]
        exact Array.extract_size
      simp only [Builtin.firstCells, hx, Sem.run_pure]
  | sn =>
    injection (show (some (0, []) : Option (Nat × List V)) = some (m, l) from hn) with h2
    injection h2 with e1 e2
    subst e1; subst e2
    cases hx
    exact ⟨#[], .nil, by simp, rfl, fun w' _ => rfl⟩
  | sl i o n c =>
    obtain ⟨l', hl, h2⟩ := ob_eq.1 (show ob (loadC h i o (Nat.mul n sz)) (fun l => some (n, l)) = some (m, l) from hn)
    injection h2 with h2
    injection h2 with e1 e2
    subst e1; subst e2
    obtain ⟨b, hb, h3⟩ := ob_eq.1 hl
    obtain ⟨cs, ro, cl, rfl, h4⟩ := bC_some h3
    obtain ⟨h5, rfl⟩ := takeL_some.1 h4
    rw [dropL_eq] at h5 ⊢
    cases hx with | sl _ _ _ _ cap ri hri hc =>
    have h5' : n * sz ≤ cs.length - o := by rw [List.length_drop] at h5; exact h5
    obtain ⟨xs, hxs, hlen, hrel⟩ := r.loads hb hri (o := o) h5'
    refine ⟨xs.toArray, by simpa using hrel, ?_, rfl, fun w' hw => ?_⟩
    · exact hrel.length.trans hlen
    · obtain ⟨xs', hxs', hlen', hrel'⟩ := (r.heap hw).loads hb hri (o := o) h5'
      have : xs' = xs := by
        have e1 : ∀ j, j < n * sz → w'.cell? ((⟨ri.b, o, none⟩ : Addr).add j) = w.cell? ((⟨ri.b, o, none⟩ : Addr).add j) := fun j hj => by simp [World.cell?, hw]
        have key : ∀ j, j < n * sz → ∃ x, w.cell? ((⟨ri.b, o, none⟩ : Addr).add j) = some x := by
          intro j hj
          obtain ⟨x, hx, _⟩ := r.cell hb hri (List.getElem?_eq_getElem (show o + j < cs.length by omega))
          exact ⟨x, by rw [Addr.add_lit]; exact hx⟩
        let f : Nat → Value := fun j => (w.cell? ((⟨ri.b, o, none⟩ : Addr).add j)).getD undef
        have hf : ∀ j, j < n * sz → w.cell? ((⟨ri.b, o, none⟩ : Addr).add j) = some (f j) := by
          intro j hj
          obtain ⟨x, hx⟩ := key j hj
          show _ = some ((w.cell? ((⟨ri.b, o, none⟩ : Addr).add j)).getD undef)
          rw [hx]; rfl
        have a1 := run_loadCells (P := p) w ⟨ri.b, o, none⟩ (n * sz) f hf
        have a2 := run_loadCells (P := p) w' ⟨ri.b, o, none⟩ (n * sz) f (fun j hj => (e1 j hj).trans (hf j hj))
        have b1 := a1.symm.trans hxs
        have b2 := a2.symm.trans hxs'
        injection b1 with b1 _
        injection b2 with b2 _
        have := congrArg Array.toList (b2.symm.trans b1)
        simpa using this
      rw [this] at hxs'
      exact hxs'
  | _ => cases hn

/-- the slice has room -/
theorem run_append_in {t u ty e : TypeId} {d : TypeDesc} {sz m n cap : Nat} {a : Addr} {x : Value} {xs : Array Value} {w' : World} (ht : p.underlying t = some (.slice e)) (hu : p.underlying u = some d) (hd : isSeq d = true) (hsz : tSize p e = some sz)
    (hl : (Builtin.lenOf x).run p w = .ok m w) (hx : (Builtin.firstCells sz m x).run p w = .ok xs w) (hle : n + m ≤ cap) (hst : (storeCells (a.add (n * sz)) xs.toList).run p w = .ok () w') :
    (Builtin.append_ #[t, u] ty #[.slice (some a) n cap, x]).run p w = .ok (.slice (some a) (n + m) cap) w' := by
  cases d with
  | slice e' => simp [Builtin.append_, run_underlying ht, run_underlying hu, tSize_run hsz, hl, hx, hle, hst]
  | string => simp [Builtin.append_, run_underlying ht, run_underlying hu, tSize_run hsz, hl, hx, hle, hst]
  | _ => cases hd
/-- it has no room -/
theorem run_append_out {t u ty e : TypeId} {d : TypeDesc} {i : TypeInfo} {zv : Value} {sz m n cap : Nat} {base : Option Addr} {x : Value} {old xs : Array Value} (ht : p.underlying t = some (.slice e)) (hu : p.underlying u = some d) (hd : isSeq d = true)
    (hi : p.info? e = some i) (hz : i.zero = some zv) (hb : i.bytes ≤ 65536) (hsz : tSize p e = some sz)
    (hl : (Builtin.lenOf x).run p w = .ok m w) (hx : ∀ w' : World, w'.heap = w.heap → (Builtin.firstCells sz m x).run p w' = .ok xs w') (ho : ∀ w' : World, w'.heap = w.heap → (Builtin.firstCells sz n (.slice base n cap)).run p w' = .ok old w') (hlt : cap < n + m) (hm : n + m ≤ 200000) :
    ∃ cap', n + m ≤ cap' ∧ (Builtin.append_ #[t, u] ty #[.slice base n cap, x]).run p w = .ok (.slice (some ⟨w.heap.size, 0, none⟩) (n + m) cap') { w with drawn := w.drawn + 1, heap := w.heap.push (.cells (old ++ xs ++ Builtin.zeroCells zv.cells (cap' - (n + m))) e) } := by
  have h63 : ¬ (9223372036854775807 < ((n : Int) + (m : Int))) := by omega
  have hmul : (n + m) * i.bytes ≤ 200000 * 65536 := Nat.mul_le_mul hm hb
  have h48 := growslice_fits (bytes := i.bytes) hlt (by omega)
  have h48' : ¬ (281474976710656 < Builtin.nextslicecap (n + m) cap * i.bytes) := by omega
  have hn : ¬ (n + m ≤ cap) := by omega
  refine ⟨grownCap w (n + m) cap e, by show n + m ≤ n + m + _; omega, ?_⟩
  have hx' := hx w.drew rfl
  have ho' := ho w.drew rfl
  have hzero : ∀ w' : World, (zeroValue e).run p w' = .ok zv w' := fun w' => by simp [zeroValue, typeInfo, hi, hz]
  have hinfo : ∀ w' : World, (typeInfo e).run p w' = .ok i w' := fun w' => by simp [typeInfo, hi]
  cases d with
  | slice e' => simp [Builtin.append_, run_underlying ht, run_underlying hu, tSize_run hsz, hinfo, hzero, hl, hn, h63, h48', Question.forced, hx', ho', newRow, grownCap]; rfl
  | string => simp [Builtin.append_, run_underlying ht, run_underlying hu, tSize_run hsz, hinfo, hzero, hl, hn, h63, h48', Question.forced, hx', ho', newRow, grownCap]; rfl
  | _ => cases hd

theorem zeroCells_size (z : Array Value) (n : Nat) : (Builtin.zeroCells z n).size = n * z.size := by simp [Builtin.zeroCells]

/-- a slice that grew: a new block -/
theorem grown (r : RW p φ h w) (hn : φ nid = none) (hlt : nid.num < h.nx.num) {e : TypeId} {zc : Array Value} {sz m cap' : Nat} {l : List V} {xs : Array Value} (hz : zc.size = sz) (hrel : RVs φ l xs.toList) (hl : l.length = m * sz) (hle : m ≤ cap') :
    ∃ φ', RV φ' (.sl nid 0 m (.o sz)) (.slice (some ⟨w.heap.size, 0, none⟩) m cap') ∧
      RW p φ' (h.set nid (.c l false true)) { w with drawn := w.drawn + 1, heap := w.heap.push (.cells (xs ++ Builtin.zeroCells zc (cap' - m)) e) } ∧
      Kp (· = nid) φ h w φ' (h.set nid (.c l false true)) { w with drawn := w.drawn + 1, heap := w.heap.push (.cells (xs ++ Builtin.zeroCells zc (cap' - m)) e) } := by
  have hext : Ext φ (φ.put nid ⟨w.heap.size, cap' * sz⟩) := Phi.put_ext hn
  have hsz : (xs ++ Builtin.zeroCells zc (cap' - m)).size = cap' * sz := by
    have h1 := hrel.length
    have h2 : xs.toList.length = xs.size := by simp
    rw [Array.size_append, zeroCells_size, hz, ← h2, ← h1, hl, ← Nat.add_mul]
    congr 1
    omega
  obtain ⟨k1, k2⟩ := r.make (w' := { w with drawn := w.drawn + 1, heap := w.heap.push (.cells (xs ++ Builtin.zeroCells zc (cap' - m)) e) }) (n := cap' * sz) (b := .c l false true) hn hlt rfl rfl rfl rfl
    (RB.ofp hsz (by rw [Array.toList_append, ← List.append_nil l]; exact RVp.append (hrel.mono hext) (fun j v hv => by simp at hv)) (fun _ j hj hh => by simp at hh) (fun _ => rfl))
  have hcap : capOk (.o sz) m 0 cap' ⟨w.heap.size, cap' * sz⟩ := ⟨hle, by show 0 + cap' * sz ≤ cap' * sz; omega⟩
  exact ⟨_, .sl _ _ _ _ _ _ (Phi.put_same _ _ _) hcap, k1, k2⟩

theorem s_ap {c : Call} {t u e : TypeId} {d : TypeDesc} {sz : Nat} {x y : Operand} {z : List V} {a b : A} (hp : OpR p φ F ρ) (r : RW p φ h w) (hn : φ nid = none) (hlt : nid.num < h.nx.num) (ho : o.op = .call c) (hc : c.callee = .builtin .append)
    (hts : c.argTypes.toList = [t, u]) (hxs : c.args.toList = [x, y]) (ht : p.underlying t = some (.slice e)) (hu : p.underlying u = some d) (hd : isSeq d = true) (hf : bytesFit p e = true) (hsz : tSize p e = some sz) (hz : tZero p e = some z)
    (ha : cA p x = some a) (hb : cA p y = some b) (hv : eAp F nid h sz a b = .ok v h') :
    ∃ xv w' φ', (execOp ρ o).run p w = .ok (.value xv) w' ∧ RV φ' v xv ∧ RW p φ' h' w' ∧ Kp (· = nid) φ h w φ' h' w' := by
  have v0 := okO_ok hv
  obtain ⟨q, hx, v1⟩ := hp.take ha v0
  obtain ⟨q2, hy, v2⟩ := hp.take hb v1
  obtain ⟨⟨m, l⟩, hnew, v3⟩ := ob_eq.1 v2
  obtain ⟨hm, v4⟩ := bcT v3
  obtain ⟨h1, v5⟩ := bcT v4
  have hm' : m ≤ 100000 := by simpa using hm
  obtain ⟨xs, hrel, hlen, hlo, hfc⟩ := news_rel r hy hnew
  obtain ⟨i, zv, hi, hzv, hbytes⟩ := bytesFit_some hf
  obtain ⟨i', zv', hi', hzv', hzr, hzl⟩ := tZero_rel (φ := φ) hz
  rw [hi] at hi'; injection hi' with hi'; subst hi'
  rw [hzv] at hzv'; injection hzv' with hzv'; subst hzv'
  have hsz' : sz = i.size := by simp only [tSize, hi, Option.map_some, Option.some.injEq] at hsz; exact hsz.symm
  have hzs : zv.cells.size = sz := by have := hzr.length; rw [hsz', ← hzl, this]; simp
  have hone := ones_rel hrel h1
  have hargs : c.args.map ρ = #[ρ x, ρ y] := by apply Array.ext'; simp [hxs]
  have hty : c.argTypes = #[t, u] := by apply Array.ext'; simp [hts]
  have hrun : ∀ xv w', (Builtin.append_ #[t, u] o.type #[ρ x, ρ y]).run p w = .ok xv w' → (execOp ρ o).run p w = .ok (.value xv) w' := by
    intro xv w' hh
    simp [execOp, ho, resolve, hc, invoke, builtin, hargs, hty, hh]
  generalize hρ : ρ x = rx at hx hrun
  rcases bc v5 with ⟨hm0, v6⟩ | ⟨hm0, v6⟩
  · have hmne : m ≠ 0 := fun e => by rw [e] at hm0; cases hm0
    rcases slK_some v6 with ⟨rfl, v7⟩ | ⟨i1, o1, n, cp, rfl, v7⟩
    · injection v7 with v7
      injection v7 with e1 e2
      subst e1; subst e2
      cases hx
      obtain ⟨cap', hc1, hc2⟩ := run_append_out (ty := o.type) (n := 0) (cap := 0) (base := none) (old := #[]) ht hu hd hi hzv hbytes hsz hlo hfc (fun w' _ => rfl) (by omega) (by omega)
      rw [Nat.zero_add] at hc1 hc2
      obtain ⟨φ', f1, f2, f3⟩ := grown (e := e) r hn hlt hzs hrel hlen hc1
      exact ⟨_, _, φ', hrun _ _ (by simpa using hc2), f1, f2, f3⟩
    · obtain ⟨hnn, v8⟩ := bcT v7
      have hn' : n ≤ 100000 := by simpa using hnn
      injection v8 with v8
      have v9 := okO_ok v8
      obtain ⟨bb, hbb, v10⟩ := ob_eq.1 v9
      obtain ⟨cs, ro, cl, rfl, v11⟩ := bC_some v10
      cases hx with | sl _ _ _ _ cap ri hri hcap =>
      -- a slice's own cells
      have olds : n * sz ≤ cs.length - o1 → ∃ ys : Array Value, RVs φ ((cs.drop o1).take (n * sz)) ys.toList ∧ ∀ w' : World, w'.heap = w.heap → (Builtin.firstCells sz n (.slice (some ⟨ri.b, o1, none⟩) n cap)).run p w' = .ok ys w' := by
        intro hle
        obtain ⟨ys, g1, _, _, g2⟩ := news_rel (sz := sz) (m := n) (q := .sl i1 o1 n cp) (l := (cs.drop o1).take (n * sz)) r (.sl _ _ _ _ cap _ hri hcap)
          (show ob (loadC h i1 o1 (Nat.mul n sz)) (fun l => some (n, l)) = _ from ob_eq.2 ⟨_, ob_eq.2 ⟨_, hbb, takeL_some.2 ⟨by rw [dropL_eq, List.length_drop]; exact hle, rfl⟩⟩, by rw [dropL_eq]; rfl⟩)
        exact ⟨ys, g1, g2⟩
      cases cp with
      | x c0 =>
        have hcap' : cap = c0 := hcap
        subst hcap'
        rcases bc v11 with ⟨hle, v12⟩ | ⟨hle, v12⟩
        · have hle' : ¬ n + m ≤ cap := fun hh => by
            have : Nat.ble (Nat.add n m) cap = true := Nat.ble_eq_true_of_le hh
            rw [this] at hle; cases hle
          obtain ⟨old, hold, v13⟩ := ob_eq.1 v12
          rw [nF_eq, lF_eq, Option.some.injEq] at v13
          injection v13 with e1 e2
          subst e1; subst e2
          obtain ⟨g1, rfl⟩ := takeL_some.1 hold
          rw [dropL_eq] at g1
          obtain ⟨ys, g2, g3⟩ := olds (by rw [List.length_drop] at g1; exact g1)
          obtain ⟨cap', hc1, hc2⟩ := run_append_out (ty := o.type) ht hu hd hi hzv hbytes hsz hlo hfc g3 (by omega) (by omega)
          have hlen' : (appL (List.take (n.mul sz) (dropL cs o1)) l).length = (n + m) * sz := by
            rw [appL_eq, List.length_append, hlen, dropL_eq, List.length_take, Nat.add_mul]
            have : min (n.mul sz) (cs.drop o1).length = n * sz := Nat.min_eq_left g1
            rw [this]
          obtain ⟨φ', f1, f2, f3⟩ := grown (e := e) (xs := ys ++ xs) r hn hlt hzs (by rw [appL_eq, dropL_eq, Array.toList_append]; exact g2.append hrel) hlen' hc1
          exact ⟨_, _, φ', hrun _ _ hc2, f1, f2, f3⟩
        · have hle' : n + m ≤ cap := Nat.le_of_ble_eq_true hle
          obtain ⟨rfl, v13⟩ := bcF v12
          obtain ⟨cs', hcs, v14⟩ := ob_eq.1 v13
          rw [nF_eq, Option.some.injEq] at v14
          injection v14 with e1 e2
          subst e1; subst e2
          obtain ⟨g1, rfl⟩ := overL_some.1 hcs
          obtain ⟨w', k1, k2, k3⟩ := r.over hbb hri hrel hone g1
          refine ⟨_, w', φ, hrun _ _ (run_append_in (ty := o.type) (a := ⟨ri.b, o1, none⟩) (xs := xs) ht hu hd hsz hlo (hfc w rfl) hle' ?_), .sl _ _ _ _ _ _ hri rfl, k2, k3.weaken fun _ hh => hh.elim⟩
          rw [Addr.add_lit]
          exact k1
      | o z0 =>
        obtain ⟨hc1, hc2⟩ : n ≤ cap ∧ o1 + cap * z0 ≤ ri.n := hcap
        obtain ⟨ho1, v12⟩ := bcT v11
        have ho1' := (beq_iff _ _).1 ho1
        subst ho1'
        obtain ⟨rfl, v13⟩ := bcF v12
        obtain ⟨rfl, v14⟩ := bcT v13
        obtain ⟨hz0, v15⟩ := bcT v14
        have hz0' := (beq_iff _ _).1 hz0
        subst hz0'
        obtain ⟨hcl, v16⟩ := bcT v15
        have hcl' : cs.length = n * sz := by have := (beq_iff _ _).1 hcl; rw [lenL_eq] at this; exact this
        rw [nF_eq, lF_eq, Option.some.injEq] at v16
        injection v16 with e1 e2
        subst e1; subst e2
        have hlen' : (appL cs l).length = (n + m) * sz := by rw [appL_eq, List.length_append, hlen, hcl', Nat.add_mul]
        by_cases hroom : n + m ≤ cap
        · obtain ⟨cur, t', fr, q1, q2, q3, q4, q5⟩ := r.cellsAt hbb hri
          have hroom' : (n + m) * sz ≤ cap * sz := Nat.mul_le_mul_right _ hroom
          have hxl := hrel.length
          have hxl' : xs.toList.length = xs.size := by simp
          obtain ⟨w', cur', e1, e2, e3, e4, e5, e6, e7, e8⟩ := run_st p ri.b (0 + n * sz) t' fr xs.toList 0 cur w q1 (fun j hj => q4 rfl j (by omega)) (by rw [Nat.add_mul] at hroom'; omega) hone
          have hsz2 : cur'.size = ri.n := by
            have := congrArg List.length e3
            simp only [List.length_append, List.length_take, List.length_drop, Nat.add_zero] at this
            have a1 : cur'.toList.length = cur'.size := by simp
            have a2 : cur.toList.length = cur.size := by simp
            rw [a1, a2] at this
            rw [Nat.add_mul] at hroom'
            omega
          have hext : Ext φ (φ.put nid ri) := Phi.put_ext hn
          obtain ⟨k1, k2⟩ := r.move (w' := w') (b1 := .c (appL cs l) false true) hbb hri rfl rfl hn hlt e2 e4 e5 e6 e7 e8 (RB.ofp hsz2 (by
            rw [e3, appL_eq]
            refine RVp.append (RVs.mono hext (RVs.of_get ?_ fun j v hv => ?_)) (by rw [← List.append_nil l]; exact RVp.append (hrel.mono hext) (fun j v hv => by simp at hv))
            · have a2 : cur.toList.length = cur.size := by simp
              rw [List.length_take, a2, hcl']
              rw [Nat.add_mul] at hroom'
              omega
            · obtain ⟨x, hx, hr⟩ := q3 j v hv
              refine ⟨x, ?_, hr⟩
              rw [List.getElem?_take, if_pos ?_]
              · exact hx
              · have := (List.getElem?_eq_some_iff.1 hv).1
                omega) (fun _ => q4 rfl) q5)
          have hcap2 : capOk (.o sz) (n + m) 0 cap ri := ⟨hroom, hc2⟩
          refine ⟨_, w', _, hrun _ _ (run_append_in (ty := o.type) (a := ⟨ri.b, 0, none⟩) (xs := xs) ht hu hd hsz hlo (hfc w rfl) hroom ?_), .sl _ _ _ _ _ _ (Phi.put_same _ _ _) hcap2, k1, k2⟩
          rw [Addr.add_lit]
          exact e1
        · obtain ⟨ys, g2, g3⟩ := olds (by omega)
          obtain ⟨cap', hd1, hd2⟩ := run_append_out (ty := o.type) ht hu hd hi hzv hbytes hsz hlo hfc g3 (by omega) (by omega)
          have hg2 : RVs φ cs ys.toList := by
            have : (cs.drop 0).take (n * sz) = cs := by rw [List.drop_zero, ← hcl', List.take_length]
            rw [this] at g2; exact g2
          obtain ⟨φ', f1, f2, f3⟩ := grown (e := e) (xs := ys ++ xs) (r.drop i1) hn (by rw [H.nx_del]; exact hlt) hzs (by rw [appL_eq, Array.toList_append]; exact hg2.append hrel) hlen' hd1
          exact ⟨_, _, φ', hrun _ _ hd2, f1, f2, ((Kp.drop i1).weaken (fun _ hh => hh.elim)).trans f3 (fun _ hh => hh)⟩
  · have hm0' := (beq_iff _ _).1 hm0
    subst hm0'
    have hl0 : xs.toList = [] := by
      have a := hrel.length
      rw [Nat.zero_mul] at hlen
      cases hq : xs.toList with
      | nil => rfl
      | cons _ _ => rw [hq] at a; simp at a; omega
    rcases slK_some v6 with ⟨rfl, v7⟩ | ⟨i1, o1, n, cp, rfl, v7⟩
    · injection v7 with v7
      injection v7 with e1 e2
      subst e1; subst e2
      cases hx
      refine ⟨.slice none 0 0, w, φ, hrun _ _ ?_, .sn, r, Kp.refl _ _ _ _⟩
      cases d with
      | slice e' => simp [Builtin.append_, run_underlying ht, run_underlying hu, tSize_run hsz, hlo, hfc w rfl]
      | string => simp [Builtin.append_, run_underlying ht, run_underlying hu, tSize_run hsz, hlo, hfc w rfl]
      | _ => cases hd
    · cases hx with | sl _ _ _ _ cap ri hri hcap =>
      have fin : n ≤ cap → (execOp ρ o).run p w = .ok (.value (.slice (some ⟨ri.b, o1, none⟩) n cap)) w := by
        intro hh
        exact hrun _ _ (by simpa using run_append_in (ty := o.type) (a := ⟨ri.b, o1, none⟩) (n := n) (cap := cap) (xs := xs) (w' := w) ht hu hd hsz hlo (hfc w rfl) (by omega) (by rw [hl0]; rfl))
      cases cp with
      | x c0 =>
        obtain ⟨hb0, v8⟩ := bcT v7
        injection v8 with v8
        injection v8 with e1 e2
        subst e1; subst e2
        have hcap' : cap = c0 := hcap
        exact ⟨_, w, φ, fin (by rw [hcap']; exact Nat.le_of_ble_eq_true hb0), .sl _ _ _ _ _ _ hri hcap, r, Kp.refl _ _ _ _⟩
      | o z0 =>
        injection v7 with v8
        injection v8 with e1 e2
        subst e1; subst e2
        exact ⟨_, w, φ, fin hcap.1, .sl _ _ _ _ _ _ hri hcap, r, Kp.refl _ _ _ _⟩
end
end Go.Rfx
