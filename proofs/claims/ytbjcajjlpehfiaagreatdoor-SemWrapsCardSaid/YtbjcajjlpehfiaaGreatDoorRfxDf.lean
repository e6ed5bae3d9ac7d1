/- What is proved here: a region whose order is open comes to what its plan says. The condition is the plan's form. -/
import Derived.Test.YtbjcajjlpehfiaaGreatDoorRfxDe
set_option linter.unusedVariables false
set_option linter.unusedSectionVars false
set_option linter.unusedSimpArgs false
set_option linter.constructorNameAsVariable false
namespace Go.Rfx
open Go
variable [Sy]

section
variable {p : Program} {nt : Nat} {ops : Array Oper} {cs : List CO} {l : List St} {pos : Nat → Nat} {pre : Nat → Nat → Bool} {cl : K → List V → H → OR} {nx : K} {Fs : Nat → T V} {hs : Nat → H}
  {φ0 : Phi} {h0 : H} {w0 : World} {X X' : Nat → Prop} {t : Nat} {φ φ' : Phi} {h h' : H} {a : Act} {w w' : World}

theorem Eqs.trans {F G E : T V} {l : List K} (h : Eqs F G l) (k : Eqs G E l) : Eqs F E l := fun x hx => (h x hx).trans (k x hx)
theorem Eqs.symm {F G : T V} {l : List K} (h : Eqs F G l) : Eqs G F l := fun x hx => (h x hx).symm
/-- an operation is done -/
theorem Inv.step (hS : Snd p cl) (P : Plan ops cs l pos pre) (tr : Trace cl nx l Fs hs) (I : Inv p nt ops cs l pos nx Fs hs φ0 h0 w0 X t φ h a w) (cd : ∀ i j, pre i j = true → j < ops.size → X j → X i)
    {j : Nat} {c : CO} {o : Oper} (hj : cs[j]? = some c) (hco : cO p nt ops.toList o = some c) (hX : ∀ i, X' i ↔ X i ∨ i = j) (nX : ¬ X j) (rdy : ∀ i, pre i j = true → X i) :
    (Region.wanted o (yielded ops a.tmps) = true ∧ GoesX (isCall (oOf c)) p a.eval o w fun x w' => ∃ t' φ' h', Inv p nt ops cs l pos nx Fs hs φ0 h0 w0 X' t' φ' h' (a.put o.dst x) w') ∨
      (Region.wanted o (yielded ops a.tmps) = false ∧ ∃ t' φ' h', Inv p nt ops cs l pos nx Fs hs φ0 h0 w0 X' t' φ' h' (a.put o.dst undef) w) := by
  obtain ⟨d, g, q, rfl, hq, hd, hg⟩ := cO_some hco
  have FF := I.slots P tr cd hj nX rdy
  have eqs : Eqs (Fs (pos j)) (only (Fs (pos j)) (Rfx.slots (.mk d g q))) (sG g ++ sO q) := only_eqs _ _
  obtain ⟨b, hw, hcase⟩ := tr.own P hj
  have hwant := want_rel (ops := ops) (o := o) FF hg ((want_congr eqs.left).symm.trans hw)
  have hpl := P.pos_lt hj
  have alt : isAl q = true → t ≤ pos j := by
    intro hal
    rcases I.tm with h1 | ⟨e, ce, h1, h2, h3, h4⟩
    · omega
    · rcases Nat.lt_or_ge (pos e) (pos j) with h5 | h5
      · omega
      · exfalso
        have hne : pos j ≠ pos e := fun hh => by
          have := P.pos_inj hj h1 hh
          subst this
          exact nX h3
        exact nX (cd _ _ (P.al j e _ ce hj h1 hal h2 (by omega)) (P.lt h1) h3)
  have hlt : (kAdd nx j).num < h.nx.num := by
    rw [I.hn, kAdd_num]
    have := I.nn.1
    have := P.lt hj
    omega
  have hnn : φ (kAdd nx j) = none := I.nm j (P.lt hj) nX
  rcases hcase with ⟨rfl, hF, hh⟩ | ⟨rfl, v, hv, hF⟩
  · refine .inr ⟨hwant, ?_⟩
    cases hE : isE q with
    | true =>
      obtain ⟨rg, _, fin⟩ := I.effect (v := .u) (x := undef) P tr cd hj hX nX rdy hd hF hE
      obtain ⟨h', I'⟩ := fin φ w .u (by rw [hh]; exact rg) (by rw [hh]; exact Kp.refl _ _ _ _)
      exact ⟨_, φ, h', I'⟩
    | false =>
      refine ⟨t, φ, h, I.still (v := .u) (x := undef) P hj hX nX hd hF .u I.rw (Kp.refl _ _ _ _) hE rfl ?_⟩
      cases hA : isAl q with
      | false => exact .inl ⟨hA, fun _ => rfl⟩
      | true =>
        refine .inr ⟨hA, alt hA, fun _ _ => rfl, ?_, fun _ => hnn⟩
        have e1 : mkq cs pos nx Fs hs j = none := by
          unfold mkq; rw [hj]
          show (match want (Fs (pos j)) g with | some true => _ | _ => none) = none
          rw [hw]
        rw [e1]
        rcases I.hp (kAdd nx j) with ⟨A, cA, b0, b1, b2, b3, b4, b5⟩ | ⟨b1, b2⟩
        · have := kAdd_inj b4
          subst this
          exact absurd b0 nX
        · rw [b2]; exact I.fr j _ hj hA (alt hA)
  · rcases hq with hq | rfl
    · refine .inl ⟨hwant, ?_⟩
      cases q with
      | e q =>
        obtain ⟨rg, hnx, _⟩ := I.effect (v := v) (x := undef) P tr cd hj hX nX rdy hd hF rfl
        rw [evO_congr eqs.right] at hv
        refine (ops_relX hS (FF.ops rg.gl) rg hnn (by rw [kAdd_num]; have := P.lt hj; omega) hq hv).mono ?_
        rintro x w' ⟨φ', k1, k2, k3⟩
        obtain ⟨_, _, fin⟩ := I.effect (v := v) (x := x) P tr cd hj hX nX rdy hd hF rfl
        obtain ⟨h', I'⟩ := fin φ' w' k1 k2 k3
        exact ⟨_, φ', h', I'⟩
      | p q =>
        obtain ⟨v', h1, h2⟩ := OR_none (show (Option.casesOn (evP (Fs (pos j)) q) .err fun v => .ok v (hs (pos j)) : OR) = .ok v (hs (pos j + 1)) from hv)
        injection h2 with e1 e2
        subst e1
        rw [evP_congr eqs.right] at h1
        have hv' : evO cl (only (Fs (pos j)) (Rfx.slots (.mk d g (.p q)))) (kAdd nx j) h (.p q) = .ok v' h := by
          show vO (evP _ q) h = _
          rw [h1]; rfl
        refine (ops_relX hS (FF.ops I.rw.gl) I.rw hnn hlt hq hv').mono ?_
        rintro x w' ⟨φ', k1, k2, k3⟩
        exact ⟨t, φ', h, I.still P hj hX nX hd hF k1 k2 k3 rfl rfl (.inl ⟨rfl, fun _ => rfl⟩)⟩
      | a q =>
        obtain ⟨⟨v', bb⟩, h1, h2⟩ := OR_none (show (Option.casesOn (evA (Fs (pos j)) (kAdd nx j) q) .err fun r => .ok r.1 ((hs (pos j)).set (kAdd nx j) r.2) : OR) = .ok v (hs (pos j + 1)) from hv)
        injection h2 with e1 e2
        subst e1
        rw [evA_congr eqs.right] at h1
        have hv' : evO cl (only (Fs (pos j)) (Rfx.slots (.mk d g (.a q)))) (kAdd nx j) h (.a q) = .ok v' (h.set (kAdd nx j) bb) := by
          show (Option.casesOn (evA _ _ q) .err fun r => .ok r.1 (h.set (kAdd nx j) r.2) : OR) = _
          rw [h1]
        refine (ops_relX hS (FF.ops I.rw.gl) I.rw hnn hlt hq hv').mono ?_
        rintro x w' ⟨φ', k1, k2, k3⟩
        refine ⟨t, φ', h.set (kAdd nx j) bb, I.still P hj hX nX hd hF k1 k2 k3 rfl (H.nx_set _ _ _) (.inr ⟨rfl, alt rfl, fun n hn => H.get_set_other _ _ hn, ?_, fun hh => by rw [H.get_set_same] at hh; cases hh⟩)⟩
        have e1 : mkq cs pos nx Fs hs j = (hs (pos j + 1)).get (kAdd nx j) := by
          unfold mkq; rw [hj]
          show (match want (Fs (pos j)) g with | some true => _ | _ => none) = _
          rw [hw]
        rw [e1, ← e2, H.get_set_same, H.get_set_same]
      | r q =>
        obtain ⟨v', h1, h2⟩ := OR_none (show (Option.casesOn (evR (Fs (pos j)) (hs (pos j)) q) .err fun v => .ok v (hs (pos j)) : OR) = .ok v (hs (pos j + 1)) from hv)
        injection h2 with e1 e2
        subst e1
        have okr := read_ok (FF.ops I.rw.gl) hq
        -- when it is done, no other effect was
        have main : ∃ t', t ≤ t' ∧ t' ≤ l.length ∧ Calm cs pos t t' ∧ evR (Fs (pos j)) (hs t') q = some v' := by
          rcases Nat.lt_or_ge (pos j) t with hlt' | hge
          · rcases I.tm with h3 | ⟨e, ce, h3, h4, h5, h6⟩
            · omega
            · have hne : pos j ≠ pos e := fun hh => by
                have := P.pos_inj hj h3 hh
                subst this
                exact nX h5
              rcases P.rd j e _ ce hj h3 rfl h4 with h7 | h7 | ⟨h7, t', h8, h9, h10, h11⟩
              · exact absurd (cd _ _ h7 (P.lt h3) h5) nX
              · have := P.topo e j (P.lt h3) (P.lt hj) h7; omega
              · have hlt2 : t' < l.length := (List.getElem?_eq_some_iff.1 h8).1
                have hslot : Eqs (Fs (pos j)) (Fs t') (Rfx.slots (.mk d g (.r q))) := by
                  intro k hk
                  refine tr.slot P t' (by omega) (by omega) fun u cu g1 g2 hh => ?_
                  have := h11 u cu k g1 g2 hk hh.2
                  omega
                have hslot' : Eqs (Fs (pos j)) (Fs t') (sG g ++ sO (.r q)) := hslot
                obtain ⟨_, _, b', hb', hchk⟩ := tr.c _ _ _ h8
                have hb2 : want (Fs t') g = some b' := hb'
                rw [← want_congr hslot'.left, hw] at hb2
                injection hb2 with hb2
                obtain ⟨q', d', v2, g1, g2, g3, g4⟩ := hchk hb2.symm
                injection (show O.r q = O.r q' from g1) with g1
                subst g1
                have g2' : d = some d' := g2
                subst g2'
                have hsl := tr.slot P (s := d') (t1 := pos j + 1) t' (by omega) (by omega) fun u cu f1 f2 hh => by
                  have := P.wr _ _ _ _ _ f1 hj f2 rfl
                  subst this
                  omega
                have hval : T.get d' (Fs (pos j + 1)) = some v' := by rw [hF]; exact putF_same
                rw [hsl, g4] at hval
                injection hval with hval
                subst hval
                refine ⟨t', by omega, by omega, fun e2 ce2 f1 f2 hh => ?_, ?_⟩
                · have := h10 e2 ce2 f1 f2 hh.2
                  omega
                · rw [evR_congr hslot'.right]; exact g3
          · refine ⟨pos j, hge, by omega, fun e ce f1 f2 hh => ?_, h1⟩
            have hnX : ¬ X e := fun hx => by have := (I.tau e ce f1 f2).1 hx; omega
            rcases P.rd j e _ ce hj f1 rfl f2 with h7 | h7 | ⟨h7, _⟩
            · have := P.topo j e (P.lt hj) (P.lt f1) h7; omega
            · exact hnX (rdy e h7)
            · omega
        obtain ⟨t', m1, m2, m3, m4⟩ := main
        rw [evR_congr eqs.right] at m4
        have m5 := evR_has (I.has P tr m1 m2 m3) I.rw okr m4
        have hv' : evO cl (only (Fs (pos j)) (Rfx.slots (.mk d g (.r q)))) (kAdd nx j) h (.r q) = .ok v' h := by
          show vO (evR _ h q) h = _
          rw [m5]; rfl
        refine (ops_relX hS (FF.ops I.rw.gl) I.rw hnn hlt hq hv').mono ?_
        rintro x w' ⟨φ', k1, k2, k3⟩
        exact ⟨t, φ', h, I.still P hj hX nX hd hF k1 k2 k3 rfl rfl (.inl ⟨rfl, fun _ => rfl⟩)⟩
    · cases hv
end
end Go.Rfx
