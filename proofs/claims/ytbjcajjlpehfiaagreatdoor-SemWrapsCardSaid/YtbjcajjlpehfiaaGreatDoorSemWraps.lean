/- What is proved here: 'SemWraps' returns true whatever the two numbers, and what came in stays. The condition is the card's own: the tied variables. -/
import Derived.Test.YtbjcajjlpehfiaaGreatDoorSemWrapsWa
import Derived.Test.YtbjcajjlpehfiaaGreatDoorCards
import Derived.Test.YtbjcajjlpehfiaaGreatDoorTie
import Derived.SevenTiedAt
set_option maxRecDepth 100000
namespace Go.Proofs.YtbjcajjlpehfiaaGreatDoor.semWraps
open Go.ChangeShapes Go.WideShapes Go.ChangeAt Go.RowKit Go Go.Rfx
set_option linter.unusedVariables false

theorem eMin : Int.negSucc 9223372036854775807 = -9223372036854775808 := rfl
theorem eMax : Int.ofNat 9223372036854775807 = 9223372036854775807 := rfl
theorem eTop : Int.ofNat 576460752303423488 = 576460752303423488 := rfl
theorem eOver : Int.ofNat 576460752303423489 = 576460752303423489 := rfl
theorem eZ : Int.ofNat 0 = 0 := rfl
theorem eM1 : Int.negSucc 0 = -1 := rfl

theorem walk (a0 b0 : Int) (ha : -9223372036854775808 ≤ a0 ∧ a0 ≤ 9223372036854775807) (hb : -9223372036854775808 ≤ b0 ∧ b0 ≤ 9223372036854775807) (w : World) (h : laidMetH Tryz.prog laidL w) :
    Calls Tryz.prog 9 #[.int .i64 a0, .int .i64 b0] w fun e w' => e = .returned (.bool true) ∧ Stays w w' := by
  letI : Sy := ⟨fun n => if n = 0 then a0 else b0⟩
  have key : ∀ lo hi lo' hi' : Int, okT (evF rtab 300 80 (.l (.r (.l .e))) [.y lo hi (.v 0), .y lo' hi' (.v 1)] (base gs nx0)) = true → lo ≤ a0 → a0 ≤ hi → lo' ≤ b0 → b0 ≤ hi' →
      Calls Tryz.prog 9 #[.int .i64 a0, .int .i64 b0] w fun e w' => e = .returned (.bool true) ∧ Stays w w' := fun lo hi lo' hi' hev h1 h2 h3 h4 =>
    (calls_base (f := (.l (.r (.l .e)))) (sz := szs) rsnd g_hk g_hn g_hlt hev (args := #[.int .i64 a0, .int .i64 b0]) (.cons _ _ _ _ (.y lo hi (.v 0) h1 h2) (.cons _ _ _ _ (.y lo' hi' (.v 1) h3 h4) .nil)) w (g_laid h)).mono fun e w' hh => ⟨hh.1, hh.2.stays⟩
  by_cases c1 : a0 < 0
  · exact key (Int.negSucc 9223372036854775807) (Int.negSucc 0) (Int.negSucc 9223372036854775807) (Int.ofNat 9223372036854775807) w1 (by rw [eMin]; omega) (by rw [eM1]; omega) (by rw [eMin]; omega) (by rw [eMax]; omega)
  by_cases c2 : 576460752303423488 < a0
  · exact key (Int.ofNat 576460752303423489) (Int.ofNat 9223372036854775807) (Int.negSucc 9223372036854775807) (Int.ofNat 9223372036854775807) w2 (by rw [eOver]; omega) (by rw [eMax]; omega) (by rw [eMin]; omega) (by rw [eMax]; omega)
  by_cases c3 : b0 < 0
  · exact key (Int.ofNat 0) (Int.ofNat 576460752303423488) (Int.negSucc 9223372036854775807) (Int.negSucc 0) w3 (by rw [eZ]; omega) (by rw [eTop]; omega) (by rw [eMin]; omega) (by rw [eM1]; omega)
  by_cases c4 : 576460752303423488 < b0
  · exact key (Int.ofNat 0) (Int.ofNat 576460752303423488) (Int.ofNat 576460752303423489) (Int.ofNat 9223372036854775807) w4 (by rw [eZ]; omega) (by rw [eTop]; omega) (by rw [eOver]; omega) (by rw [eMax]; omega)
  · exact key (Int.ofNat 0) (Int.ofNat 576460752303423488) (Int.ofNat 0) (Int.ofNat 576460752303423488) w5 (by rw [eZ]; omega) (by rw [eTop]; omega) (by rw [eZ]; omega) (by rw [eTop]; omega)

theorem i64_wf {n : Int} (h : (Lit.int .i64 n).wf = true) : -9223372036854775808 ≤ n ∧ n ≤ 9223372036854775807 := by
  simp only [Lit.wf, IntKind.min, IntKind.max, IntKind.signed, IntKind.bits, Bool.and_eq_true, decide_eq_true_eq, if_true] at h
  omega

theorem lifted (os : Os) (started : os.Started) (H : Type) (enc : TypeId × Value → H) :
    ReturnsInHanded {} Tryz.checked os 9 .any (fun w args => (Rows.semWrapsSpec.pre enc Tryz.prog Tryz.f9 [] false w args ∧ laidMetH Tryz.prog laidL w) ∧ sizedMet enc Tryz.prog Tryz.f9 (OpenSpec.ofChange Rows.semWrapsSpec) false w args)
      (Rows.semWrapsSpec.post enc Tryz.prog Tryz.f9 false true false false) := by
  letI : Sy := ⟨fun _ => 0⟩
  refine returnsInHanded_of_change_and (C := Tryz.checked) (X := fun w _ => laidMetH Tryz.prog laidL w) (fun _ _ _ hh h => h.of_heap hh) own started (by kernel_rfl) Tryz.func9
    (ChangeSpec.witness_shaped (enc := enc) (C := Tryz.checked) (os := os) (X := fun w _ => laidMetH Tryz.prog laidL w) false (World.doorLaid Tryz.prog 400 os) #[.int .i64 0, .int .i64 0] 8 rfl (World.shaped_of_RefB (by kernel_rfl) (by kernel_rfl)) (by kernel_rfl) (by kernel_rfl) (by kernel_rfl) (door_met os _)) ?_
  intro W base args ds gs before hval0 hW _ _ hL _
  have hval : ∀ (j : Nat) t v, Tryz.f9.params[j]? = some t → args[j]? = some v → Value.okWide Tryz.prog W .any base t v := hval0
  have hW' := hW
  obtain ⟨p, q, hA0, hV, rfl, hfz, hnd⟩ := hW
  have hA : DataW.TrodAll enc Tryz.prog W 0 (fun _ => true) true Tryz.f9.params.toList args.toList ds p := hA0
  rw [Tryz.params9] at hA hval
  obtain ⟨v0, v1, d0, d1, p0, p1, rfl, rfl, rfl, h0, h1⟩ := trodAll_two hA
  obtain ⟨rfl, rfl⟩ := trodVars_none hV
  obtain ⟨a0, rfl, rfl, rfl, w0⟩ := open_int Tryz.underlying2 (hval 0 2 v0 rfl rfl) h0
  obtain ⟨a1, rfl, rfl, rfl, w1⟩ := open_int Tryz.underlying2 (hval 1 2 v1 rfl rfl) h1
  clear hA0 hval0
  simp only [List.append_nil] at hW'
  refine (walk a0 a1 (i64_wf w0) (i64_wf w1) W hL).mono fun e W' ⟨he, hg⟩ => ?_
  subst he
  exact ⟨_, rfl, _, _, _, [], [], [], hW', trodAll_cons_mk (shut_bool Tryz.underlying4 _) trodAll_mk0, trodAll_cons_mk (shut_int Tryz.underlying2 w0) (trodAll_cons_mk (shut_int Tryz.underlying2 w1) trodAll_mk0), rfl,
    World.keptBut_mono (fun p hp => hp.elim) hg, fun h => by cases h⟩

theorem over : Rows.SemWrapsSaid :=
  OpenClaim.holds_of_wide 9 Tryz.f9 rfl rfl rfl rfl rfl rfl rfl ⟨rfl, rfl, rfl, rfl, rfl⟩ rfl rfl rfl rfl rfl (by kernel_rfl) Tryz.func9 (by kernel_rfl)
    (of_decide_eq_true (by kernel_rfl)) (by unfold Func.isWrapper; first | (rw [if_pos (by decide +kernel)]; kernel_rfl) | (rw [if_neg (by decide +kernel)]; exact ⟨rfl, rfl⟩))
    (fun os started H enc _ => lifted os started H enc)

/-- THE STATEMENT: the tied card. -/
theorem proved : Rows.SemWrapsCardSaid :=
  Claim7.holds_tied_plain_at .later [] [.handle, .listed, .data] true (true, "4980083d59e64bb7d82c37d6b3189760ce4726c1f8730e5b75fef38c773726f3") true
    over (fun _ h => by cases h) (by kernel_rfl) (fun _ h => by cases h) semWraps_row_tie rfl ⟨rfl, rfl⟩ (by kernel_rfl) rfl
    (fun f fn hf hfn => by
      obtain rfl : f = 9 := Option.some.inj ((show Tryz.prog.funcNamed "emissary/emissarylaw19.SemWraps" = some 9 by kernel_rfl).symm.trans hf) |>.symm
      obtain rfl : fn = Tryz.f9 := (Option.some.inj (Tryz.func9.symm.trans hfn)).symm
      exact ⟨by kernel_rfl, fun j t ht => by
        rw [Tryz.params9] at ht
        have h3 : t = 2 := by
          rcases j with _ | _ | j
          · simpa using ht.symm
          · simpa using ht.symm
          · simp at ht
        subst h3
        exact (show Tryz.prog.wantsStandIn 2 = false by kernel_rfl)⟩)
    (by kernel_rfl)
#print axioms proved
end Go.Proofs.YtbjcajjlpehfiaaGreatDoor.semWraps
