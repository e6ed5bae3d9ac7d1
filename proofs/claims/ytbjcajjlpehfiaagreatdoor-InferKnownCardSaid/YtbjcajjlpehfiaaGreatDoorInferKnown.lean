/- What is proved here: 'InferKnown' returns true whatever the number, and what came in stays. The condition is the card's own: the tied variables. -/
import Derived.Test.YtbjcajjlpehfiaaGreatDoorInferKnownWa
import Derived.Test.YtbjcajjlpehfiaaGreatDoorInferKnownWb
import Derived.Test.YtbjcajjlpehfiaaGreatDoorInferKnownWc
import Derived.Test.YtbjcajjlpehfiaaGreatDoorInferKnownWd
import Derived.Test.YtbjcajjlpehfiaaGreatDoorInferKnownWe
import Derived.Test.YtbjcajjlpehfiaaGreatDoorInferKnownWf
import Derived.Test.YtbjcajjlpehfiaaGreatDoorCards
import Derived.Test.YtbjcajjlpehfiaaGreatDoorTie
import Derived.SevenTiedAt
set_option maxRecDepth 100000
namespace Go.Proofs.YtbjcajjlpehfiaaGreatDoor
open Go Go.Rfx
theorem w_all (a : Int) : okT (evF rtab 300 80 (.l (.l .e)) [.i .i64 a] (base gs nx0)) = true :=
  match a with
  | .ofNat 0 => w0
  | .ofNat 1 => w1
  | .ofNat 2 => w2
  | .ofNat 3 => w3
  | .ofNat 4 => w4
  | .ofNat 5 => w5
  | .ofNat 6 => w6
  | .ofNat 7 => w7
  | .ofNat 8 => w8
  | .ofNat 9 => w9
  | .ofNat 10 => w10
  | .ofNat 11 => w11
  | .ofNat 12 => w12
  | .ofNat 13 => w13
  | .ofNat (m + 14) => wUp m
  | .negSucc m => wNeg m
end Go.Proofs.YtbjcajjlpehfiaaGreatDoor
namespace Go.Proofs.YtbjcajjlpehfiaaGreatDoor.inferKnown
open Go.ChangeShapes Go.WideShapes Go.ChangeAt Go.RowKit Go Go.Rfx
set_option linter.unusedVariables false

theorem walk (a0 : Int) (w : World) (h : laidMetH Tryz.prog laidL w) : Calls Tryz.prog 3 #[.int .i64 a0] w fun e w' => e = .returned (.bool true) ∧ Stays w w' :=
  (calls_base (f := (.l (.l .e))) (sz := szs) rsnd g_hk g_hn g_hlt (w_all a0) (args := #[.int .i64 a0]) (.cons _ _ _ _ (.i .i64 a0) .nil) w (g_laid h)).mono fun e w' hh => ⟨hh.1, hh.2.stays⟩

theorem lifted (os : Os) (started : os.Started) (H : Type) (enc : TypeId × Value → H) :
    ReturnsInHanded {} Tryz.checked os 3 .any (fun w args => (Rows.inferKnownSpec.pre enc Tryz.prog Tryz.f3 [] false w args ∧ laidMetH Tryz.prog laidL w) ∧ sizedMet enc Tryz.prog Tryz.f3 (OpenSpec.ofChange Rows.inferKnownSpec) false w args)
      (Rows.inferKnownSpec.post enc Tryz.prog Tryz.f3 false true false false) := by
  refine returnsInHanded_of_change_and (C := Tryz.checked) (X := fun w _ => laidMetH Tryz.prog laidL w) (fun _ _ _ hh h => h.of_heap hh) own started (by kernel_rfl) Tryz.func3
    (ChangeSpec.witness_shaped (enc := enc) (C := Tryz.checked) (os := os) (X := fun w _ => laidMetH Tryz.prog laidL w) false (World.doorLaid Tryz.prog 400 os) #[.int .i64 0] 8 rfl (World.shaped_of_RefB (by kernel_rfl) (by kernel_rfl)) (by kernel_rfl) (by kernel_rfl) (by kernel_rfl) (door_met os _)) ?_
  intro W base args ds gs before hval0 hW _ _ hL _
  have hval : ∀ (j : Nat) t v, Tryz.f3.params[j]? = some t → args[j]? = some v → Value.okWide Tryz.prog W .any base t v := hval0
  have hW' := hW
  obtain ⟨p, q, hA0, hV, rfl, hfz, hnd⟩ := hW
  have hA : DataW.TrodAll enc Tryz.prog W 0 (fun _ => true) true Tryz.f3.params.toList args.toList ds p := hA0
  rw [Tryz.params3] at hA hval
  obtain ⟨v0, d0, rfl, rfl, h0⟩ := trodAll_one hA
  obtain ⟨rfl, rfl⟩ := trodVars_none hV
  obtain ⟨a0, rfl, rfl, rfl, w0⟩ := open_int Tryz.underlying3 (hval 0 3 v0 rfl rfl) h0
  clear hA0 hval0
  simp only [List.append_nil] at hW'
  refine (walk a0 W hL).mono fun e W' ⟨he, hg⟩ => ?_
  subst he
  exact ⟨_, rfl, _, _, _, [], [], [], hW', trodAll_cons_mk (shut_bool Tryz.underlying4 _) trodAll_mk0, trodAll_cons_mk (shut_int Tryz.underlying3 w0) trodAll_mk0, rfl,
    World.keptBut_mono (fun p hp => hp.elim) hg, fun h => by cases h⟩

theorem over : Rows.InferKnownSaid :=
  OpenClaim.holds_of_wide 3 Tryz.f3 rfl rfl rfl rfl rfl rfl rfl ⟨rfl, rfl, rfl, rfl, rfl⟩ rfl rfl rfl rfl rfl (by kernel_rfl) Tryz.func3 (by kernel_rfl)
    (of_decide_eq_true (by kernel_rfl)) (by unfold Func.isWrapper; first | (rw [if_pos (by decide +kernel)]; kernel_rfl) | (rw [if_neg (by decide +kernel)]; exact ⟨rfl, rfl⟩))
    (fun os started H enc _ => lifted os started H enc)

/-- THE STATEMENT: the tied card. -/
theorem proved : Rows.InferKnownCardSaid :=
  Claim7.holds_tied_plain_at .later [] [.handle, .listed, .data] true (true, "4980083d59e64bb7d82c37d6b3189760ce4726c1f8730e5b75fef38c773726f3") true
    over (fun _ h => by cases h) (by kernel_rfl) (fun _ h => by cases h) inferKnown_row_tie rfl ⟨rfl, rfl⟩ (by kernel_rfl) rfl
    (fun f fn hf hfn => by
      obtain rfl : f = 3 := Option.some.inj ((show Tryz.prog.funcNamed "emissary/emissarylaw11.InferKnown" = some 3 by kernel_rfl).symm.trans hf) |>.symm
      obtain rfl : fn = Tryz.f3 := (Option.some.inj (Tryz.func3.symm.trans hfn)).symm
      exact ⟨by kernel_rfl, fun j t ht => by
        rw [Tryz.params3] at ht
        have h3 : t = 3 := by
          rcases j with _ | j
          · simpa using ht.symm
          · simp at ht
        subst h3
        exact (show Tryz.prog.wantsStandIn 3 = false by kernel_rfl)⟩)
    (by kernel_rfl)
#print axioms proved
end Go.Proofs.YtbjcajjlpehfiaaGreatDoor.inferKnown
