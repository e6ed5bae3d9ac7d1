/- What is proved here: 'PickKnown' returns true whatever the number, and what came in stays. No condition. -/
import Derived.Test.YtbjcajjlpehfiaaRows
import Derived.Test.YtbjcajjlpehfiaaRfxDl
import Derived.Test.YtbjcajjlpehfiaaLka
import Derived.WalkKit
import Derived.ProofKit
import Derived.OpenShut
set_option maxRecDepth 100000
namespace Go.Proofs.Ytbjcajjlpehfiaa
open Go Go.Rfx
theorem rmixed : Try.prog.follows .mixedOrders = true := by kernel_rfl
noncomputable def rlist : List (K × FS) := [((.r (.l .e)), .c rc4), ((.r (.l (.l .e))), .c rc8), ((.l (.r (.l .e))), .c rc9), ((.r (.r (.l .e))), .c rc10), ((.l (.l (.l (.l .e)))), .c rc15), ((.r (.l (.l (.l .e)))), .c rc16), ((.l (.r (.l (.l .e)))), .c rc17), ((.r (.r (.l (.l .e)))), .c rc18), ((.l (.l (.l (.r .e)))), .c rc23), ((.r (.l (.l (.r .e)))), .c rc24), ((.l (.r (.l (.r .e)))), .c rc25), ((.l (.r (.r (.r .e)))), .c rc29), ((.r (.r (.r (.r .e)))), .c rc30), ((.l (.l (.l (.l (.l .e))))), .c rc31), ((.r (.r (.l (.r (.l .e))))), .c rc42), ((.l (.l (.r (.r (.l .e))))), .c rc43), ((.r (.l (.r (.r (.l .e))))), .c rc44), ((.l (.r (.r (.r (.l .e))))), .c rc45), ((.r (.r (.r (.r (.l .e))))), .c rc46), ((.l (.l (.l (.l (.r .e))))), .c rc47), ((.r (.l (.l (.l (.r .e))))), .c rc48), ((.l (.r (.l (.l (.r .e))))), .c rc49), ((.r (.r (.l (.r (.r .e))))), .c rc58), ((.l (.l (.r (.r (.r .e))))), .c rc59), ((.r (.l (.r (.r (.r .e))))), .c rc60), ((.l (.r (.r (.r (.r .e))))), .c rc61), ((.r (.r (.r (.r (.r .e))))), .c rc62), ((.l (.l (.l (.l (.l (.l .e)))))), .c rc63), ((.r (.l (.l (.l (.l (.l .e)))))), .c rc64), ((.l (.r (.l (.l (.l (.l .e)))))), .c rc65), ((.r (.r (.l (.l (.l (.l .e)))))), .c rc66), ((.l (.l (.r (.l (.l (.l .e)))))), .c rc67), ((.r (.l (.r (.l (.l (.l .e)))))), .c rc68), ((.l (.r (.r (.l (.l (.l .e)))))), .c rc69)]
noncomputable def rtab : T FS := (.node (.node (.node (.node (.node (.node (.node .leaf (some (.c rc63)) .leaf) (some (.c rc31)) .leaf) (some (.c rc15)) (.node .leaf (some (.c rc47)) .leaf)) none (.node .leaf (some (.c rc23)) .leaf)) none (.node (.node (.node (.node .leaf (some (.c rc67)) .leaf) none .leaf) none .leaf) none (.node (.node .leaf (some (.c rc43)) .leaf) none (.node .leaf (some (.c rc59)) .leaf)))) none (.node (.node (.node (.node (.node .leaf (some (.c rc65)) .leaf) none .leaf) (some (.c rc17)) (.node .leaf (some (.c rc49)) .leaf)) (some (.c rc9)) (.node .leaf (some (.c rc25)) .leaf)) none (.node (.node (.node (.node .leaf (some (.c rc69)) .leaf) none .leaf) none .leaf) none (.node (.node .leaf (some (.c rc45)) .leaf) (some (.c rc29)) (.node .leaf (some (.c rc61)) .leaf))))) none (.node (.node (.node (.node (.node (.node .leaf (some (.c rc64)) .leaf) none .leaf) (some (.c rc16)) (.node .leaf (some (.c rc48)) .leaf)) (some (.c rc8)) (.node .leaf (some (.c rc24)) .leaf)) (some (.c rc4)) (.node (.node (.node (.node .leaf (some (.c rc68)) .leaf) none .leaf) none .leaf) none (.node (.node .leaf (some (.c rc44)) .leaf) none (.node .leaf (some (.c rc60)) .leaf)))) none (.node (.node (.node (.node (.node .leaf (some (.c rc66)) .leaf) none .leaf) (some (.c rc18)) .leaf) (some (.c rc10)) (.node (.node .leaf (some (.c rc42)) .leaf) none (.node .leaf (some (.c rc58)) .leaf))) none (.node .leaf none (.node (.node .leaf (some (.c rc46)) .leaf) (some (.c rc30)) (.node .leaf (some (.c rc62)) .leaf))))))
theorem rtab_eq : tOf rlist = rtab := by kernel_rfl
theorem rserved : AllServed Try.prog rlist := ⟨served_rd rmixed Try.func4 rc4_of rd4, served_rd rmixed Try.func8 rc8_of rd8, served_rd rmixed Try.func9 rc9_of rd9, served_rd rmixed Try.func10 rc10_of rd10, served_rd rmixed Try.func15 rc15_of rd15, served_rd rmixed Try.func16 rc16_of rd16, served_rd rmixed Try.func17 rc17_of rd17, served_rd rmixed Try.func18 rc18_of rd18, served_rd rmixed Try.func23 rc23_of rd23, served_rd rmixed Try.func24 rc24_of rd24, served_rd rmixed Try.func25 rc25_of rd25, served_rd rmixed Try.func29 rc29_of rd29, served_rd rmixed Try.func30 rc30_of rd30, served_rd rmixed Try.func31 rc31_of rd31, served_rd rmixed Try.func42 rc42_of rd42, served_rd rmixed Try.func43 rc43_of rd43, served_rd rmixed Try.func44 rc44_of rd44, served_rd rmixed Try.func45 rc45_of rd45, served_rd rmixed Try.func46 rc46_of rd46, served_rd rmixed Try.func47 rc47_of rd47, served_rd rmixed Try.func48 rc48_of rd48, served_rd rmixed Try.func49 rc49_of rd49, served_rd rmixed Try.func58 rc58_of rd58, served_rd rmixed Try.func59 rc59_of rd59, served_rd rmixed Try.func60 rc60_of rd60, served_rd rmixed Try.func61 rc61_of rd61, served_rd rmixed Try.func62 rc62_of rd62, served_rd rmixed Try.func63 rc63_of rd63, served_rd rmixed Try.func64 rc64_of rd64, served_rd rmixed Try.func65 rc65_of rd65, served_rd rmixed Try.func66 rc66_of rd66, served_rd rmixed Try.func67 rc67_of rd67, served_rd rmixed Try.func68 rc68_of rd68, served_rd rmixed Try.func69 rc69_of rd69, trivial⟩

theorem rsnd : Snd Try.prog (evF rtab 300 60) := snd_of rtab_eq rserved 300 60
theorem known0 : okT (evF rtab 300 60 (.r (.l .e)) [.i .i64 (Int.ofNat 0)] (.mk .leaf (.l (.l .e)))) = true := by kernel_rfl
theorem known1 : okT (evF rtab 300 60 (.r (.l .e)) [.i .i64 (Int.ofNat 1)] (.mk .leaf (.l (.l .e)))) = true := by kernel_rfl
theorem known2 : okT (evF rtab 300 60 (.r (.l .e)) [.i .i64 (Int.ofNat 2)] (.mk .leaf (.l (.l .e)))) = true := by kernel_rfl
theorem known3 : okT (evF rtab 300 60 (.r (.l .e)) [.i .i64 (Int.ofNat 3)] (.mk .leaf (.l (.l .e)))) = true := by kernel_rfl
theorem known4 : okT (evF rtab 300 60 (.r (.l .e)) [.i .i64 (Int.ofNat 4)] (.mk .leaf (.l (.l .e)))) = true := by kernel_rfl
theorem knownUp (m : Nat) : okT (evF rtab 300 60 (.r (.l .e)) [.i .i64 (Int.ofNat (m + 5))] (.mk .leaf (.l (.l .e)))) = true := by kernel_rfl
theorem knownNeg (m : Nat) : okT (evF rtab 300 60 (.r (.l .e)) [.i .i64 (Int.negSucc m)] (.mk .leaf (.l (.l .e)))) = true := by kernel_rfl
theorem known_all (a : Int) : okT (evF rtab 300 60 (.r (.l .e)) [.i .i64 a] (.mk .leaf (.l (.l .e)))) = true :=
  match a with
  | .ofNat 0 => known0
  | .ofNat 1 => known1
  | .ofNat 2 => known2
  | .ofNat 3 => known3
  | .ofNat 4 => known4
  | .ofNat (m + 5) => knownUp m
  | .negSucc m => knownNeg m
end Go.Proofs.Ytbjcajjlpehfiaa
namespace Go.Proofs.Ytbjcajjlpehfiaa.pickKnown
open Go.ChangeShapes Go.WideShapes Go.ChangeAt Go.RowKit Go Go.Rfx
set_option linter.unusedVariables false

theorem own : ownKnob Try.prog.godebug = none := by kernel_rfl
theorem walk (a0 : Int) (w : World) : Calls Try.prog 4 #[.int .i64 a0] w fun e w' => e = .returned (.bool true) ∧ Stays w w' :=
  calls_true (f := .r (.l .e)) (by kernel_rfl) rsnd (known_all a0) (.cons _ _ _ _ (.i .i64 a0) .nil) w

/-! ### THE ROW's STEP: WRITTEN OUT: LEAVE IT -/
set_option maxRecDepth 100000 in
theorem lifted (os : Os) (started : os.Started) (H : Type) (enc : TypeId × Value → H) :
    ReturnsInHanded {} Try.checked os 4 .any (Rows.pickKnownSpec.pre6 enc Try.prog Try.f4 Rows.pickKnownRow.domain false) (Rows.pickKnownSpec.post enc Try.prog Try.f4 false true false false) := by
  refine returnsInHanded_of_change (C := Try.checked) own started (by kernel_rfl) Try.func4
    (ChangeSpec.witness6 (enc := enc) (C := Try.checked) false ⟨#[], #[.int .i64 0], []⟩ 8 (by kernel_rfl) (by kernel_rfl) (by kernel_rfl) (by kernel_rfl)) ?_
  intro W base args ds gs before hval0 hW hcnd _
  have hval : ∀ (j : Nat) t v, Try.f4.params[j]? = some t → args[j]? = some v → Value.okWide Try.prog W .any base t v := hval0
  have hW' := hW
  obtain ⟨p, q, hA0, hV, rfl, hfz, hnd⟩ := hW
  have hA : DataW.TrodAll enc Try.prog W 0 (fun _ => true) true Try.f4.params.toList args.toList ds p := hA0
  rw [Try.params4] at hA hval
  obtain ⟨v0, vs0, d0, ds0, p0, q0, hargs, rfl, rfl, h0, r0⟩ := trodAll_cons hA
  obtain ⟨rfl, rfl, rfl⟩ := trodAll_nil r0
  obtain rfl : args = #[v0] := by cases args; simp_all
  obtain ⟨rfl, rfl⟩ := trodVars_none hV
  obtain ⟨a0, rfl, rfl, rfl, w0⟩ := open_int Try.underlying3 (hval 0 3 v0 rfl rfl) h0
  clear hA0 hval0
  simp only [List.append_nil] at hW'
  refine (walk a0 W).mono fun e W' ⟨he, hg⟩ => ?_
  subst he
  exact ⟨_, rfl, _, _, _, [], [], [], hW', trodAll_cons_mk (shut_bool Try.underlying4 _) trodAll_mk0, trodAll_cons_mk (shut_int Try.underlying3 w0) trodAll_mk0, rfl,
    World.keptBut_mono (fun p hp => hp.elim) hg, fun h => by cases h⟩

theorem over : Rows.pickKnownRow.holds Try.pinned (OpenSpec.ofChange Rows.pickKnownSpec) :=
  OpenClaim.holds_of_wide 4 Try.f4 rfl rfl rfl rfl rfl rfl rfl ⟨rfl, rfl, rfl, rfl, rfl⟩ rfl rfl rfl rfl rfl (by kernel_rfl) Try.func4 (by kernel_rfl)
    (of_decide_eq_true (by kernel_rfl)) (by unfold Func.isWrapper; first | (rw [if_pos (by decide +kernel)]; kernel_rfl) | (rw [if_neg (by decide +kernel)]; exact ⟨rfl, rfl⟩))
    (fun os started H enc _ => lifted os started H enc)

/-- ████ THE STATEMENT ████ -/
theorem proved : Rows.PickKnownSaid :=
  over
#print axioms proved
end Go.Proofs.Ytbjcajjlpehfiaa.pickKnown
