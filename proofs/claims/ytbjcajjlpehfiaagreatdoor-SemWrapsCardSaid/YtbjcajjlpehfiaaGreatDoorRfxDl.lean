/- What is proved here: what an evaluation says of a call where nothing is named. No condition but the table. -/
import Derived.Test.YtbjcajjlpehfiaaGreatDoorRfxDk
import GoSem.ClaimChange
set_option linter.unusedVariables false
set_option linter.unusedSectionVars false
set_option linter.unusedSimpArgs false
set_option linter.constructorNameAsVariable false
namespace Go.Rfx
open Go
variable [Sy]

/-- what was there stays -/
def Stays (w w' : World) : Prop := w.keptBut w' (fun _ => False)
theorem stays_of {w w' : World} (ho : w'.os = w.os) (hu : w'.output = w.output) (h : ∀ b, b < w.heap.size → w'.heap[b]? = w.heap[b]?) : Stays w w' := by
  refine ⟨ho, hu, fun i hi => ?_⟩
  rw [h i hi]
  cases w.heap[i]? with
  | none => rfl
  | some o => cases o <;> first | exact ⟨rfl, rfl, rfl, fun _ _ => rfl⟩ | exact .inr ⟨rfl, rfl⟩ | rfl
noncomputable def okT (r : OR) : Bool := OR.casesOn r false fun v _ => v.bK false fun b => b
theorem okT_some {r : OR} (h : okT r = true) : ∃ h', r = .ok (.b true) h' := by
  cases r with
  | err => cases h
  | ok v h' =>
    cases v <;> first | (cases h; done) | skip
    rename_i b
    have h1 : b = true := h
    rw [h1]; exact ⟨h', rfl⟩
/-- a call that comes to true, nothing named -/
theorem calls_true {p : Program} (hg : p.globals.size = 0) {cl : K → List V → H → OR} (hS : Snd p cl) {f : K} {as : List V} {nx : K} (hev : okT (cl f as (.mk .leaf nx)) = true) {args : Array Value} (hr : RVs (fun _ => none) as args.toList) (w : World) :
    Calls p f.num args w fun e w' => e = .returned (.bool true) ∧ Stays w w' := by
  obtain ⟨h', hv⟩ := okT_some hev
  obtain ⟨_, hc⟩ := hS _ _ _ _ _ hv
  refine (hc _ w args hr (RW.empty hg nx w)).mono fun e w' hh => ?_
  obtain ⟨x, rfl, φ', hx, _, kp⟩ := hh
  cases hx
  exact ⟨rfl, stays_of kp.os kp.out kp.all⟩
end Go.Rfx
