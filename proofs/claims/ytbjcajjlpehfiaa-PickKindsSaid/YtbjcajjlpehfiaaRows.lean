/-
  NARROWER THAN 'FOR EVERY INPUT', by the rows' own cells (each row's printed sentence says how): PickKinds: loops · PickGraphs: loops · PickSame: loops.
  DERIVED. THE GIVEN ROWS OF THIS SEAT. 4 by the template 'for every input the law returns true; each argument reads behind the call as it read before'; 0 by the template 'total and deterministic' (their statements: YtbjcajjlpehfiaaTotals.lean).
  GIVEN WITH THE SEED: the statements are not yours to turn. If you find one false, say at which input.
  Laid BY PROGRAM, IN A SANDBOX (cutbox-rows.mjs): the forced cells as the released guide's own fill.sh prints them over the translation 3ad5bd95b349d348… (all of the seat's roots in one cut). By AI agents, Wed Nov 11 2026. No macro, syntax, notation, axiom, sorry.
-/
import Derived.Test.YtbjcajjlpehfiaaChecked
import GoSem.Claim
import GoSem.ClaimJoined
import GoSem.ClaimMapViews
import Derived.JoinedTies
import Derived.KernelRfl
namespace Go.Proofs.Ytbjcajjlpehfiaa
/- THE CELL 'sum', in the pinned program and in every row, IS THE sha256 OF THE DUMP (.gsa) THAT YtbjcajjlpehfiaaProg.lean LOADS. Nothing in Lean hashes anything: it is a label: what it is worth is what the hold of that sum in a sandbox is worth. -/
noncomputable def Try.pinned : Pinned := { name := "ytbjcajjlpehfiaa", sum := "3ad5bd95b349d3487efa885598105de3fbd88e7b9206f160fed45bd151aaf5b0", checked := Try.checked }
namespace Rows
def none {H : Type} : Left H := { results := [], args := [] }

/-- 'emissarylaw22.PickKinds': WHATEVER THE INPUT: true; the input reads as it did. -/
def pickKindsSpec : ChangeSpec := { name := "pickKinds", fn := fun _ => fun
  | [d1, d2] => { results := [.lit (.bool true)], args := [d1, d2] }
  | _ => none }
def pickKindsRow : OpenClaim := { program := "ytbjcajjlpehfiaa", sum := "3ad5bd95b349d3487efa885598105de3fbd88e7b9206f160fed45bd151aaf5b0", func := "emissary/emissarylaw22.PickKinds", spec := "pickKinds", unfollowed := true, recurses := true, loops := true, apart := false }
def PickKindsSaid : Prop := pickKindsRow.holds Try.pinned (OpenSpec.ofChange pickKindsSpec)

/-- ITS FALSE NEIGHBOUR: 'it returns false'. Refute it at one input. -/
def pickKindsWrong : ChangeSpec := { name := "pickKinds", fn := fun _ => fun
  | [d1, d2] => { results := [.lit (.bool false)], args := [d1, d2] }
  | _ => none }
def PickKindsWrongFalsely : Prop := pickKindsRow.holds Try.pinned (OpenSpec.ofChange pickKindsWrong)

/-- 'emissarylaw22.PickKnown': WHATEVER THE INPUT: true; the input reads as it did. -/
def pickKnownSpec : ChangeSpec := { name := "pickKnown", fn := fun _ => fun
  | [d] => { results := [.lit (.bool true)], args := [d] }
  | _ => none }
def pickKnownRow : OpenClaim := { program := "ytbjcajjlpehfiaa", sum := "3ad5bd95b349d3487efa885598105de3fbd88e7b9206f160fed45bd151aaf5b0", func := "emissary/emissarylaw22.PickKnown", spec := "pickKnown", unfollowed := true, recurses := true, apart := false }
def PickKnownSaid : Prop := pickKnownRow.holds Try.pinned (OpenSpec.ofChange pickKnownSpec)

/-- ITS FALSE NEIGHBOUR: 'it returns false'. Refute it at one input. -/
def pickKnownWrong : ChangeSpec := { name := "pickKnown", fn := fun _ => fun
  | [d] => { results := [.lit (.bool false)], args := [d] }
  | _ => none }
def PickKnownWrongFalsely : Prop := pickKnownRow.holds Try.pinned (OpenSpec.ofChange pickKnownWrong)

/-- 'emissarylaw22.PickGraphs': WHATEVER THE INPUT: true; the input reads as it did. -/
def pickGraphsSpec : ChangeSpec := { name := "pickGraphs", fn := fun _ => fun
  | [d1, d2] => { results := [.lit (.bool true)], args := [d1, d2] }
  | _ => none }
def pickGraphsRow : OpenClaim := { program := "ytbjcajjlpehfiaa", sum := "3ad5bd95b349d3487efa885598105de3fbd88e7b9206f160fed45bd151aaf5b0", func := "emissary/emissarylaw22.PickGraphs", spec := "pickGraphs", unfollowed := true, recurses := true, loops := true, apart := false }
def PickGraphsSaid : Prop := pickGraphsRow.holds Try.pinned (OpenSpec.ofChange pickGraphsSpec)

/-- ITS FALSE NEIGHBOUR: 'it returns false'. Refute it at one input. -/
def pickGraphsWrong : ChangeSpec := { name := "pickGraphs", fn := fun _ => fun
  | [d1, d2] => { results := [.lit (.bool false)], args := [d1, d2] }
  | _ => none }
def PickGraphsWrongFalsely : Prop := pickGraphsRow.holds Try.pinned (OpenSpec.ofChange pickGraphsWrong)

/-- 'emissarylaw22.PickSame': WHATEVER THE INPUT: true; the input reads as it did. -/
def pickSameSpec : ChangeSpec := { name := "pickSame", fn := fun _ => fun
  | [d1, d2, d3] => { results := [.lit (.bool true)], args := [d1, d2, d3] }
  | _ => none }
def pickSameRow : OpenClaim := { program := "ytbjcajjlpehfiaa", sum := "3ad5bd95b349d3487efa885598105de3fbd88e7b9206f160fed45bd151aaf5b0", func := "emissary/emissarylaw22.PickSame", spec := "pickSame", unfollowed := true, recurses := true, loops := true, apart := false }
def PickSameSaid : Prop := pickSameRow.holds Try.pinned (OpenSpec.ofChange pickSameSpec)

/-- ITS FALSE NEIGHBOUR: 'it returns false'. Refute it at one input. -/
def pickSameWrong : ChangeSpec := { name := "pickSame", fn := fun _ => fun
  | [d1, d2, d3] => { results := [.lit (.bool false)], args := [d1, d2, d3] }
  | _ => none }
def PickSameWrongFalsely : Prop := pickSameRow.holds Try.pinned (OpenSpec.ofChange pickSameWrong)

/- THE SECOND FORM. 'bulk': how many values and letters a reading holds, each counted each time it is reached (what is shared counts as often as it is met; a slice's spare places count too). A statement '..UptoSaid' is the law's where the arguments, and the package variables that the reading takes, are together of bulk at most 1048576: NARROWER than '..Said'. Prove '..Said' where nothing that the law and all that it calls make is longer than what came in: it says more and counts as full. Else prove '..UptoSaid'. A law counts once. -/
mutual
def uptoBulk {H : Type} : DataW H → Nat
  | .lit (.string bytes) => bytes.length + 1
  | .lit _ => 1
  | .nil => 1
  | .ptr d => uptoBulk d + 1
  | .slice elems spare => uptoBulkAll elems + uptoBulkAll spare + 1
  | .agg parts => uptoBulkAll parts + 1
  | .iface _ d => uptoBulk d + 1
  | .map entries => uptoBulkEntries entries + 1
  | .held _ => 1
def uptoBulkAll {H : Type} : List (DataW H) → Nat
  | [] => 0
  | d :: r => uptoBulk d + uptoBulkAll r
def uptoBulkEntries {H : Type} : List (Lit × DataW H) → Nat
  | [] => 0
  | x :: r => uptoBulkEntry x + uptoBulkEntries r
def uptoBulkEntry {H : Type} : Lit × DataW H → Nat
  | (.string bytes, d) => bytes.length + uptoBulk d + 1
  | (_, d) => uptoBulk d + 1
 end
def uptoSmall : (H : Type) → List (DataW H) → Bool := fun _ ds => decide (uptoBulkAll ds ≤ 1048576)
def OpenSpec.upto (s : _root_.Go.ChangeSpec) : _root_.Go.OpenSpec := { _root_.Go.OpenSpec.ofChange s with cond := some uptoSmall }

/-- 'emissarylaw22.PickKinds', WHERE WHAT IT READS IS OF BULK AT MOST 1048576: true; the input reads as it did. -/
def pickKindsUptoRow : OpenClaim := { program := "ytbjcajjlpehfiaa", sum := "3ad5bd95b349d3487efa885598105de3fbd88e7b9206f160fed45bd151aaf5b0", func := "emissary/emissarylaw22.PickKinds", spec := "pickKinds", unfollowed := true, recurses := true, loops := true, apart := false, narrowed := true }
def PickKindsUptoSaid : Prop := pickKindsUptoRow.holds Try.pinned (OpenSpec.upto pickKindsSpec)

/-- 'emissarylaw22.PickKnown', WHERE WHAT IT READS IS OF BULK AT MOST 1048576: true; the input reads as it did. -/
def pickKnownUptoRow : OpenClaim := { program := "ytbjcajjlpehfiaa", sum := "3ad5bd95b349d3487efa885598105de3fbd88e7b9206f160fed45bd151aaf5b0", func := "emissary/emissarylaw22.PickKnown", spec := "pickKnown", unfollowed := true, recurses := true, apart := false, narrowed := true }
def PickKnownUptoSaid : Prop := pickKnownUptoRow.holds Try.pinned (OpenSpec.upto pickKnownSpec)

/-- 'emissarylaw22.PickGraphs', WHERE WHAT IT READS IS OF BULK AT MOST 1048576: true; the input reads as it did. -/
def pickGraphsUptoRow : OpenClaim := { program := "ytbjcajjlpehfiaa", sum := "3ad5bd95b349d3487efa885598105de3fbd88e7b9206f160fed45bd151aaf5b0", func := "emissary/emissarylaw22.PickGraphs", spec := "pickGraphs", unfollowed := true, recurses := true, loops := true, apart := false, narrowed := true }
def PickGraphsUptoSaid : Prop := pickGraphsUptoRow.holds Try.pinned (OpenSpec.upto pickGraphsSpec)

/-- 'emissarylaw22.PickSame', WHERE WHAT IT READS IS OF BULK AT MOST 1048576: true; the input reads as it did. -/
def pickSameUptoRow : OpenClaim := { program := "ytbjcajjlpehfiaa", sum := "3ad5bd95b349d3487efa885598105de3fbd88e7b9206f160fed45bd151aaf5b0", func := "emissary/emissarylaw22.PickSame", spec := "pickSame", unfollowed := true, recurses := true, loops := true, apart := false, narrowed := true }
def PickSameUptoSaid : Prop := pickSameUptoRow.holds Try.pinned (OpenSpec.upto pickSameSpec)

end Rows
end Go.Proofs.Ytbjcajjlpehfiaa
