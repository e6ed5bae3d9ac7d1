/- What is proved here: some ways of the law come to true. No condition. -/
import Derived.Test.YtbjcajjlpehfiaaGreatDoorInferKnownKn
set_option maxRecDepth 100000
namespace Go.Proofs.YtbjcajjlpehfiaaGreatDoor
open Go Go.Rfx
theorem w0 : okT (evF rtab 300 80 (.l (.l .e)) [.i .i64 (Int.ofNat 0)] (base gs nx0)) = true := by kernel_rfl
theorem w1 : okT (evF rtab 300 80 (.l (.l .e)) [.i .i64 (Int.ofNat 1)] (base gs nx0)) = true := by kernel_rfl
theorem w8 : okT (evF rtab 300 80 (.l (.l .e)) [.i .i64 (Int.ofNat 8)] (base gs nx0)) = true := by kernel_rfl
theorem wUp (m : Nat) : okT (evF rtab 300 80 (.l (.l .e)) [.i .i64 (Int.ofNat (m + 14))] (base gs nx0)) = true := by kernel_rfl
theorem wNeg (m : Nat) : okT (evF rtab 300 80 (.l (.l .e)) [.i .i64 (Int.negSucc m)] (base gs nx0)) = true := by kernel_rfl
end Go.Proofs.YtbjcajjlpehfiaaGreatDoor
