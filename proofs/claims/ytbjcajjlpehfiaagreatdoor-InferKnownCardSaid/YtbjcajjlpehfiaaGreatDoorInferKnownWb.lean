/- What is proved here: some ways of the law come to true. No condition. -/
import Derived.Test.YtbjcajjlpehfiaaGreatDoorInferKnownKn
set_option maxRecDepth 100000
namespace Go.Proofs.YtbjcajjlpehfiaaGreatDoor
open Go Go.Rfx
theorem w2 : okT (evF rtab 300 80 (.l (.l .e)) [.i .i64 (Int.ofNat 2)] (base gs nx0)) = true := by kernel_rfl
theorem w3 : okT (evF rtab 300 80 (.l (.l .e)) [.i .i64 (Int.ofNat 3)] (base gs nx0)) = true := by kernel_rfl
theorem w5 : okT (evF rtab 300 80 (.l (.l .e)) [.i .i64 (Int.ofNat 5)] (base gs nx0)) = true := by kernel_rfl
theorem w6 : okT (evF rtab 300 80 (.l (.l .e)) [.i .i64 (Int.ofNat 6)] (base gs nx0)) = true := by kernel_rfl
end Go.Proofs.YtbjcajjlpehfiaaGreatDoor
