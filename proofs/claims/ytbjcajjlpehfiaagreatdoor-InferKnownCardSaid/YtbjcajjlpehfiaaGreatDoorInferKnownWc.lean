/- What is proved here: some ways of the law come to true. No condition. -/
import Derived.Test.YtbjcajjlpehfiaaGreatDoorInferKnownKn
set_option maxRecDepth 100000
namespace Go.Proofs.YtbjcajjlpehfiaaGreatDoor
open Go Go.Rfx
theorem w4 : okT (evF rtab 300 80 (.l (.l .e)) [.i .i64 (Int.ofNat 4)] (base gs nx0)) = true := by kernel_rfl
theorem w11 : okT (evF rtab 300 80 (.l (.l .e)) [.i .i64 (Int.ofNat 11)] (base gs nx0)) = true := by kernel_rfl
end Go.Proofs.YtbjcajjlpehfiaaGreatDoor
