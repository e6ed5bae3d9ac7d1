/- What is proved here: some ways of the law come to true. No condition. -/
import Derived.Test.YtbjcajjlpehfiaaGreatDoorInferKnownKn
set_option maxRecDepth 100000
namespace Go.Proofs.YtbjcajjlpehfiaaGreatDoor
open Go Go.Rfx
theorem w9 : okT (evF rtab 300 80 (.l (.l .e)) [.i .i64 (Int.ofNat 9)] (base gs nx0)) = true := by kernel_rfl
theorem w13 : okT (evF rtab 300 80 (.l (.l .e)) [.i .i64 (Int.ofNat 13)] (base gs nx0)) = true := by kernel_rfl
end Go.Proofs.YtbjcajjlpehfiaaGreatDoor
