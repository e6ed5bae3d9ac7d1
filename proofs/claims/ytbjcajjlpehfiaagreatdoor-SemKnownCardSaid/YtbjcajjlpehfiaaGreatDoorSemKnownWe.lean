/- What is proved here: some ways of the law come to true. No condition. -/
import Derived.Test.YtbjcajjlpehfiaaGreatDoorSemKnownKn
set_option maxRecDepth 100000
namespace Go.Proofs.YtbjcajjlpehfiaaGreatDoor
open Go Go.Rfx
theorem w6 : okT (evF rtab 300 80 (.r (.r .e)) [.i .i64 (Int.ofNat 6)] (base gs (.r (.l .e)))) = true := by kernel_rfl
theorem w10 : okT (evF rtab 300 80 (.r (.r .e)) [.i .i64 (Int.ofNat 10)] (base gs (.r (.l .e)))) = true := by kernel_rfl
end Go.Proofs.YtbjcajjlpehfiaaGreatDoor
