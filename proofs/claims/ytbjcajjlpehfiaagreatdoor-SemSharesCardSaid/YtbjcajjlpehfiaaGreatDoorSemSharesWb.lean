/- What is proved here: some ways of the law come to true. No condition. -/
import Derived.Test.YtbjcajjlpehfiaaGreatDoorSemSharesKn
set_option maxRecDepth 100000
namespace Go.Proofs.YtbjcajjlpehfiaaGreatDoor
open Go Go.Rfx
theorem w3 : okT (evF rtab 300 80 (.r (.l (.l .e))) [.i .i64 (Int.ofNat 3)] (base gs (.r (.l .e)))) = true := by kernel_rfl
theorem w4 : okT (evF rtab 300 80 (.r (.l (.l .e))) [.i .i64 (Int.ofNat 4)] (base gs (.r (.l .e)))) = true := by kernel_rfl
end Go.Proofs.YtbjcajjlpehfiaaGreatDoor
