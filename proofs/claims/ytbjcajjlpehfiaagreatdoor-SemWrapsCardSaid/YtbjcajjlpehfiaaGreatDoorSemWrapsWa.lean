/- What is proved here: the ways of the law come to true. No condition. -/
import Derived.Test.YtbjcajjlpehfiaaGreatDoorSemWrapsKn
set_option maxRecDepth 100000
namespace Go.Proofs.YtbjcajjlpehfiaaGreatDoor
open Go Go.Rfx
theorem w1 : okT (evF rtab 300 80 (.l (.r (.l .e))) [.y (Int.negSucc 9223372036854775807) (Int.negSucc 0) (.v 0), .y (Int.negSucc 9223372036854775807) (Int.ofNat 9223372036854775807) (.v 1)] (base gs nx0)) = true := by kernel_rfl
theorem w2 : okT (evF rtab 300 80 (.l (.r (.l .e))) [.y (Int.ofNat 576460752303423489) (Int.ofNat 9223372036854775807) (.v 0), .y (Int.negSucc 9223372036854775807) (Int.ofNat 9223372036854775807) (.v 1)] (base gs nx0)) = true := by kernel_rfl
theorem w3 : okT (evF rtab 300 80 (.l (.r (.l .e))) [.y (Int.ofNat 0) (Int.ofNat 576460752303423488) (.v 0), .y (Int.negSucc 9223372036854775807) (Int.negSucc 0) (.v 1)] (base gs nx0)) = true := by kernel_rfl
theorem w4 : okT (evF rtab 300 80 (.l (.r (.l .e))) [.y (Int.ofNat 0) (Int.ofNat 576460752303423488) (.v 0), .y (Int.ofNat 576460752303423489) (Int.ofNat 9223372036854775807) (.v 1)] (base gs nx0)) = true := by kernel_rfl
theorem w5 : okT (evF rtab 300 80 (.l (.r (.l .e))) [.y (Int.ofNat 0) (Int.ofNat 576460752303423488) (.v 0), .y (Int.ofNat 0) (Int.ofNat 576460752303423488) (.v 1)] (base gs nx0)) = true := by kernel_rfl
end Go.Proofs.YtbjcajjlpehfiaaGreatDoor
