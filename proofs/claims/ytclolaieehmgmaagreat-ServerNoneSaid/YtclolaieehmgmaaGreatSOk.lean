/- Each function of the program is of the kind that the layer serves. -/
import Derived.Test.YtclolaieehmgmaaGreatHLaw
import Derived.KernelRfl
import Derived.Test.YtclolaieehmgmaaGreatProg
namespace Go.Proofs.YtclolaieehmgmaaGreat
open Go.H
set_option maxRecDepth 100000
theorem okAll : Tryz.prog.funcs.toList.all okFn = true := by kernel_rfl
theorem mixed : Tryz.prog.follows .mixedOrders = true := by kernel_rfl
end Go.Proofs.YtclolaieehmgmaaGreat
