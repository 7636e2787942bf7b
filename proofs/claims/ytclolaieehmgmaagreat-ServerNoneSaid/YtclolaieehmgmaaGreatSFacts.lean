/- Closed facts about the program that each row of this seat asks for. -/
import Derived.Test.YtclolaieehmgmaaGreatRows
import Derived.JoinedOf
import Derived.KernelRfl
import Derived.Test.YtclolaieehmgmaaGreatHLaw
namespace Go.Proofs.YtclolaieehmgmaaGreat.Facts
open Go.H
set_option maxRecDepth 100000
theorem types : Tryz.prog.types.size = 350 + 315 := by kernel_rfl
theorem rows1 : (List.range 350).all (rowFine Tryz.prog) = true := by kernel_rfl
theorem rows2 : (List.range 315).all (fun t => rowFine Tryz.prog (350 + t)) = true := by kernel_rfl
theorem rest1 : Tryz.prog.globals.all (fun g => decide (g.type < Tryz.prog.types.size)) = true := by kernel_rfl
theorem rest2 : Tryz.prog.funcs.all (fun f => f.params.all fun t => decide (t < Tryz.prog.types.size)) = true := by kernel_rfl
theorem laid : laidOutB Tryz.prog = true := by
  unfold laidOutB
  rw [all_range types rows1 rows2, rest1, rest2]; rfl
theorem maps : mapsRowed Tryz.prog = true := by kernel_rfl
theorem stops : (Tryz.prog.stops == []) = true := by kernel_rfl
theorem knobs : (Tryz.prog.stopKnobs == []) = true := by kernel_rfl
theorem heard : Tryz.prog.stopsHeard = true := by kernel_rfl
theorem enter : Tryz.prog.mayEnter = true := by kernel_rfl
end Go.Proofs.YtclolaieehmgmaaGreat.Facts
