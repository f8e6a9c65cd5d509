/- Closed facts of the row, one by one. Printed by a program. -/
import Derived.Test.YtgadojhdajmidaaGreatDoorRows
import Derived.ProofKit
import Derived.KernelRfl
namespace Go.Proofs.YtgadojhdajmidaaGreatDoor
theorem fact0 : (Rows.toldNamesRow.wf (OpenSpec.ofChange Rows.toldNamesSpec)) = true := by kernel_rfl
theorem fact1 : (laidOutB Tryz.prog) = true := by kernel_rfl
theorem fact2 : (mapsRowed Tryz.prog) = true := by kernel_rfl
theorem fact3 : (Tryz.f3.params.all (Tryz.prog.readableRec ·)) = true := by kernel_rfl
theorem fact4 : (namedTie Tryz.prog Rows.toldNamesRow.named Rows.toldNamesSpec.vars) = true := by kernel_rfl
theorem fact5 : ((Rows.toldNamesRow.stops == [])) = true := by kernel_rfl
theorem fact6 : ((Tryz.prog.stops == [])) = true := by kernel_rfl
theorem fact7 : ((Rows.toldNamesRow.knobs == [])) = true := by kernel_rfl
theorem fact8 : ((Tryz.prog.stopKnobs == [])) = true := by kernel_rfl
end Go.Proofs.YtgadojhdajmidaaGreatDoor
