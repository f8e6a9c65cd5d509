/- Closed facts of the row, one by one. Printed by a program. -/
import Derived.Test.YtgadojhdajmidaaGreatDoorRows
import Derived.ProofKit
import Derived.KernelRfl
namespace Go.Proofs.YtgadojhdajmidaaGreatDoor
theorem fact9 : ((Rows.toldNamesRow.inPlace == Tryz.prog.inPlace 3)) = true := by kernel_rfl
theorem fact10 : ((Rows.toldNamesRow.unfollowed == Tryz.prog.unfollowed 3)) = true := by kernel_rfl
end Go.Proofs.YtgadojhdajmidaaGreatDoor
