/- Closed facts of the row, one by one. Printed by a program. -/
import Derived.Test.YtgadojhdajmidaaGreatDoorRows
import Derived.ProofKit
import Derived.KernelRfl
namespace Go.Proofs.YtgadojhdajmidaaGreatDoor
theorem fact11 : ((Rows.toldNamesRow.recurses == Tryz.prog.recurses 3)) = true := by kernel_rfl
theorem fact12 : ((Rows.toldNamesRow.named == Tryz.prog.varsNamed 3)) = true := by kernel_rfl
end Go.Proofs.YtgadojhdajmidaaGreatDoor
