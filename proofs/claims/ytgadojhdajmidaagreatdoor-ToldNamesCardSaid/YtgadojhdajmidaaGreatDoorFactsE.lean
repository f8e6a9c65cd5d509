/- Closed facts of the row, one by one. Printed by a program. -/
import Derived.Test.YtgadojhdajmidaaGreatDoorRows
import Derived.ProofKit
import Derived.KernelRfl
namespace Go.Proofs.YtgadojhdajmidaaGreatDoor
theorem fact23 : (Rows.toldNamesRow.shortTexts.isNone) = true := by kernel_rfl
theorem fact24 : (Tryz.prog.stopsHeard) = true := by kernel_rfl
theorem fact25 : (Tryz.prog.mayEnter) = true := by kernel_rfl
theorem fact26 : ((Rows.toldNamesRow.lifted == Tryz.prog.liftsFinal)) = true := by kernel_rfl
theorem fact27 : ((Tryz.prog.make == some Rows.toldNamesRow.make)) = true := by kernel_rfl
theorem fact28 : ((Rows.toldNamesRow.kinds == (if Rows.toldNamesRow.domain.isEmpty then [] else Tryz.f3.params.toList.map fun t => match Tryz.prog.underlying t with | some (.int k) => some k | _ => none))) = true := by kernel_rfl
theorem fact29 : ((Rows.toldNamesRow.pinned == Rows.toldNamesRow.pinnedBy)) = true := by kernel_rfl
theorem fact30 : ((Rows.toldNamesRow.veiled == (Tryz.f3.params.toList ++ Rows.toldNamesSpec.plain.varTypes Tryz.prog ++ Tryz.f3.resultTypes.toList).any (Tryz.prog.veiledRec ·))) = true := by kernel_rfl
theorem fact31 : (Rows.toldNamesRow.veiledFits Tryz.prog Tryz.f3.params.toList (Tryz.f3.params.toList ++ Rows.toldNamesSpec.plain.varTypes Tryz.prog ++ Tryz.f3.resultTypes.toList)) = true := by kernel_rfl
end Go.Proofs.YtgadojhdajmidaaGreatDoor
