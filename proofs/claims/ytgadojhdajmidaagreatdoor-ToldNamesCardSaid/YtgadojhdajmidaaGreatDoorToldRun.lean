/- The closed run of ToldNames. -/
import Derived.Test.YtgadojhdajmidaaGreatDoorTab
set_option linter.unusedSimpArgs false
set_option linter.unusedVariables false
namespace Go.Sep
open Go.Proofs

theorem told_ev (n : Int) (t : TypeId) : outR (evF Tb Xb Fb 100 (.func (.func 3) ⟨[]⟩ ⟨[]⟩) [] (VH.base 0 n t)) = some (true, .bool true, some (.fix 0 n t)) := by kernel_rfl

theorem told_run : ClosedG Tryz.prog 0 3 [] (.bool true) :=
  closed_run mix_ok tb_ok tb_cst xb_ok fb_ok (fun _ => .nil) (fun _ _ h => by cases h; rfl) told_ev

end Go.Sep
