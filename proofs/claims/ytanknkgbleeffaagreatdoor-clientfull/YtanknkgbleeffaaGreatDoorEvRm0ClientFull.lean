/- ClientFull: the law's runs, by the kernel. -/
import Derived.Test.YtanknkgbleeffaaGreatDoorEvRuClientFull
set_option linter.all false
namespace Go.Proofs.YtanknkgbleeffaaGreatDoor
open Go Go.Proofs.Ev
noncomputable section
set_option maxRecDepth 100000

theorem run_main0 (hv : Nat) : allB (fun three => all4 fun room => isTrue (callA (cxM three room hv) 300 (.fn 3) [] [argE, .bool false, nA] H0)) = true := by kernel_rfl

end
end Go.Proofs.YtanknkgbleeffaaGreatDoor
