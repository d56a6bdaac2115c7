/- The run of MachineNames, by the kernel. -/
import Derived.Test.YtgkcpkhifgnjoaaGreatDoorIrT
import Derived.KernelRfl
namespace Go.Ev
set_option maxRecDepth 100000
theorem mn_eval : callK table (run table 100000) 3 [] .e .one (fun v _ _ => v.beq (.bool true)) = true := by kernel_rfl
end Go.Ev
