/- The run of RtsNames, by the kernel. -/
import Derived.Test.YtgkcpkhifgnjoaaGreatDoorIrT
import Derived.KernelRfl
namespace Go.Ev
set_option maxRecDepth 100000
theorem rn_eval : callK table2 (run table2 100000) 5 [] .e .one (fun v _ _ => v.beq (.bool true)) = true := by kernel_rfl
end Go.Ev
