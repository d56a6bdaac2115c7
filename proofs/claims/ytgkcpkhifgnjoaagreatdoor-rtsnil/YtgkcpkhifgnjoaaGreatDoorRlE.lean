/- The run of RtsNil, by the kernel: its argument's cells are handed on unseen. -/
import Derived.Test.YtgkcpkhifgnjoaaGreatDoorIrT
import Derived.KernelRfl
namespace Go.Ev
set_option maxRecDepth 100000
theorem rl_eval (c0 c1 c2 : Value) : callK table (run table 100000) 6 [.agg [.opq c0, .opq c1, .opq c2]] .e .one (fun v _ _ => v.beq (.bool true)) = true := by kernel_rfl
end Go.Ev
