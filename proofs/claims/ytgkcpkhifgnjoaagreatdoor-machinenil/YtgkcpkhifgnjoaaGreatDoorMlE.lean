/- The run of MachineNil, by the kernel: its argument's cells are handed on unseen. -/
import Derived.Test.YtgkcpkhifgnjoaaGreatDoorIrT
import Derived.KernelRfl
namespace Go.Ev
set_option maxRecDepth 100000
theorem ml_eval (c0 c1 c2 c3 c4 c5 c6 c7 c8 c9 c10 : Value) : callK table (run table 100000) 4 [.agg [.opq c0, .opq c1, .opq c2, .opq c3, .opq c4, .opq c5, .opq c6, .opq c7, .opq c8, .opq c9, .opq c10]] .e .one (fun v _ _ => v.beq (.bool true)) = true := by kernel_rfl
end Go.Ev
