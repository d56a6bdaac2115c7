/- Four runs, by the kernel. -/
import Derived.Test.YtgkcpkhifgnjoaaGreatDoorIrT
import Derived.KernelRfl
namespace Go.Ev
set_option maxRecDepth 100000
theorem memo1_run : callK table (run table 100000) 37 [memo1.arg] (heapL memo1.ids) memo1.nx memo1.want = true := by kernel_rfl
theorem memo2_run : callK table (run table 100000) 37 [memo2.arg] (heapL memo2.ids) memo2.nx memo2.want = true := by kernel_rfl
theorem memo3_run : callK table (run table 100000) 37 [memo3.arg] (heapL memo3.ids) memo3.nx memo3.want = true := by kernel_rfl
theorem memo4_run : callK table (run table 100000) 37 [memo4.arg] (heapL memo4.ids) memo4.nx memo4.want = true := by kernel_rfl
end Go.Ev
