/- The statement MachineNil holds: a machine that is not there, or that nobody made, refuses every call, whatever the call's argument. No conditions. -/
import Derived.Test.YtgkcpkhifgnjoaaGreatDoorMlC
import Derived.Test.YtgkcpkhifgnjoaaGreatDoorNmI
import Derived.Test.YtgkcpkhifgnjoaaGreatDoorOfC
namespace Go.Proofs.YtgkcpkhifgnjoaaGreatDoor
open Go.Ev
theorem machineNil_holds : Rows.MachineNilCardSaid := ml_card (table_sound names_ok of_ok idx398)
end Go.Proofs.YtgkcpkhifgnjoaaGreatDoor
