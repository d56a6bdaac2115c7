/- The statement MachineNames holds: the numbers and worked examples of the chapter on the machine come out as they are written, whatever the world it is called in. No conditions. -/
import Derived.Test.YtgkcpkhifgnjoaaGreatDoorMnC
import Derived.Test.YtgkcpkhifgnjoaaGreatDoorNmI
import Derived.Test.YtgkcpkhifgnjoaaGreatDoorOfC
namespace Go.Proofs.YtgkcpkhifgnjoaaGreatDoor
open Go.Ev
theorem machineNames_holds : Rows.MachineNamesCardSaid := mn_card (table_sound names_ok of_ok idx398)
end Go.Proofs.YtgkcpkhifgnjoaaGreatDoor
