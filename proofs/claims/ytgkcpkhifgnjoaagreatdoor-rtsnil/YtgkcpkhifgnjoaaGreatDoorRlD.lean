/- The statement RtsNil holds: a run that is not there, or that nobody made, refuses every call, whatever the call's argument. No conditions. -/
import Derived.Test.YtgkcpkhifgnjoaaGreatDoorRlC
import Derived.Test.YtgkcpkhifgnjoaaGreatDoorNmI
import Derived.Test.YtgkcpkhifgnjoaaGreatDoorOfC
namespace Go.Proofs.YtgkcpkhifgnjoaaGreatDoor
open Go.Ev
theorem rtsNil_holds : Rows.RtsNilCardSaid := rl_card (table_sound names_ok of_ok idx398)
end Go.Proofs.YtgkcpkhifgnjoaaGreatDoor
