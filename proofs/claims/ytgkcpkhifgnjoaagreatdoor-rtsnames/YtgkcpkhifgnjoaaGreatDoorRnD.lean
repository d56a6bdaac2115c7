/- The statement RtsNames holds: the numbers and worked examples of the chapter on runs come out as they are written, whatever the world it is called in. No conditions. -/
import Derived.Test.YtgkcpkhifgnjoaaGreatDoorRnC
import Derived.Test.YtgkcpkhifgnjoaaGreatDoorRnA
import Derived.Test.YtgkcpkhifgnjoaaGreatDoorNmI
import Derived.Test.YtgkcpkhifgnjoaaGreatDoorOfC
namespace Go.Proofs.YtgkcpkhifgnjoaaGreatDoor
open Go.Ev
theorem memos_ok : EntryOk Tryz.prog 37 (.ext (memoX memos)) := memo_ok fun x hx => by
  have hT := table_sound names_ok of_ok idx398
  simp only [memos, List.mem_cons, List.not_mem_nil, or_false] at hx
  rcases hx with rfl | rfl | rfl | rfl
  · exact memo_of_run mixed hT 100000 memo1_run
  · exact memo_of_run mixed hT 100000 memo2_run
  · exact memo_of_run mixed hT 100000 memo3_run
  · exact memo_of_run mixed hT 100000 memo4_run
theorem rtsNames_holds : Rows.RtsNamesCardSaid := rn_card (table2_sound names_ok of_ok idx398 memos_ok)
end Go.Proofs.YtgkcpkhifgnjoaaGreatDoor
