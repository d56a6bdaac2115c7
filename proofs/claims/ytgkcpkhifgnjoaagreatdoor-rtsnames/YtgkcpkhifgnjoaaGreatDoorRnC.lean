/- RtsNames: the card. -/
import Derived.Test.YtgkcpkhifgnjoaaGreatDoorRnP
namespace Go.Proofs.YtgkcpkhifgnjoaaGreatDoor
open Go Go.ChangeShapes Go.WideShapes Go.RowKit Go.Ev
set_option maxRecDepth 100000
set_option maxHeartbeats 20000000 in
theorem rn_card (hT : TableSound Tryz.prog table2) : Rows.RtsNamesCardSaid :=
  Claim7.holds_tied_plain_at .later [] [.data, .data, .data] true (true, "b32f1650c3825ed716dbdf67a4a90998d1cae2fc7440720847d22b023cd01e98") false
    (rn_holds hT) (fun _ h => by cases h) (by as_aux_lemma => kernel_rfl) (fun _ h => by cases h) rtsNames_row_tie rfl ⟨rfl, rfl⟩ (by as_aux_lemma => kernel_rfl) rfl
    (fun f fn hf hfn => by
      obtain rfl : f = 5 := Option.some.inj ((show Tryz.prog.funcNamed "thunkmill/thunkmilllaw26.RtsNames" = some 5 by as_aux_lemma => kernel_rfl).symm.trans hf) |>.symm
      obtain rfl : fn = Tryz.f5 := (Option.some.inj (Tryz.func5.symm.trans hfn)).symm
      exact ⟨by as_aux_lemma => kernel_rfl, fun j t ht => by
        rw [Tryz.params5] at ht
        simp at ht⟩)
    (by as_aux_lemma => kernel_rfl)
end Go.Proofs.YtgkcpkhifgnjoaaGreatDoor
