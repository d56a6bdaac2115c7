/- MachineNames: the card. -/
import Derived.Test.YtgkcpkhifgnjoaaGreatDoorMnP
namespace Go.Proofs.YtgkcpkhifgnjoaaGreatDoor
open Go Go.ChangeShapes Go.WideShapes Go.RowKit Go.Ev
set_option maxRecDepth 100000
/-- Where no function's text starts a goroutine, no call is said to. -/
theorem goesAt_none {P : Program} (h : P.funcs.toList.any Func.goes = false) (func : String) : P.goesAt .entering func = false := by
  have hall : ∀ (f : Nat) (fn : Func), P.funcs[f]? = some fn → fn.goes = false := fun f fn hf => by
    have hm : fn ∈ P.funcs.toList := by
      obtain ⟨hlt, e⟩ := Array.getElem?_eq_some_iff.1 hf
      rw [← e]; simp
    cases hg : fn.goes with
    | false => rfl
    | true => rw [List.any_eq_true.2 ⟨fn, hm, hg⟩] at h; cases h
  have hany : P.funcs.any Func.goes = false := by rw [← Array.any_toList]; exact h
  have hgoes : ∀ f, P.goes f = false := fun f => by
    unfold Program.goes
    rw [hany, Bool.and_false, Bool.or_false]
    simp only [List.any_eq_false]
    intro g _
    cases hf : P.funcs[g]? with
    | none => simp
    | some fn => simp [hall g fn hf]
  unfold Program.goesAt Program.goesFrom
  cases hf : P.funcNamed func with
  | none => simp
  | some f => simp [hgoes f]

theorem no_goes : Tryz.prog.funcs.toList.any Func.goes = false := by kernel_rfl

set_option maxHeartbeats 20000000 in
theorem mn_card (hT : TableSound Tryz.prog table) : Rows.MachineNamesCardSaid :=
  Claim7.holds_tied_plain_at .later [] [.data, .data, .data] true (true, "b32f1650c3825ed716dbdf67a4a90998d1cae2fc7440720847d22b023cd01e98") false
    (mn_holds hT) (fun _ h => by cases h) (by as_aux_lemma => kernel_rfl) (fun _ h => by cases h) machineNames_row_tie rfl ⟨rfl, rfl⟩ (by as_aux_lemma => kernel_rfl) rfl
    (fun f fn hf hfn => by
      obtain rfl : f = 3 := Option.some.inj ((show Tryz.prog.funcNamed "thunkmill/thunkmilllaw25.MachineNames" = some 3 by as_aux_lemma => kernel_rfl).symm.trans hf) |>.symm
      obtain rfl : fn = Tryz.f3 := (Option.some.inj (Tryz.func3.symm.trans hfn)).symm
      exact ⟨by as_aux_lemma => kernel_rfl, fun j t ht => by
        rw [Tryz.params3] at ht
        simp at ht⟩)
    (goesAt_none no_goes _).symm
end Go.Proofs.YtgkcpkhifgnjoaaGreatDoor
