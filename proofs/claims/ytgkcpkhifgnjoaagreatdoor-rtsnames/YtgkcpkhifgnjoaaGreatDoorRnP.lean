/- RtsNames: the row, out of what the evaluator finds. -/
import Derived.Test.YtgkcpkhifgnjoaaGreatDoorMnQ
import Derived.Test.YtgkcpkhifgnjoaaGreatDoorRnE
namespace Go.Proofs.YtgkcpkhifgnjoaaGreatDoor
open Go Go.ChangeShapes Go.WideShapes Go.RowKit Go.Ev
set_option maxRecDepth 100000

/-- A call without arguments that hands back true. -/
theorem calls_of_eval {f : Nat} {fn : Func} (hf : Tryz.prog.funcs[f]? = some fn) (hn : (fn.name == "runtime.NumGoroutine") = false) (hb : fn.body.isNone = false)
    (v : AV) (h' : H) (nx' : Pos) (hs : CallSem Tryz.prog f [] (T.e : H).get .one v h'.get nx') (hv : v = .bool true) (w : World) :
    Calls Tryz.prog f #[] w fun e w' => e = .returned (.bool true) ∧ ∀ may, w.keptBut w' may := by
  subst hv
  have h1 := hs.2 (fun _ => none) w [] ⟨fun id o h => by simp at h, fun _ _ _ _ _ _ h => by simp at h⟩ rfl (fun _ _ _ => rfl)
  rcases h1 with ⟨V, w', e1, _⟩ | ⟨_, e2⟩
  · exfalso
    have hn' : ¬ fn.name = "runtime.NumGoroutine" := by simpa using hn
    have hb' : ¬ fn.body = none := by intro e; rw [e] at hb; cases hb
    simp [callFunc, hf, hn', hb'] at e1
  · refine Calls.mono e2 ?_
    rintro e w' ⟨V, rfl, m', hV, hd⟩
    have hV : V = _ := hV
    subst hV
    exact ⟨rfl, kept_of hd.ext⟩

theorem rn_calls (hT : TableSound Tryz.prog table2) (w : World) : Calls Tryz.prog 5 #[] w fun e w' => e = .returned (.bool true) ∧ ∀ may, w.keptBut w' may := by
  obtain ⟨v, h', nx', h1, h2⟩ := eval_sound mixed hT 100000 rn_eval
  exact calls_of_eval Tryz.func5 (by kernel_rfl) (by kernel_rfl) v h' nx' h2 (AV.beq_eq h1) w

set_option maxHeartbeats 20000000 in
theorem rn_lifted (hT : TableSound Tryz.prog table2) (os : Os) (started : os.Started) (H : Type) (enc : TypeId × Value → H) :
    ReturnsInHanded {} Tryz.checked os 5 .any (fun w args => (Rows.rtsNamesSpec.pre enc Tryz.prog Tryz.f5 [] false w args ∧ laidMetH Tryz.prog Rows.rtsNamesRow.laid w) ∧ sizedMet enc Tryz.prog Tryz.f5 (OpenSpec.ofChange Rows.rtsNamesSpec) false w args)
      (Rows.rtsNamesSpec.post enc Tryz.prog Tryz.f5 false true false false) := by
  refine returnsInHanded_of_change_and (C := Tryz.checked) (X := fun w _ => laidMetH Tryz.prog Rows.rtsNamesRow.laid w) (fun _ _ _ hh h => h.of_heap hh) Tryz.own started (by kernel_rfl) Tryz.func5
    (ChangeSpec.witness_at (enc := enc) (C := Tryz.checked) (os := os) (X := fun w _ => laidMetH Tryz.prog Rows.rtsNamesRow.laid w) false (laidWorld os) #[] 8 rfl (by kernel_rfl) (by kernel_rfl) (by kernel_rfl) (by kernel_rfl) (by kernel_rfl) (laidWorld_met os _)) ?_
  intro W base args ds gs before hval0 hW _ _ hL _
  have hW' := hW
  obtain ⟨p, q, hA0, hV0, rfl, hfz, hnd⟩ := hW
  have hA : DataW.TrodAll enc Tryz.prog W 0 (fun _ => true) true Tryz.f5.params.toList args.toList ds p := hA0
  have hV : DataW.TrodVars enc Tryz.prog W (fun _ => true) [] gs q := hV0
  rw [Tryz.params5] at hA
  obtain ⟨rfl, rfl, rfl⟩ := trodAll_none hA
  obtain ⟨rfl, rfl⟩ := trodVars_none hV
  have e1 : Rows.rtsNamesSpec.fn H ([] ++ []) = { results := [.lit (.bool true)], args := [] } := by simp [Rows.rtsNamesSpec]
  refine (rn_calls hT W).mono fun e W' ⟨he, hw⟩ => ?_
  subst he
  refine ⟨_, rfl, _, _, _, [], [], [], hW', ?_, ?_, ?_, hw _, fun h => by cases h⟩
  · rw [e1]; exact trodAll_mk1 (shut_bool (by kernel_rfl) true)
  · rw [e1]; exact trodAll_mk0
  · rw [e1]; rfl

set_option maxHeartbeats 20000000 in
theorem rn_facts : joinedFacts Tryz.prog 5 Tryz.f5 Rows.rtsNamesSpec Rows.rtsNamesRow = true := by
  unfold joinedFacts
  repeat' rw [Bool.and_eq_true]
  repeat' apply And.intro
  all_goals as_aux_lemma => kernel_rfl

theorem rn_instance : Tryz.f5.isInstance Tryz.prog Rows.rtsNamesRow.origin Rows.rtsNamesRow.targs := of_decide_eq_true (by kernel_rfl)

set_option maxHeartbeats 20000000 in
theorem rn_holds (hT : TableSound Tryz.prog table2) : Rows.RtsNamesSaid :=
  OpenClaim.holds_of_wide 5 Tryz.f5 rfl rfl rfl rfl rfl rfl rfl ⟨rfl, rfl, rfl, rfl, rfl⟩ rfl rfl rfl rfl rfl (by as_aux_lemma => kernel_rfl) Tryz.func5 rn_facts
    rn_instance (by unfold Func.isWrapper; rw [if_neg (of_decide_eq_false (by kernel_rfl))]; exact ⟨rfl, rfl⟩)
    (fun os started H enc _ => rn_lifted hT os started H enc)

end Go.Proofs.YtgkcpkhifgnjoaaGreatDoor
