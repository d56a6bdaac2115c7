/- RtsNil: the row, out of what the evaluator finds. -/
import Derived.Test.YtgkcpkhifgnjoaaGreatDoorMnQ
import Derived.Test.YtgkcpkhifgnjoaaGreatDoorRlE
import Derived.Test.YtgkcpkhifgnjoaaGreatDoorRlL
import Derived.Carry
import Derived.ChangeSame
import Derived.OpenShut
namespace Go.Proofs.YtgkcpkhifgnjoaaGreatDoor
open Go Go.ChangeShapes Go.WideShapes Go.RowKit Go.Ev
set_option maxRecDepth 100000

theorem rl_calls (hT : TableSound Tryz.prog table) (w : World) (c0 c1 c2 : Value) (h0 : opqOk c0 = true) (h1 : opqOk c1 = true) (h2 : opqOk c2 = true) :
    Calls Tryz.prog 6 #[.agg #[c0, c1, c2]] w fun e w' => e = .returned (.bool true) ∧ Below w.heap.size w w' := by
  obtain ⟨v, h', nx', k1, k2⟩ := eval_sound mixed hT 100000 (rl_eval c0 c1 c2)
  have hv : v = .bool true := AV.beq_eq k1
  subst hv
  have hl : LRel (fun _ => none) [.agg [.opq c0, .opq c1, .opq c2]] [.agg #[c0, c1, c2]] :=
    LRel.cons ⟨[c0, c1, c2], LRel.cons ⟨rfl, h0⟩ (LRel.cons ⟨rfl, h1⟩ (LRel.cons ⟨rfl, h2⟩ LRel.nil)), rfl⟩ LRel.nil
  have hc := k2.2 (fun _ => none) w _ ⟨fun id o h => by simp at h, fun _ _ _ _ _ _ h => by simp at h⟩ hl (fun _ _ _ => rfl)
  rcases hc with ⟨V, w', e1, _⟩ | ⟨_, e2⟩
  · exfalso
    have hn' : ¬ Tryz.f6.name = "runtime.NumGoroutine" := of_decide_eq_false (by kernel_rfl)
    have hb' : ¬ Tryz.f6.body = none := by intro e; have : Tryz.f6.body.isNone = false := by kernel_rfl
                                           rw [e] at this; cases this
    simp [callFunc, Tryz.func6, hn', hb'] at e1
  · refine Calls.mono e2 ?_
    rintro e w' ⟨V, rfl, m', hV, hd⟩
    have hV : V = _ := hV
    subst hV
    exact ⟨rfl, below_of hd.ext⟩

set_option maxHeartbeats 20000000 in
theorem rl_lifted (hT : TableSound Tryz.prog table) (os : Os) (started : os.Started) (H : Type) (enc : TypeId × Value → H) :
    ReturnsInHanded {} Tryz.checked os 6 .any (fun w args => (Rows.rtsNilSpec.pre enc Tryz.prog Tryz.f6 [] false w args ∧ laidMetH Tryz.prog Rows.rtsNilRow.laid w) ∧ sizedMet enc Tryz.prog Tryz.f6 (OpenSpec.ofChange Rows.rtsNilSpec) false w args)
      (Rows.rtsNilSpec.post enc Tryz.prog Tryz.f6 false true false false) := by
  refine returnsInHanded_of_change_and (C := Tryz.checked) (X := fun w _ => laidMetH Tryz.prog Rows.rtsNilRow.laid w) (fun _ _ _ hh h => h.of_heap hh) Tryz.own started (by kernel_rfl) Tryz.func6
    (ChangeSpec.witness_at (enc := enc) (C := Tryz.checked) (os := os) (X := fun w _ => laidMetH Tryz.prog Rows.rtsNilRow.laid w) false (laidWorld os) #[.agg #[.int .i64 0, .int .i64 0, .slice none 0 0]] 8 rfl (by kernel_rfl) (by kernel_rfl) (by kernel_rfl) (by kernel_rfl) (by kernel_rfl) (laidWorld_met os _)) ?_
  intro W base args ds gs before hval0 hW _ _ hL _
  have hW' := hW
  obtain ⟨p, q, hA0, hV0, rfl, hfz, hnd⟩ := hW
  have hA : DataW.TrodAll enc Tryz.prog W 0 (fun _ => true) true Tryz.f6.params.toList args.toList ds p := hA0
  have hV : DataW.TrodVars enc Tryz.prog W (fun _ => true) [] gs q := hV0
  rw [Tryz.params6] at hA
  obtain ⟨v, d, rfl, rfl, ht⟩ := trodAll_one hA
  obtain ⟨rfl, rfl⟩ := trodVars_none hV
  have ht0 := ht
  obtain ⟨fuel, htr⟩ := ht
  obtain ⟨c0, c1, c2, hcs, h0, h1, h2⟩ := act_cells htr
  have hcells : v.cells = #[c0, c1, c2] := by
    rw [← Array.toArray_toList (xs := v.cells), hcs]
  have hagg := agg_of_cells (v := v) (by rw [hcells]; simp)
  rw [hcells] at hagg
  subst hagg
  have e1 : Rows.rtsNilSpec.fn H ([d] ++ []) = { results := [.lit (.bool true)], args := [d] } := by simp [Rows.rtsNilSpec]
  refine (rl_calls hT W c0 c1 c2 h0 h1 h2).mono fun e W' ⟨he, hw⟩ => ?_
  subst he
  have hlt : ∀ x ∈ p, x.block < W.heap.size := fun x hx => by simpa using hW'.lt x (by simpa using hx)
  refine ⟨_, rfl, _, _, _, [], p, [], hW', ?_, ?_, ?_, kept_below hw _, fun h => by cases h⟩
  · rw [e1]; exact trodAll_mk1 (shut_bool (by kernel_rfl) true)
  · rw [e1]; exact trodAll_mk1 (Below.trod Tryz.laidOut (by kernel_rfl) (of_decide_eq_true (by kernel_rfl)) ht0 hw hlt)
  · rw [e1]; rfl

set_option maxHeartbeats 20000000 in
theorem rl_facts : joinedFacts Tryz.prog 6 Tryz.f6 Rows.rtsNilSpec Rows.rtsNilRow = true := by
  unfold joinedFacts
  repeat' rw [Bool.and_eq_true]
  repeat' apply And.intro
  all_goals as_aux_lemma => kernel_rfl

theorem rl_instance : Tryz.f6.isInstance Tryz.prog Rows.rtsNilRow.origin Rows.rtsNilRow.targs := of_decide_eq_true (by kernel_rfl)

set_option maxHeartbeats 20000000 in
theorem rl_holds (hT : TableSound Tryz.prog table) : Rows.RtsNilSaid :=
  OpenClaim.holds_of_wide 6 Tryz.f6 rfl rfl rfl rfl rfl rfl rfl ⟨rfl, rfl, rfl, rfl, rfl⟩ rfl rfl rfl rfl rfl (by as_aux_lemma => kernel_rfl) Tryz.func6 rl_facts
    rl_instance (by unfold Func.isWrapper; rw [if_neg (of_decide_eq_false (by kernel_rfl))]; exact ⟨rfl, rfl⟩)
    (fun os started H enc _ => rl_lifted hT os started H enc)

end Go.Proofs.YtgkcpkhifgnjoaaGreatDoor
