/- MachineNil: the row, out of what the evaluator finds. -/
import Derived.Test.YtgkcpkhifgnjoaaGreatDoorMnQ
import Derived.Test.YtgkcpkhifgnjoaaGreatDoorMlE
import Derived.Test.YtgkcpkhifgnjoaaGreatDoorMlL
import Derived.Carry
import Derived.ChangeSame
import Derived.OpenShut
namespace Go.Proofs.YtgkcpkhifgnjoaaGreatDoor
open Go Go.ChangeShapes Go.WideShapes Go.RowKit Go.Ev
set_option maxRecDepth 100000

theorem ml_calls (hT : TableSound Tryz.prog table) (w : World) (c0 c1 c2 c3 c4 c5 c6 c7 c8 c9 c10 : Value) (h0 : opqOk c0 = true) (h1 : opqOk c1 = true) (h2 : opqOk c2 = true) (h3 : opqOk c3 = true) (h4 : opqOk c4 = true) (h5 : opqOk c5 = true) (h6 : opqOk c6 = true) (h7 : opqOk c7 = true) (h8 : opqOk c8 = true) (h9 : opqOk c9 = true) (h10 : opqOk c10 = true) :
    Calls Tryz.prog 4 #[.agg #[c0, c1, c2, c3, c4, c5, c6, c7, c8, c9, c10]] w fun e w' => e = .returned (.bool true) ∧ Below w.heap.size w w' := by
  obtain ⟨v, h', nx', k1, k2⟩ := eval_sound mixed hT 100000 (ml_eval c0 c1 c2 c3 c4 c5 c6 c7 c8 c9 c10)
  have hv : v = .bool true := AV.beq_eq k1
  subst hv
  have hl : LRel (fun _ => none) [.agg [.opq c0, .opq c1, .opq c2, .opq c3, .opq c4, .opq c5, .opq c6, .opq c7, .opq c8, .opq c9, .opq c10]] [.agg #[c0, c1, c2, c3, c4, c5, c6, c7, c8, c9, c10]] :=
    LRel.cons ⟨[c0, c1, c2, c3, c4, c5, c6, c7, c8, c9, c10], LRel.cons ⟨rfl, h0⟩ (LRel.cons ⟨rfl, h1⟩ (LRel.cons ⟨rfl, h2⟩ (LRel.cons ⟨rfl, h3⟩ (LRel.cons ⟨rfl, h4⟩ (LRel.cons ⟨rfl, h5⟩ (LRel.cons ⟨rfl, h6⟩ (LRel.cons ⟨rfl, h7⟩ (LRel.cons ⟨rfl, h8⟩ (LRel.cons ⟨rfl, h9⟩ (LRel.cons ⟨rfl, h10⟩ LRel.nil)))))))))), rfl⟩ LRel.nil
  have hc := k2.2 (fun _ => none) w _ ⟨fun id o h => by simp at h, fun _ _ _ _ _ _ h => by simp at h⟩ hl (fun _ _ _ => rfl)
  rcases hc with ⟨V, w', e1, _⟩ | ⟨_, e2⟩
  · exfalso
    have hn' : ¬ Tryz.f4.name = "runtime.NumGoroutine" := of_decide_eq_false (by kernel_rfl)
    have hb' : ¬ Tryz.f4.body = none := by intro e; have : Tryz.f4.body.isNone = false := by kernel_rfl
                                           rw [e] at this; cases this
    simp [callFunc, Tryz.func4, hn', hb'] at e1
  · refine Calls.mono e2 ?_
    rintro e w' ⟨V, rfl, m', hV, hd⟩
    have hV : V = _ := hV
    subst hV
    exact ⟨rfl, below_of hd.ext⟩

set_option maxHeartbeats 20000000 in
theorem ml_lifted (hT : TableSound Tryz.prog table) (os : Os) (started : os.Started) (H : Type) (enc : TypeId × Value → H) :
    ReturnsInHanded {} Tryz.checked os 4 .any (fun w args => (Rows.machineNilSpec.pre enc Tryz.prog Tryz.f4 [] false w args ∧ laidMetH Tryz.prog Rows.machineNilRow.laid w) ∧ sizedMet enc Tryz.prog Tryz.f4 (OpenSpec.ofChange Rows.machineNilSpec) false w args)
      (Rows.machineNilSpec.post enc Tryz.prog Tryz.f4 false true false false) := by
  refine returnsInHanded_of_change_and (C := Tryz.checked) (X := fun w _ => laidMetH Tryz.prog Rows.machineNilRow.laid w) (fun _ _ _ hh h => h.of_heap hh) Tryz.own started (by kernel_rfl) Tryz.func4
    (ChangeSpec.witness_at (enc := enc) (C := Tryz.checked) (os := os) (X := fun w _ => laidMetH Tryz.prog Rows.machineNilRow.laid w) false (laidWorld os) #[.agg #[.int .i64 0, .int .i64 0, .int .i64 0, .int .i64 0, .int .i64 0, .int .i64 0, .int .i64 0, .string ⟨#[]⟩, .slice none 0 0, .slice none 0 0, .string ⟨#[]⟩]] 8 rfl (by kernel_rfl) (by kernel_rfl) (by kernel_rfl) (by kernel_rfl) (by kernel_rfl) (laidWorld_met os _)) ?_
  intro W base args ds gs before hval0 hW _ _ hL _
  have hW' := hW
  obtain ⟨p, q, hA0, hV0, rfl, hfz, hnd⟩ := hW
  have hA : DataW.TrodAll enc Tryz.prog W 0 (fun _ => true) true Tryz.f4.params.toList args.toList ds p := hA0
  have hV : DataW.TrodVars enc Tryz.prog W (fun _ => true) [] gs q := hV0
  rw [Tryz.params4] at hA
  obtain ⟨v, d, rfl, rfl, ht⟩ := trodAll_one hA
  obtain ⟨rfl, rfl⟩ := trodVars_none hV
  have ht0 := ht
  obtain ⟨fuel, htr⟩ := ht
  obtain ⟨c0, c1, c2, c3, c4, c5, c6, c7, c8, c9, c10, hcs, h0, h1, h2, h3, h4, h5, h6, h7, h8, h9, h10⟩ := act_cells htr
  have hcells : v.cells = #[c0, c1, c2, c3, c4, c5, c6, c7, c8, c9, c10] := by
    rw [← Array.toArray_toList (xs := v.cells), hcs]
  have hagg := agg_of_cells (v := v) (by rw [hcells]; simp)
  rw [hcells] at hagg
  subst hagg
  have e1 : Rows.machineNilSpec.fn H ([d] ++ []) = { results := [.lit (.bool true)], args := [d] } := by simp [Rows.machineNilSpec]
  refine (ml_calls hT W c0 c1 c2 c3 c4 c5 c6 c7 c8 c9 c10 h0 h1 h2 h3 h4 h5 h6 h7 h8 h9 h10).mono fun e W' ⟨he, hw⟩ => ?_
  subst he
  have hlt : ∀ x ∈ p, x.block < W.heap.size := fun x hx => by simpa using hW'.lt x (by simpa using hx)
  refine ⟨_, rfl, _, _, _, [], p, [], hW', ?_, ?_, ?_, kept_below hw _, fun h => by cases h⟩
  · rw [e1]; exact trodAll_mk1 (shut_bool (by kernel_rfl) true)
  · rw [e1]; exact trodAll_mk1 (Below.trod Tryz.laidOut (by kernel_rfl) (of_decide_eq_true (by kernel_rfl)) ht0 hw hlt)
  · rw [e1]; rfl

set_option maxHeartbeats 20000000 in
theorem ml_facts : joinedFacts Tryz.prog 4 Tryz.f4 Rows.machineNilSpec Rows.machineNilRow = true := by
  unfold joinedFacts
  repeat' rw [Bool.and_eq_true]
  repeat' apply And.intro
  all_goals as_aux_lemma => kernel_rfl

theorem ml_instance : Tryz.f4.isInstance Tryz.prog Rows.machineNilRow.origin Rows.machineNilRow.targs := of_decide_eq_true (by kernel_rfl)

set_option maxHeartbeats 20000000 in
theorem ml_holds (hT : TableSound Tryz.prog table) : Rows.MachineNilSaid :=
  OpenClaim.holds_of_wide 4 Tryz.f4 rfl rfl rfl rfl rfl rfl rfl ⟨rfl, rfl, rfl, rfl, rfl⟩ rfl rfl rfl rfl rfl (by as_aux_lemma => kernel_rfl) Tryz.func4 ml_facts
    ml_instance (by unfold Func.isWrapper; rw [if_neg (of_decide_eq_false (by kernel_rfl))]; exact ⟨rfl, rfl⟩)
    (fun os started H enc _ => ml_lifted hT os started H enc)

end Go.Proofs.YtgkcpkhifgnjoaaGreatDoor
