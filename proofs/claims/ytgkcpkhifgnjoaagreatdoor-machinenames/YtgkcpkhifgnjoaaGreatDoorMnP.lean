/- MachineNames: the row, out of what the evaluator finds. -/
import Derived.Test.YtgkcpkhifgnjoaaGreatDoorIrD
import Derived.Test.YtgkcpkhifgnjoaaGreatDoorMnE
import Derived.Test.YtgkcpkhifgnjoaaGreatDoorTie
import Derived.Test.YtgkcpkhifgnjoaaGreatDoorCards
import Derived.ChangeSame
import Derived.ChangeVars
import Derived.JoinedOf
import Derived.RowKit
import Derived.RowKitTokens
import Derived.LaidLaws
import Derived.LaidHandle
import Derived.Stop.Joined
import Derived.SevenTiedAt
import Derived.ProofKit
namespace Go.Proofs.YtgkcpkhifgnjoaaGreatDoor
open Go Go.ChangeShapes Go.WideShapes Go.RowKit Go.Ev
set_option maxRecDepth 100000

theorem Tryz.own : ownKnob Tryz.prog.godebug = none := by kernel_rfl

def litCells : DataW Unit → Array Value
  | .agg l => (l.map fun | .lit (.int k n) => Value.int k n | _ => undef).toArray
  | _ => #[]
def putG (h : Array Obj) (g : Nat) (cs : Array Value) : Array Obj := h.modify g fun
  | .cells _ t frozen => .cells cs t frozen
  | o => o

noncomputable def laidWorld (os : Os) : World :=
  let w0 := World.holding Tryz.prog os ⟨#[], #[], []⟩
  { w0 with heap := putG (putG (putG w0.heap 1 (litCells Rows.laid_math_bits_deBruijn32tab)) 2 (litCells Rows.laid_math_bits_deBruijn64tab)) 0 (litCells Rows.laid_internal_strconv_uint64pow10) }

theorem laidWorld_met (os : Os) (args : Array Value) : laidMetH Tryz.prog Rows.machineNamesRow.laid ((laidWorld os).forCall (fun _ _ => 0) ⟨#[], args, []⟩).memory :=
  laidMetH_of_parts (laidMet_of_run' 10 (by kernel_rfl) (by kernel_rfl)) (by kernel_rfl)

/-- Nothing that lay before has turned. -/
theorem kept_of {m m' : PM} {w w' : World} {g' : G} (x : ExtG m (T.e : H).get w m' g' w') (may : MemPlace → Prop) : w.keptBut w' may := by
  have hb : ∀ b, b < w.heap.size → w'.heap[b]? = w.heap[b]? := fun b hb => x.keep b hb fun id o s h => by simp at h
  have h0 := World.keptBut_refl w may
  refine ⟨x.os, x.out, fun i hi => ?_⟩
  rw [hb i hi]; exact h0.2.2 i hi

/-- A call without arguments that hands back true. -/
theorem calls_of_eval {f : Nat} {fn : Func} (hf : Tryz.prog.funcs[f]? = some fn) (hn : (fn.name == "runtime.NumGoroutine") = false) (hb : fn.body.isNone = false)
    (v : AV) (h' : H) (nx' : Pos) (hs : CallSem Tryz.prog f [] (T.e : H).get .one v h'.get nx') (hv : v = .bool true) (w : World) :
    Calls Tryz.prog f #[] w fun e w' => e = .returned (.bool true) ∧ ∀ may, w.keptBut w' may := by
  subst hv
  have h1 := hs.2 (fun _ => none) w [] ⟨fun id o h => by simp at h, fun _ _ _ _ _ _ h => by simp at h⟩ rfl (fun _ _ _ => rfl)
  rcases h1 with ⟨V, w', e1, _⟩ | ⟨_, e2⟩
  · exfalso
    have hn' : ¬ fn.name = "runtime.NumGoroutine" := by simpa using hn
    have hb' : ¬ fn.body = none := by intro e; rw [e] at hb; cases hb
    simp [callFunc, hf, hn', hb'] at e1
  · refine Calls.mono e2 ?_
    rintro e w' ⟨V, rfl, m', hV, hd⟩
    have hV : V = _ := hV
    subst hV
    exact ⟨rfl, kept_of hd.ext⟩

theorem mn_calls (hT : TableSound Tryz.prog table) (w : World) : Calls Tryz.prog 3 #[] w fun e w' => e = .returned (.bool true) ∧ ∀ may, w.keptBut w' may := by
  obtain ⟨v, h', nx', h1, h2⟩ := eval_sound mixed hT 100000 mn_eval
  exact calls_of_eval Tryz.func3 (by kernel_rfl) (by kernel_rfl) v h' nx' h2 (AV.beq_eq h1) w

set_option maxHeartbeats 20000000 in
theorem mn_lifted (hT : TableSound Tryz.prog table) (os : Os) (started : os.Started) (H : Type) (enc : TypeId × Value → H) :
    ReturnsInHanded {} Tryz.checked os 3 .any (fun w args => (Rows.machineNamesSpec.pre enc Tryz.prog Tryz.f3 [] false w args ∧ laidMetH Tryz.prog Rows.machineNamesRow.laid w) ∧ sizedMet enc Tryz.prog Tryz.f3 (OpenSpec.ofChange Rows.machineNamesSpec) false w args)
      (Rows.machineNamesSpec.post enc Tryz.prog Tryz.f3 false true false false) := by
  refine returnsInHanded_of_change_and (C := Tryz.checked) (X := fun w _ => laidMetH Tryz.prog Rows.machineNamesRow.laid w) (fun _ _ _ hh h => h.of_heap hh) Tryz.own started (by kernel_rfl) Tryz.func3
    (ChangeSpec.witness_at (enc := enc) (C := Tryz.checked) (os := os) (X := fun w _ => laidMetH Tryz.prog Rows.machineNamesRow.laid w) false (laidWorld os) #[] 8 rfl (by kernel_rfl) (by kernel_rfl) (by kernel_rfl) (by kernel_rfl) (by kernel_rfl) (laidWorld_met os _)) ?_
  intro W base args ds gs before hval0 hW _ _ hL _
  have hW' := hW
  obtain ⟨p, q, hA0, hV0, rfl, hfz, hnd⟩ := hW
  have hA : DataW.TrodAll enc Tryz.prog W 0 (fun _ => true) true Tryz.f3.params.toList args.toList ds p := hA0
  have hV : DataW.TrodVars enc Tryz.prog W (fun _ => true) [] gs q := hV0
  rw [Tryz.params3] at hA
  obtain ⟨rfl, rfl, rfl⟩ := trodAll_none hA
  obtain ⟨rfl, rfl⟩ := trodVars_none hV
  have e1 : Rows.machineNamesSpec.fn H ([] ++ []) = { results := [.lit (.bool true)], args := [] } := by simp [Rows.machineNamesSpec]
  refine (mn_calls hT W).mono fun e W' ⟨he, hw⟩ => ?_
  subst he
  refine ⟨_, rfl, _, _, _, [], [], [], hW', ?_, ?_, ?_, hw _, fun h => by cases h⟩
  · rw [e1]; exact trodAll_mk1 (shut_bool (by kernel_rfl) true)
  · rw [e1]; exact trodAll_mk0
  · rw [e1]; rfl

set_option maxHeartbeats 20000000 in
theorem mn_facts : joinedFacts Tryz.prog 3 Tryz.f3 Rows.machineNamesSpec Rows.machineNamesRow = true := by
  unfold joinedFacts
  repeat' rw [Bool.and_eq_true]
  repeat' apply And.intro
  all_goals as_aux_lemma => kernel_rfl

theorem mn_instance : Tryz.f3.isInstance Tryz.prog Rows.machineNamesRow.origin Rows.machineNamesRow.targs := of_decide_eq_true (by kernel_rfl)

set_option maxHeartbeats 20000000 in
theorem mn_holds (hT : TableSound Tryz.prog table) : Rows.MachineNamesSaid :=
  OpenClaim.holds_of_wide 3 Tryz.f3 rfl rfl rfl rfl rfl rfl rfl ⟨rfl, rfl, rfl, rfl, rfl⟩ rfl rfl rfl rfl rfl (by as_aux_lemma => kernel_rfl) Tryz.func3 mn_facts
    mn_instance (by unfold Func.isWrapper; rw [if_neg (of_decide_eq_false (by kernel_rfl))]; exact ⟨rfl, rfl⟩)
    (fun os started H enc _ => mn_lifted hT os started H enc)

end Go.Proofs.YtgkcpkhifgnjoaaGreatDoor
