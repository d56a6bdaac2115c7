/- What the rows' proofs share: a world in which the listed variables are laid. -/
import Derived.Test.YtgkcpkhifgnjoaaGreatDoorIrD
import Derived.Test.YtgkcpkhifgnjoaaGreatDoorTie
import Derived.Test.YtgkcpkhifgnjoaaGreatDoorCards
import Derived.ChangeSame
import Derived.ChangeVars
import Derived.JoinedOf
import Derived.RowKit
import Derived.RowKitTokens
import Derived.LaidLaws
import Derived.LaidHandle
import Derived.Stop.Joined
import Derived.SevenTiedAt
import Derived.ProofKit
namespace Go.Proofs.YtgkcpkhifgnjoaaGreatDoor
open Go Go.ChangeShapes Go.WideShapes Go.RowKit Go.Ev
set_option maxRecDepth 100000

theorem Tryz.own : ownKnob Tryz.prog.godebug = none := by kernel_rfl

def litCells : DataW Unit → Array Value
  | .agg l => (l.map fun | .lit (.int k n) => Value.int k n | _ => undef).toArray
  | _ => #[]
def putG (h : Array Obj) (g : Nat) (cs : Array Value) : Array Obj := h.modify g fun
  | .cells _ t frozen => .cells cs t frozen
  | o => o

noncomputable def laidWorld (os : Os) : World :=
  let w0 := World.holding Tryz.prog os ⟨#[], #[], []⟩
  { w0 with heap := putG (putG (putG w0.heap 1 (litCells Rows.laid_math_bits_deBruijn32tab)) 2 (litCells Rows.laid_math_bits_deBruijn64tab)) 0 (litCells Rows.laid_internal_strconv_uint64pow10) }

theorem laidWorld_met (os : Os) (args : Array Value) : laidMetH Tryz.prog Rows.machineNamesRow.laid ((laidWorld os).forCall (fun _ _ => 0) ⟨#[], args, []⟩).memory :=
  laidMetH_of_parts (laidMet_of_run' 10 (by kernel_rfl) (by kernel_rfl)) (by kernel_rfl)

/-- Nothing that lay before has turned. -/
theorem kept_of {m m' : PM} {w w' : World} {g' : G} (x : ExtG m (T.e : H).get w m' g' w') (may : MemPlace → Prop) : w.keptBut w' may := by
  have hb : ∀ b, b < w.heap.size → w'.heap[b]? = w.heap[b]? := fun b hb => x.keep b hb fun id o s h => by simp at h
  have h0 := World.keptBut_refl w may
  refine ⟨x.os, x.out, fun i hi => ?_⟩
  rw [hb i hi]; exact h0.2.2 i hi

/-- Nothing that lay before has turned: as the kit says it. -/
theorem below_of {m m' : PM} {w w' : World} {g' : G} (x : ExtG m (T.e : H).get w m' g' w') : Below w.heap.size w w' := by
  have hb : ∀ b, b < w.heap.size → w'.heap[b]? = w.heap[b]? := fun b hb => x.keep b hb fun id o s h => by simp at h
  exact ⟨x.os, x.tape, x.out, x.size, hb⟩
theorem kept_below {w w' : World} (x : Below w.heap.size w w') (may : MemPlace → Prop) : w.keptBut w' may := by
  have h0 := World.keptBut_refl w may
  refine ⟨x.os, x.output, fun i hi => ?_⟩
  rw [x.block i hi]; exact h0.2.2 i hi
theorem Tryz.laidOut : laidOutB Tryz.prog = true := by kernel_rfl
end Go.Proofs.YtgkcpkhifgnjoaaGreatDoor
