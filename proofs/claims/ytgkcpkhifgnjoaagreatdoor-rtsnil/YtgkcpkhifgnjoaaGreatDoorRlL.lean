/- An argument's cells, of which nothing is known but their kinds. -/
import Derived.Test.YtgkcpkhifgnjoaaGreatDoorEvV
import Derived.ChangeSame
import Derived.Test.YtgkcpkhifgnjoaaGreatDoorProg
namespace Go.Ev
open Go Go.Proofs Go.ChangeShapes Go.WideShapes
variable {H : Type} {enc : TypeId × Value → H} {P : Program} {w : World} {base : Nat} {spare : Nat → Bool} {held : Bool}

def leafD : TypeDesc → Bool
  | .int _ => true
  | .string => true
  | .slice _ => true
  | _ => false

theorem leaf_ok {t : TypeId} {d : TypeDesc} (ht : P.underlying t = some d) (hd : leafD d = true) {fuel : Nat} {c : Value} {x : DataW H × List MemPlace} (h : DataW.trod enc P w base spare held fuel t [c] = some x) : opqOk c = true := by
  cases fuel with
  | zero => simp [DataW.trod] at h
  | succ n =>
    unfold DataW.trod at h
    rw [ht] at h
    cases d <;> first | (cases hd; done) | skip
    all_goals cases c <;> first | rfl | (simp at h; done)

set_option maxRecDepth 100000 in
theorem act_cells {fuel : Nat} {cs : List Value} {x : DataW H × List MemPlace} (h : DataW.trod enc Tryz.prog w base spare held fuel 103 cs = some x) :
    ∃ c0 c1 c2, cs = [c0, c1, c2] ∧ opqOk c0 = true ∧ opqOk c1 = true ∧ opqOk c2 = true := by
  obtain ⟨xs, n, _, _, hl, hlen, hf⟩ := DataW.trod_struct Tryz.underlying103 h
  have e103 : Tryz.prog.cellsOf 103 = 3 := by kernel_rfl
  have u3 : Tryz.prog.underlying 3 = some (.int .i64) := by kernel_rfl
  have u93 : Tryz.prog.underlying 93 = some (.slice 5) := by kernel_rfl
  rw [e103] at hl
  match cs, hl, xs, hlen with
  | [c0, c1, c2], _, [y0, y1, y2], _ =>
    have g0 := hf 0 _ rfl
    have g1 := hf 1 _ rfl
    have g2 := hf 2 _ rfl
    exact ⟨c0, c1, c2, rfl, leaf_ok u3 rfl g0, leaf_ok u3 rfl g1, leaf_ok u93 rfl g2⟩

/-- Such a value is its cells put together. -/
theorem agg_of_cells {v : Value} (h : v.cells.size ≠ 1) : v = .agg v.cells := by
  cases v <;> first | rfl | (simp [Value.cells] at h; done)
end Go.Ev
