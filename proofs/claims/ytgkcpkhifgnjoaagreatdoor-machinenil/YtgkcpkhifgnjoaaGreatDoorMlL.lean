/- An argument's cells, of which nothing is known but their kinds. -/
import Derived.Test.YtgkcpkhifgnjoaaGreatDoorEvV
import Derived.ChangeSame
import Derived.Test.YtgkcpkhifgnjoaaGreatDoorProg
namespace Go.Ev
open Go Go.Proofs Go.ChangeShapes Go.WideShapes
variable {H : Type} {enc : TypeId × Value → H} {P : Program} {w : World} {base : Nat} {spare : Nat → Bool} {held : Bool}

def leafD : TypeDesc → Bool
  | .int _ => true
  | .string => true
  | .slice _ => true
  | _ => false

theorem leaf_ok {t : TypeId} {d : TypeDesc} (ht : P.underlying t = some d) (hd : leafD d = true) {fuel : Nat} {c : Value} {x : DataW H × List MemPlace} (h : DataW.trod enc P w base spare held fuel t [c] = some x) : opqOk c = true := by
  cases fuel with
  | zero => simp [DataW.trod] at h
  | succ n =>
    unfold DataW.trod at h
    rw [ht] at h
    cases d <;> first | (cases hd; done) | skip
    all_goals cases c <;> first | rfl | (simp at h; done)

set_option maxRecDepth 100000 in
theorem act_cells {fuel : Nat} {cs : List Value} {x : DataW H × List MemPlace} (h : DataW.trod enc Tryz.prog w base spare held fuel 55 cs = some x) :
    ∃ c0 c1 c2 c3 c4 c5 c6 c7 c8 c9 c10, cs = [c0, c1, c2, c3, c4, c5, c6, c7, c8, c9, c10] ∧ opqOk c0 = true ∧ opqOk c1 = true ∧ opqOk c2 = true ∧ opqOk c3 = true ∧ opqOk c4 = true ∧ opqOk c5 = true ∧ opqOk c6 = true ∧ opqOk c7 = true ∧ opqOk c8 = true ∧ opqOk c9 = true ∧ opqOk c10 = true := by
  obtain ⟨xs, n, _, _, hl, hlen, hf⟩ := DataW.trod_struct Tryz.underlying55 h
  have e55 : Tryz.prog.cellsOf 55 = 11 := by kernel_rfl
  have u3 : Tryz.prog.underlying 3 = some (.int .i64) := by kernel_rfl
  have u2 : Tryz.prog.underlying 2 = some (.int .i64) := by kernel_rfl
  have u9 : Tryz.prog.underlying 9 = some .string := by kernel_rfl
  have u51 : Tryz.prog.underlying 51 = some (.slice 43) := by kernel_rfl
  rw [e55] at hl
  match cs, hl, xs, hlen with
  | [c0, c1, c2, c3, c4, c5, c6, c7, c8, c9, c10], _, [y0, y1, y2, y3, y4], _ =>
    have g0 := hf 0 _ rfl
    have g1 := hf 1 _ rfl
    have g2 := hf 2 _ rfl
    have g3 := hf 3 _ rfl
    have g4 := hf 4 _ rfl
    obtain ⟨xs2, n2, _, _, _, hlen2, hf2⟩ := DataW.trod_struct Tryz.underlying43 g2
    obtain ⟨xs3, n3, _, _, _, hlen3, hf3⟩ := DataW.trod_struct Tryz.underlying53 g3
    match xs2, hlen2, xs3, hlen3 with
    | [z0, z1], _, [a0, a1, a2, a3, a4, a5], _ =>
      have k0 := hf2 0 _ rfl
      have k1 := hf2 1 _ rfl
      have m0 := hf3 0 _ rfl
      have m1 := hf3 1 _ rfl
      have m2 := hf3 2 _ rfl
      have m3 := hf3 3 _ rfl
      have m4 := hf3 4 _ rfl
      have m5 := hf3 5 _ rfl
      exact ⟨c0, c1, c2, c3, c4, c5, c6, c7, c8, c9, c10, rfl, leaf_ok u3 rfl g0, leaf_ok u3 rfl g1, leaf_ok u3 rfl k0, leaf_ok u2 rfl k1, leaf_ok u3 rfl m0, leaf_ok u3 rfl m1, leaf_ok u3 rfl m2, leaf_ok u9 rfl m3, leaf_ok u51 rfl m4, leaf_ok u51 rfl m5, leaf_ok u9 rfl g4⟩

/-- Such a value is its cells put together. -/
theorem agg_of_cells {v : Value} (h : v.cells.size ≠ 1) : v = .agg v.cells := by
  cases v <;> first | rfl | (simp [Value.cells] at h; done)
end Go.Ev
