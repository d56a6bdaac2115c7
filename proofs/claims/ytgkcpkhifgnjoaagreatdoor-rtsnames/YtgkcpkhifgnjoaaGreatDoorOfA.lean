/- slices.Backward's iterator over the constructors, and core.of. -/
import Derived.RangeFuncBox
import Derived.RangeFuncLeaves
import Derived.Shelf.Abstract
import Derived.WalkKit
import Derived.OwnWalkIn
import Derived.TacticsInMore
import Derived.LoopNIn
import Derived.LoopIn
import Derived.RegionIn
import Derived.KernelRfl
import Derived.Test.YtgkcpkhifgnjoaaGreatDoorProg
namespace Go.Ev
open Go Go.Proofs Go.RowKit


set_option maxRecDepth 100000 in
set_option maxHeartbeats 2000000 in
/-- slices.Backward's iterator: from the last element to the first. -/
theorem back_in (F : Fence) (m : Nat) (hf : F.fn 328) (hro : F.round = none) (hm : 1 ≤ m) (l Bs b off len cap : Nat) (p : Option Addr) (hp : 0 < len → p = some ⟨b, off, none⟩) (hreach : len * 48 ≤ 140737488351232)
    (v0 v1 v2 v3 : Nat → Value) (J : Nat → World → Prop)
    (hJ : ∀ k W, J k W → W.cell? ⟨Bs, 0, none⟩ = some (.slice p len cap))
    (hJc : ∀ k W i, J k W → i < len → W.cell? ⟨b, off + i * 4, none⟩ = some (v0 i) ∧ W.cell? ⟨b, off + i * 4 + 1, none⟩ = some (v1 i) ∧ W.cell? ⟨b, off + i * 4 + 2, none⟩ = some (v2 i) ∧ W.cell? ⟨b, off + i * 4 + 3, none⟩ = some (v3 i))
    (hY : ∀ k W, k < len → J (k + 1) W → YieldAt F (m - 1) Tryz.prog l #[.int .i64 (k : Int), .agg #[v0 k, v1 k, v2 k, v3 k]] W fun e W' => e = .returned (.bool true) ∧ J k W')
    (W : World) (h0 : J len W) :
    CallsIn F m Tryz.prog 328 #[.func (.yield l) #[] #[], .pointer (some ⟨Bs, 0, none⟩)] W fun e W' => (∃ v, e = .returned v) ∧ J 0 W' := by
  refine callsIn_of_wp Tryz.func328 rfl hf ?_ hro
  simp only [Tryz.ntmps328, List.size_toArray, List.length_cons, List.length_nil, Nat.reduceAdd, Nat.reduceSub, Array.replicate_succ, Array.replicate_zero, List.push_toArray, List.append_toArray, List.nil_append, List.cons_append]
  have hBs := hJ _ _ h0
  gi_wp2
  gi_loopw [3] (fun i wr => ∃ k : Nat, k ≤ len ∧ i = .int .i64 ((k : Int) - 1) ∧ J k wr)
    (fun i _ => (intOf i + 1).toNat)
  case atStart => exact ⟨len, Nat.le_refl _, rfl, h0⟩
  case round =>
    obtain ⟨k, hk, rfl, hJs⟩ := hrel
    have hBs := hJ _ _ hJs
    cases k with
    | zero =>
      gi_wp2
      go_end0
      exact ⟨⟨_, rfl⟩, hJs⟩
    | succ k =>
      obtain ⟨c0, c1, c2, c3⟩ := hJc _ _ k hJs (by omega)
      have hp := hp (by omega)
      subst hp
      obtain ⟨fn, tmps, assign, body, hy, hR⟩ := hY k wr (by omega) hJs
      gi_wp2
      refine hR.mono ?_
      rintro e W3 ⟨rfl, hJ3⟩
      gi_wp2
      go_roundw
      case rel => exact ⟨k, by omega, by simp, hJ3⟩
      case measure => simp [intOf]
end Go.Ev
