/- prim.Names, for the evaluator. -/
import Derived.Test.YtgkcpkhifgnjoaaGreatDoorNmH
import Derived.Test.YtgkcpkhifgnjoaaGreatDoorEvW
import Derived.Test.YtgkcpkhifgnjoaaGreatDoorEvX
import Derived.Test.YtgkcpkhifgnjoaaGreatDoorEvY
import Derived.Sort.OwnSorted
namespace Go.Ev
open Go Go.Proofs Go.RowKit Go.Maps Go.Sort Go.Shelf Go.WideElems Go.WideShapes
set_option maxRecDepth 100000

/-- The row, sorted. -/
def SortedRow (w' : World) (n0 g cap : Nat) (tt : List (List UInt8)) : Prop := w'.ownsRow n0 9 1 (.slice (some ⟨g, 0, none⟩) 24 cap) 24 ((tt.mergeSort fun x y => decide (x ≤ y)).map encStr)

theorem c113 (w : World) (n0 g cap : Nat) (tt : List (List UInt8)) (hl : tt.length = 24) (hrow : w.ownsRow n0 9 1 (.slice (some ⟨g, 0, none⟩) tt.length cap) tt.length (tt.map encStr)) (hn0 : n0 ≤ w.heap.size) :
    CallsIn Fence.wide 5 Tryz.prog 113 #[.slice (some ⟨g, 0, none⟩) 24 cap] w fun e w' => e = .returned (.tuple #[]) ∧
      SortedRow w' n0 g cap tt ∧ Below n0 w w' := by
  unfold SortedRow
  rw [← hl]
  rcases hrow.2 with ⟨hv, _⟩ | ⟨gb, cp, cur, hv, hbase, hgb, r1, r2, r3, r4⟩
  · cases hv
  · cases hv
    have hH : Holds encStr w g 0 tt.toArray := holds_of_block hgb (by simpa using r4)
    refine (callsIn_wide.2 (AnyM.slices_Sort_string Tryz.sort113 g 0 cap tt w hH (Array.getElem?_eq_some_iff.1 hgb).1 (by omega))).mono ?_
    rintro e w' ⟨rfl, nn, os, rfl⟩
    exact ⟨rfl, ownsRow_sorted (by simp) hbase hgb r1 r2 r3, (Below.refl _ w).grown (grownBy_sorted _) hn0 (fun j hj => by cases hj; exact hbase)⟩

set_option maxHeartbeats 1000000 in
theorem names_walk (w : World) : CallsIn Fence.wide 6 Tryz.prog 54 #[] w fun e w' => ∃ (g cap : Nat) (tt : List (List UInt8)), e = .returned (.slice (some ⟨g, 0, none⟩) 24 cap) ∧ tt.Perm (strsA ++ strsB) ∧
    SortedRow w' w.heap.size g cap tt ∧ Below w.heap.size w w' := by
  refine callsIn_of_wp Tryz.func54 rfl trivial ?_ rfl
  have h1 : Fence.wide.fn 110 := trivial
  have h2 : Fence.wide.fn 109 := trivial
  have h3 : Fence.wide.fn 108 := trivial
  have h4 : Fence.wide.fn 112 := trivial
  have h5 : Fence.wide.fn 111 := trivial
  have h6 : Fence.wide.fn 107 := trivial
  have h7 : Fence.wide.fn 113 := trivial
  simp only [Tryz.ntmps54, List.size_toArray, List.length_nil, Nat.reduceSub, Array.replicate_succ, Array.replicate_zero, List.push_toArray, List.append_toArray, List.nil_append, List.cons_append]
  gi_wp2_with (first
    | (gi_at_call 110; refine (c110 _ _).mono ?_; rintro e w1 ⟨b1, D1, rfl, hown1, hp1, hs1, hb1⟩)
    | (gi_at_call 109; refine (c109 _ _).mono ?_; rintro e w2 ⟨rfl, rfl⟩)
    | (gi_at_call 108; refine (c108 b1 D1 w1 hown1 hp1 hs1).mono ?_; rintro e w3 ⟨g0, cap0, ss0, rfl, h0, hrow0, hb3⟩)
    | (gi_at_call 112; refine (c112 _ _).mono ?_; rintro e w4 ⟨b2, D2, rfl, hown2, hp2, hs2, hb4⟩
       have hn4 : w.heap.size ≤ w4.heap.size := Nat.le_trans hb1.size (Nat.le_trans hb3.size hb4.size)
       have hrow4 := ownsRow_later (ownsRow_base_a hrow0 hb1.size) hb4
       have hbb4 : Below w.heap.size w w4 := (hb1.trans (hb3.mono hb1.size)).trans (hb4.mono (Nat.le_trans hb1.size hb3.size)))
    | (gi_at_call 111; refine (c111 _ _).mono ?_; rintro e w5 ⟨rfl, rfl⟩)
    | (gi_at_call 107; refine (c107 b2 D2 w4 hown2 hp2 hs2 w.heap.size hn4 g0 cap0 ss0 h0 hrow4).mono ?_; rintro e w6 ⟨g, cap, tt, rfl, htt, hrow6, hb6⟩
       have htl : tt.length = 24 := by rw [htt.length_eq]; rfl
       have hbb6 : Below w.heap.size w w6 := hbb4.trans hb6)
    | (gi_at_call 113; refine (c113 w6 w.heap.size g cap tt htl hrow6 hbb6.size).mono ?_; rintro e w7 ⟨rfl, hrow7, hb7⟩))
  go_ret
  exact ⟨g, cap, tt, rfl, htt, hrow7, hbb6.trans hb7⟩

def pairB : List (List UInt8) → Bool
  | [] => true
  | a :: l => l.all (leB a) && pairB l
theorem pairwise_of : ∀ l : List (List UInt8), pairB l = true → l.Pairwise fun a b => leB a b = true
  | [], _ => List.Pairwise.nil
  | a :: l, h => by
    simp only [pairB, Bool.and_eq_true, List.all_eq_true] at h
    exact List.Pairwise.cons h.1 (pairwise_of l h.2)

theorem lrel_strs (m : PM) : ∀ l : List AV, allStr l = true → LRel m l ((strsOf l).map encStr)
  | [], _ => rfl
  | .str n v :: l, h => by
    simp only [allStr, Bool.and_eq_true] at h
    exact ⟨_, _, rfl, lrel_strs m l h.2, rfl⟩
  | .bool _ :: _, h => by simp [allStr] at h
  | .int _ _ :: _, h => by simp [allStr] at h
  | .nilPtr :: _, h => by simp [allStr] at h
  | .ptr _ _ :: _, h => by simp [allStr] at h
  | .nilSl :: _, h => by simp [allStr] at h
  | .slice _ _ _ _ :: _, h => by simp [allStr] at h
  | .gsl _ _ _ _ :: _, h => by simp [allStr] at h
  | .gend _ :: _, h => by simp [allStr] at h
  | .nilMap :: _, h => by simp [allStr] at h
  | .map _ :: _, h => by simp [allStr] at h
  | .nilChan :: _, h => by simp [allStr] at h
  | .chan _ :: _, h => by simp [allStr] at h
  | .fn _ _ :: _, h => by simp [allStr] at h
  | .nilFn :: _, h => by simp [allStr] at h
  | .iface _ _ :: _, h => by simp [allStr] at h
  | .nilIface :: _, h => by simp [allStr] at h
  | .agg _ :: _, h => by simp [allStr] at h
  | .tup _ :: _, h => by simp [allStr] at h
  | .opq _ :: _, h => by simp [allStr] at h

theorem sorted_eq {tt : List (List UInt8)} (h : tt.Perm (strsA ++ strsB)) : (tt.mergeSort fun x y => decide (x ≤ y)) = strsOf namesL := by
  have h2 : (strsA ++ strsB).Perm (strsOf namesL) := List.isPerm_iff.1 (by kernel_rfl)
  refine Eq.trans (mergeSort_of_perm (h.trans h2)) ?_
  have hp : (strsOf namesL).Pairwise fun a b => leB a b = true := pairwise_of _ (by kernel_rfl)
  exact List.mergeSort_of_pairwise hp

theorem names_ok : EntryOk Tryz.prog 54 (.ext namesX) := by
  intro args h nx k hk
  unfold namesX at hk
  split at hk
  · rw [newK_eq] at hk
    refine ⟨_, _, _, hk, by rw [Pos.toNat_succ]; omega, fun m w LL hrep hLL hfree => .inr ⟨?_, ?_⟩⟩
    · exact enters_of Tryz.func54 (by kernel_rfl) rfl _ _
    have hLL : LL = [] := hLL
    subst hLL
    have hidx : m nx = none := hfree nx (Nat.le_refl _) (by rw [Pos.toNat_succ]; omega)
    refine Calls.mono (callsIn_wide.1 (names_walk w)) ?_
    rintro e w' ⟨g, cap, tt, rfl, htt, hrow, hb⟩
    unfold SortedRow at hrow
    rw [sorted_eq htt] at hrow
    rcases hrow.2 with ⟨hv, _⟩ | ⟨gb, cp, cur, hv, hbase, hgb, r1, r2, r3, r4⟩
    · cases hv
    · cases hv
      refine ⟨_, rfl, m.set nx ⟨g, 0, cap⟩, ⟨_, PM.set_same _ _ _, r1, by simp⟩, DoneG.add (DoneG.below hrep hb) (Nat.le_refl _) hidx _ hbase (Array.getElem?_eq_some_iff.1 hgb).1 (fun id o s' k1 k2 => ?_) ?_⟩
      · obtain ⟨s'', k3, k4, _⟩ := hrep.obj id o k1
        rw [k2] at k3; cases k3
        exact Nat.ne_of_lt (Nat.lt_of_lt_of_le k4 hbase)
      · refine ⟨cur, 9, (0, 0), hgb, by simp [r3], by simpa using r1, by decide, soft_zero _, ?_⟩
        have hl : LRel (m.set nx ⟨g, 0, cap⟩) namesL ((strsOf namesL).map encStr) := lrel_strs _ _ (by kernel_rfl)
        refine CRep.list_pre hl (by decide) fun i hi => ?_
        have hi : i < 24 := hi
        rw [← r4, List.getElem?_take, if_pos (by omega)]
        simp
  · exact bad_ne hk
end Go.Ev
