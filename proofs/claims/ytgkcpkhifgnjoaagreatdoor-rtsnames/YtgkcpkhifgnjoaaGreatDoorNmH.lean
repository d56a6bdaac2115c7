/- prim.Names: its walk. -/
import Derived.Test.YtgkcpkhifgnjoaaGreatDoorNmG
import Derived.Test.YtgkcpkhifgnjoaaGreatDoorNmS
namespace Go.Ev
open Go Go.Proofs Go.RowKit Go.Maps Go.Sort Go.Shelf Go.WideElems Go.WideShapes
set_option maxRecDepth 100000

theorem e172 : ∀ args w, (callFunc 172 args).run Tryz.prog w = .ok (.enter 172 args) w := enters_of Tryz.func172 (by kernel_rfl) rfl
theorem e191 : ∀ args w, (callFunc 191 args).run Tryz.prog w = .ok (.enter 191 args) w := enters_of Tryz.func191 (by kernel_rfl) rfl

theorem c109 (mb : Option Nat) (w : World) : CallsIn Fence.wide 5 Tryz.prog 109 #[.map mb] w fun e w' => e = .returned (.func (.func 172) #[] #[.pointer (some ⟨w.heap.size, 0, none⟩)]) ∧ w' = w.alloc (.cells #[.map mb] 194) :=
  AnyZ.keys_in Tryz.keys109 Fence.wide 5 trivial rfl mb w
theorem c111 (mb : Option Nat) (w : World) : CallsIn Fence.wide 5 Tryz.prog 111 #[.map mb] w fun e w' => e = .returned (.func (.func 191) #[] #[.pointer (some ⟨w.heap.size, 0, none⟩)]) ∧ w' = w.alloc (.cells #[.map mb] 200) :=
  AnyZ.keys_in Tryz.keys111 Fence.wide 5 trivial rfl mb w

theorem seq109 (b nn : Nat) (D0 : DataW Unit) (w : World) (hown : w.ownsMap Tryz.prog 9 RU b nn D0) (n : Nat) (hn : 1 ≤ n) :
    SeqGives Fence.wide n Tryz.prog 172 #[.pointer (some ⟨w.heap.size, 0, none⟩)] encStr (fun ss => ss.Perm (strKeys D0)) (Maps.size D0) (w.alloc (.cells #[.map (some b)] 194)) :=
  AnyZ.keys_gives (ρ := Tryz.keys109_ren) { Tryz.keys109 with } Fence.wide n trivial rfl hn w.heap.size b nn D0 _ (by simp) (by simp) (ownsMap_later hown ((Below.refl _ w).alloc (Nat.le_refl _) _))
theorem seq111 (b nn : Nat) (D0 : DataW Unit) (w : World) (hown : w.ownsMap Tryz.prog 9 RU b nn D0) (n : Nat) (hn : 1 ≤ n) :
    SeqGives Fence.wide n Tryz.prog 191 #[.pointer (some ⟨w.heap.size, 0, none⟩)] encStr (fun ss => ss.Perm (strKeys D0)) (Maps.size D0) (w.alloc (.cells #[.map (some b)] 200)) :=
  AnyZ.keys_gives (ρ := Tryz.keys111_ren) { Tryz.keys111 with } Fence.wide n trivial rfl hn w.heap.size b nn D0 _ (by simp) (by simp) (ownsMap_later hown ((Below.refl _ w).alloc (Nat.le_refl _) _))

theorem c108 (b : Nat) (D0 : DataW Unit) (w : World) (hown : w.ownsMap Tryz.prog 9 RU b 15 D0) (hp : (strKeys D0).Perm strsA) (hs : Maps.size D0 = 15) :
    CallsIn Fence.wide 5 Tryz.prog 108 #[.func (.func 172) #[] #[.pointer (some ⟨w.heap.size, 0, none⟩)]] (w.alloc (.cells #[.map (some b)] 194)) fun e w' => ∃ (g cap : Nat) (ss : List (List UInt8)), e = .returned (.slice (some ⟨g, 0, none⟩) ss.length cap) ∧ ss.Perm strsA ∧
      w'.ownsRow w.heap.size 9 1 (.slice (some ⟨g, 0, none⟩) ss.length cap) ss.length (ss.map encStr) ∧ Below w.heap.size w w' := by
  refine (AnyZ.collect_in Tryz.collect108 Fence.wide 5 trivial trivial rfl (by omega) 172 #[.pointer (some ⟨w.heap.size, 0, none⟩)] trivial e172 (fun ss => ss.Perm (strKeys D0)) 15 (by decide) (by decide) _ (by rw [← hs]; exact seq109 b 15 D0 w hown 3 (by omega))).mono ?_
  rintro e w' ⟨v, ss, rfl, hS, hrow, hnil, hb⟩
  have hb' : Below w.heap.size w w' := ((Below.refl _ w).alloc (Nat.le_refl _) _).trans (hb.mono (by simp))
  have hrow := ownsRow_base_a hrow (show w.heap.size ≤ _ by simp)
  have hlen : ss.length = 15 := by rw [(hS.trans hp).length_eq]; rfl
  rcases hrow.2 with ⟨hv, h0⟩ | ⟨g, cap, cur, hv, _⟩
  · omega
  · subst hv
    exact ⟨g, cap, ss, rfl, hS.trans hp, hrow, hb'⟩

theorem ownsRow_later {w w' : World} {base : Nat} {e : TypeId} {size : Nat} {v : Value} {k : Nat} {xs : List Value} (h : w.ownsRow base e size v k xs) (hb : Below w.heap.size w w') : w'.ownsRow base e size v k xs := by
  refine h.kept (grownBy_of hb) ?_
  cases hv : v.ownBlock with
  | none => exact .inl rfl
  | some g => exact .inr (by simp)

theorem c107 (b : Nat) (D0 : DataW Unit) (w : World) (hown : w.ownsMap Tryz.prog 9 RU b 9 D0) (hp : (strKeys D0).Perm strsB) (hs : Maps.size D0 = 9) (n0 : Nat) (hn0 : n0 ≤ w.heap.size) (g0 cap0 : Nat) (ss0 : List (List UInt8)) (h0 : ss0.Perm strsA)
    (hrow0 : w.ownsRow n0 9 1 (.slice (some ⟨g0, 0, none⟩) ss0.length cap0) ss0.length (ss0.map encStr)) :
    CallsIn Fence.wide 5 Tryz.prog 107 #[.slice (some ⟨g0, 0, none⟩) ss0.length cap0, .func (.func 191) #[] #[.pointer (some ⟨w.heap.size, 0, none⟩)]] (w.alloc (.cells #[.map (some b)] 200)) fun e w' => ∃ (g cap : Nat) (tt : List (List UInt8)), e = .returned (.slice (some ⟨g, 0, none⟩) tt.length cap) ∧ tt.Perm (strsA ++ strsB) ∧
      w'.ownsRow n0 9 1 (.slice (some ⟨g, 0, none⟩) tt.length cap) tt.length (tt.map encStr) ∧ Below n0 w w' := by
  have hb0 : Below w.heap.size w (w.alloc (.cells #[.map (some b)] 200)) := (Below.refl _ w).alloc (Nat.le_refl _) _
  have hl0 : ss0.length = 15 := by rw [h0.length_eq]; rfl
  refine (appendSeq2_in Tryz.app107 Fence.wide 5 trivial rfl (by omega) 191 #[.pointer (some ⟨w.heap.size, 0, none⟩)] trivial e191 (fun ss => ss.Perm (strKeys D0)) 9 ss0 (by rw [hl0]; decide) (by rw [hl0]; decide) (w.alloc (.cells #[.map (some b)] 200)) n0 (Nat.le_trans hn0 hb0.size) g0 cap0
    (ownsRow_later hrow0 hb0) (by rw [← hs]; exact seq111 b 9 D0 w hown 4 (by omega))).mono ?_
  rintro e w' ⟨v, ss, rfl, hS, hrow, hb⟩
  have hp' : (ss0 ++ ss).Perm (strsA ++ strsB) := h0.append (hS.trans hp)
  have hlen : (ss0 ++ ss).length = 24 := by rw [hp'.length_eq]; rfl
  rcases hrow.2 with ⟨hv, h0⟩ | ⟨g, cap, cur, hv, _⟩
  · omega
  · subst hv
    exact ⟨g, cap, ss0 ++ ss, rfl, hp', hrow, (hb0.mono hn0).trans hb⟩
end Go.Ev
