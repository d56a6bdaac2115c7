/- bytealg.IndexByteString. -/
import Derived.Test.YtgkcpkhifgnjoaaGreatDoorEvY
import Derived.Test.YtgkcpkhifgnjoaaGreatDoorEvX
import Derived.Lib.Bytealg
namespace Go.Ev
open Go

theorem ofNat_beq {x b : Nat} (hx : x < 256) (hb : b < 256) : (UInt8.ofNat x == UInt8.ofNat b) = decide (x = b) := by
  rw [Bool.eq_iff_iff]
  simp only [beq_iff_eq, decide_eq_true_eq]
  constructor
  · intro h
    have := congrArg UInt8.toNat h
    simp only [UInt8.toNat_ofNat'] at this
    omega
  · rintro rfl; rfl

theorem indexByte_findB {b : Nat} (hb : b < 256) : ∀ (n v i : Nat), (match findB n v b i with | some j => ((j : Nat) : Int) | none => -1) = (if Go.Lib.indexByte (bytesOf n v) (UInt8.ofNat b) = -1 then -1 else Go.Lib.indexByte (bytesOf n v) (UInt8.ofNat b) + (i : Int))
  | 0, v, i => by simp [findB, bytesOf, Go.Lib.indexByte]
  | n + 1, v, i => by
    have hm : v % 256 < 256 := Nat.mod_lt _ (by decide)
    have hge := Go.Lib.indexByte_ge (bytesOf n (v / 256)) (UInt8.ofNat b)
    have ih := indexByte_findB hb n (v / 256) (i + 1)
    have e1 : Nat.mod v 256 = v % 256 := rfl
    have e2 : Nat.div v 256 = v / 256 := rfl
    simp only [findB, bytesOf, Go.Lib.indexByte, ofNat_beq hm hb, e1, e2]
    by_cases h : v % 256 = b
    · have : Nat.beq (v % 256) b = true := by rw [h]; exact Nat.beq_refl b
      rw [this]
      simp [h]
    · have : Nat.beq (v % 256) b = false := by rw [← Bool.not_eq_true]; intro e; exact h (Nat.eq_of_beq_eq_true e)
      rw [this]
      simp only [cond_false, h, decide_false, Bool.false_eq_true, if_false]
      rw [show Nat.succ i = i + 1 from rfl, ih]
      by_cases h' : Go.Lib.indexByte (bytesOf n (v / 256)) (UInt8.ofNat b) = -1
      · simp [h']
      · have hb : (Go.Lib.indexByte (bytesOf n (v / 256)) (UInt8.ofNat b) == -1) = false := by simp [h']
        rw [if_neg h', hb]
        simp only [Bool.false_eq_true, if_false]
        rw [if_neg (by omega)]
        push_cast
        omega

theorem idx_ok {P : Program} {f : Nat} {F : Func} (hF : P.funcs[f]? = some F) (hname : (F.name == "runtime.NumGoroutine") = false) (hbody : F.body = none)
    (hnext : Extern.findNext F = none) (hfind : Extern.find F = some Extern.BytealgIndexByte.indexByte) : EntryOk P f (.ext idxX) := by
  intro args h nx k hk
  unfold idxX at hk
  split at hk
  · rename_i n v b
    cases hb : Nat.blt b 256 with
    | false => rw [hb] at hk; exact bad_ne hk
    | true =>
      rw [hb] at hk; simp only [Bool.not_true, cond_false] at hk
      have hb : b < 256 := Nat.le_of_ble_eq_true hb
      have fin : ∀ r : Int, r = (match findB n v b 0 with | some j => ((j : Nat) : Int) | none => -1) → k (.int .i64 r) h nx = true → ∃ v' h' nx', k v' h' nx' = true ∧ CallSem P f [.str n v, .int .u8 (.ofNat b)] h.get nx v' h'.get nx' := by
        intro r hr hk
        refine ⟨_, h, nx, hk, Nat.le_refl _, fun m w L hrep hl hfree => .inl ?_⟩
        obtain ⟨V, L', h1, ⟨V', L'', h2, h3, e'⟩, e⟩ := hl
        have h1 : V = _ := h1
        have h2 : V' = _ := h2
        have h3 : L'' = [] := h3
        subst h3; subst e'; subst e; subst h1; subst h2
        have hname' : ¬ F.name = "runtime.NumGoroutine" := by simpa using hname
        have hrun := Go.Lib.run_indexByteString (P := P) (strOf n v) (Int.ofNat b) w
        have e1 : (strOf n v).data.toList = bytesOf n v := by simp [strOf]
        have e2 : (Int.ofNat b).toNat.toUInt8 = UInt8.ofNat b := rfl
        rw [e1, e2] at hrun
        have hidx := indexByte_findB hb n v 0
        have e3 : Go.Lib.indexByte (bytesOf n v) (UInt8.ofNat b) = r := by
          rw [hr, hidx]
          split <;> simp_all
        rw [e3, show (Int.ofNat b) = ((b : Nat) : Int) from rfl] at hrun
        refine ⟨.int .i64 r, { w with }, ?_, m, rfl, DoneG.refl hrep⟩
        simp [callFunc, hF, hname', hbody, hnext, hfind, hrun]
      split at hk
      · rename_i j hj
        exact fin _ (by rw [hj]; rfl) hk
      · rename_i hj
        exact fin _ (by rw [hj]; rfl) hk
  · exact bad_ne hk
end Go.Ev
