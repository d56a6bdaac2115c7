/- That the evaluator carries out the operations that call nothing as the model does: the plain ones. -/
import Derived.Test.YtgkcpkhifgnjoaaGreatDoorEvD
namespace Go.Ev
open Go

section
variable {P : Program} {o : Oper} {ρ : Fr} {h : H} {nx : Pos} {K : AV → H → Pos → Bool}

theorem s_move {x : Operand} (ho : o.op = .move x ∨ o.op = .assign x) (hk : simple ρ h nx (conv P o) K = true) : R P o ρ h nx K := by
  have e : conv P o = match opd x with | some x => .mv x | none => conv P o := by
    cases hx : opd x with
    | none => rfl
    | some y => rcases ho with ho | ho <;> simp [conv, ho, hx]
  cases hx : opd x with
  | none =>
    have : ∃ s, conv P o = .bad s := by rcases ho with ho | ho <;> simp [conv, ho, hx]
    obtain ⟨s, hs⟩ := this
    rw [hs] at hk; exact bad_ne hk
  | some y =>
    rw [e, hx] at hk
    refine R.pure (v := ev ρ y) hk fun m w a hf _ => ⟨a.eval x, ?_, opd_sound hx hf⟩
    rcases ho with ho | ho <;> simp [execOp, ho]

theorem s_pick {c x y : Operand} (ho : o.op = .pick c x y) (hk : simple ρ h nx (conv P o) K = true) : R P o ρ h nx K := by
  simp only [conv, ho] at hk
  split at hk
  · rename_i c' x' y' hc hx hy
    simp only [simple] at hk
    split at hk
    · rename_i t ht
      refine R.pure (v := cond t (ev ρ x') (ev ρ y')) hk fun m w a hf _ => ?_
      have h1 := opd_sound hc hf
      rw [ht] at h1
      have h1 : a.eval c = .bool t := h1
      have h2 := opd_sound hx hf
      have h3 := opd_sound hy hf
      cases t
      · exact ⟨a.eval y, by simp [execOp, ho, h1, asBool], h3⟩
      · exact ⟨a.eval x, by simp [execOp, ho, h1, asBool], h2⟩
    · exact bad_ne hk
  · exact bad_ne hk

theorem run_isAgg {t : TypeId} {d : TypeDesc} (hu : P.underlying t = some d) (w : World) : (isAgg t).run P w = .ok (aggT P t) w := by
  unfold isAgg aggT
  cases d <;> simp [run_underlying hu, hu]

theorem run_sizeOf' {t : TypeId} {i : TypeInfo} (hi : P.info? t = some i) (w : World) : (sizeOf t).run P w = .ok i.size w := by
  simp [sizeOf, typeInfo, hi]

theorem s_load {t : TypeId} {x : Operand} (ho : o.op = .load t x) (hk : simple ρ h nx (conv P o) K = true) : R P o ρ h nx K := by
  simp only [conv, ho] at hk
  split at hk
  · rename_i x' i hx hi
    cases hag : aggT P t with
    | true =>
      rw [hag] at hk; simp only [cond_true, simple] at hk
      obtain ⟨d, hu⟩ : ∃ d, P.underlying t = some d := by
        unfold aggT at hag; cases hu : P.underlying t with
        | none => rw [hu] at hag; cases hag
        | some d => exact ⟨d, rfl⟩
      split at hk
      · rename_i id off hev
        obtain ⟨l, hl1, hl2, hk⟩ := readNK_abs hk
        refine R.pure (v := .agg l) hk fun m w a hf hr => ?_
        have h1 := opd_sound hx hf
        rw [hev] at h1
        obtain ⟨s, g1, g2⟩ := h1
        obtain ⟨L, g3, g4⟩ := abs_sound hr g1 hl2
        have g5 := run_loadCells_of (P := P) g4
        rw [g3.length, hl1] at g5
        refine ⟨.agg L.toArray, ?_, ⟨L, g3, rfl⟩⟩
        simp [execOp, ho, Instr.loadAt, Instr.sureAddr, g2, loadVar, run_isAgg hu, hag, run_sizeOf' hi, g5]
      · exact bad_ne hk
    | false =>
      rw [hag] at hk; simp only [cond_false] at hk
      cases hu : P.underlying t with
      | none => rw [hu] at hk; exact bad_ne hk
      | some d =>
        rw [hu] at hk; simp only [Option.isSome_some, cond_true, simple] at hk
        split at hk
        · rename_i id off hev
          unfold readK at hk
          cases hv : readCell (h.get id) off with
          | none => rw [hv] at hk; exact bad_ne hk
          | some v =>
            rw [hv] at hk
            refine R.pure (v := v) hk fun m w a hf hr => ?_
            have h1 := opd_sound hx hf
            rw [hev] at h1
            obtain ⟨s, g1, g2⟩ := h1
            obtain ⟨V, g3, g4⟩ := readCell_sound hr g1 hv
            exact ⟨V, by simp [execOp, ho, Instr.loadAt, Instr.sureAddr, g2, loadVar, run_isAgg hu, hag, g3], g4⟩
        · exact bad_ne hk
  · exact bad_ne hk

theorem VRel.cells {m : PM} {v : AV} {V : Value} (h : VRel m v V) : LRel m v.cells V.cells.toList := by
  cases v with
  | agg l => obtain ⟨L, h1, h2⟩ := h
             subst h2; simpa [AV.cells, Value.cells] using h1
  | _ =>
    have hne : ∀ cs, V ≠ .agg cs := by
      intro cs e; subst e; simp only [VRel] at h; first | (cases h; done) | (obtain ⟨_, _, e⟩ := h; cases e; done) | (obtain ⟨_, _, _, e⟩ := h; cases e; done) | (obtain ⟨e, h⟩ := h; subst e; cases h; done)
    have : V.cells = #[V] := by cases V <;> first | rfl | exact absurd rfl (hne _)
    rw [this]
    exact LRel.nil.cons h

theorem s_store {t : TypeId} {x y : Operand} (ho : o.op = .store t x y) (hk : simple ρ h nx (conv P o) K = true) : R P o ρ h nx K := by
  simp only [conv, ho] at hk
  split at hk
  · rename_i x' y' i hx hy hi
    simp only [simple] at hk
    split at hk
    · rename_i id off hev
      cases hn : Nat.beq (ev ρ y').cells.length i.size with
      | false => rw [hn] at hk; exact bad_ne hk
      | true =>
        rw [hn] at hk; simp only [cond_true] at hk
        have hn : (ev ρ y').cells.length = i.size := Nat.eq_of_beq_eq_true hn
        obtain ⟨h', hk', hw⟩ := writeK_abs hk
        refine R.write hk' fun m w a hf hr => ?_
        have h1 := opd_sound hx hf
        rw [hev] at h1
        obtain ⟨s, g1, g2⟩ := h1
        have h2 := (opd_sound hy hf).cells
        obtain ⟨w', g3, g4, g5⟩ := hw P m w hr s g1 _ h2
        refine ⟨w', .skip, ?_, rfl, g4, g5⟩
        have hsz : (a.eval y).cells.size = i.size := by have := h2.length; rw [Array.length_toList] at this; omega
        simp [execOp, ho, Instr.storeAt, Instr.sureAddr, g2, storeVar, hsz, run_sizeOf' hi, g3]
    · exact bad_ne hk
  · exact bad_ne hk

theorem s_nilCheck {x : Operand} (ho : o.op = .nilCheck x) (hk : simple ρ h nx (conv P o) K = true) : R P o ρ h nx K := by
  simp only [conv, ho] at hk
  split at hk
  · rename_i x' hx
    simp only [simple] at hk
    split at hk
    · rename_i id off hev
      refine R.pure (v := .ptr id off) hk fun m w a hf hr => ?_
      have h1 := opd_sound hx hf
      rw [hev] at h1
      obtain ⟨s, g1, g2⟩ := h1
      exact ⟨a.eval x, by simp [execOp, ho, g2], ⟨s, g1, g2⟩⟩
    · rename_i f cs hev
      refine R.pure (v := .fn f cs) hk fun m w a hf hr => ?_
      have h1 := opd_sound hx hf
      rw [hev] at h1
      obtain ⟨L, g1, g2⟩ := h1
      exact ⟨a.eval x, by simp [execOp, ho, g2], ⟨L, g1, g2⟩⟩
    · exact bad_ne hk
  · exact bad_ne hk

theorem s_extract {x : Operand} {i : Nat} (ho : o.op = .extract x i) (hk : simple ρ h nx (conv P o) K = true) : R P o ρ h nx K := by
  simp only [conv, ho] at hk
  split at hk
  · rename_i x' hx
    simp only [simple] at hk
    split at hk
    · rename_i l hev
      split at hk
      · rename_i v hv
        refine R.pure (v := v) hk fun m w a hf hr => ?_
        have h1 := opd_sound hx hf
        rw [hev] at h1
        obtain ⟨L, g1, g2⟩ := h1
        obtain ⟨V, g3, g4⟩ := g1.get hv
        exact ⟨V, by simp [execOp, ho, g2, Instr.extract, g3], g4⟩
      · exact bad_ne hk
    · exact bad_ne hk
  · exact bad_ne hk

theorem run_fieldPlace {b off : Nat} {f : Field} {i : TypeInfo} (hi : P.info? f.type = some i) (hn : i.size ≠ 0) (w : World) :
    (fieldPlace ⟨b, off, none⟩ f).run P w = .ok ⟨b, off + f.offset, none⟩ w := by
  simp [fieldPlace, run_sizeOf' hi, hn, addr_add]

theorem s_fieldAddr {t : TypeId} {x : Operand} {i : Nat} (ho : o.op = .fieldAddr t x i) (hk : simple ρ h nx (conv P o) K = true) : R P o ρ h nx K := by
  simp only [conv, ho] at hk
  split at hk
  · rename_i x' fs hx hu
    split at hk
    · rename_i f hfi
      split at hk
      · rename_i fi hi
        cases hn : Nat.beq fi.size 0 with
        | true => rw [hn] at hk; exact bad_ne hk
        | false =>
          rw [hn] at hk; simp only [cond_false, simple] at hk
          have hn : fi.size ≠ 0 := fun e => by rw [e] at hn; cases hn
          split at hk
          · rename_i id off hev
            rw [fN_eq] at hk
            refine R.pure (v := .ptr id (Nat.add off f.offset)) hk fun m w a hf hr => ?_
            have h1 := opd_sound hx hf
            rw [hev] at h1
            obtain ⟨s, g1, g2⟩ := h1
            refine ⟨_, ?_, ⟨s, g1, rfl⟩⟩
            simp [execOp, ho, Instr.fieldAt, run_underlying hu, hfi, Instr.sureAddr, g2, run_fieldPlace hi hn, Nat.add_assoc]
          · exact bad_ne hk
      · exact bad_ne hk
    · exact bad_ne hk
  · exact bad_ne hk
end
end Go.Ev
