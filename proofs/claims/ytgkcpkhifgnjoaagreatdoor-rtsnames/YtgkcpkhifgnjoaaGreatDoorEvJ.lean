/- Slices made and cut; maps. -/
import Derived.Test.YtgkcpkhifgnjoaaGreatDoorEvI
namespace Go.Ev
open Go

section
variable {P : Program} {o : Oper} {ρ : Fr} {h : H} {nx : Pos} {K : AV → H → Pos → Bool}

theorem s_makeSlice {t : TypeId} {lx cx : Operand} (ho : o.op = .makeSlice t lx cx) (hk : simple ρ h nx (conv P o) K = true) : R P o ρ h nx K := by
  simp only [conv, ho] at hk
  split at hk
  · rename_i l' c' e hl hc hu
    split at hk
    · rename_i z ei hz hei
      cases hb : (Nat.beq z.cells.length ei.size && Nat.blt 0 ei.size) with
      | false => rw [hb] at hk; exact bad_ne hk
      | true =>
        rw [hb] at hk; simp only [cond_true, simple] at hk
        simp only [Bool.and_eq_true] at hb
        have hb1 := Nat.eq_of_beq_eq_true hb.1
        have hb2 := blt_lt hb.2
        obtain ⟨kk_ln, ln, hln, hk⟩ := natK_abs hk
        obtain ⟨kk_cn, cn, hcn, hk⟩ := natK_abs hk
        cases hb3 : (Nat.ble (Nat.mul ei.bytes cn) 281474976710656 && Nat.ble ln cn && Nat.blt cn 1099511627776 && Nat.blt ei.size 1048576) with
        | false => rw [hb3] at hk; exact bad_ne hk
        | true =>
          rw [hb3] at hk; simp only [cond_true, fN_eq, newK_eq] at hk
          simp only [Bool.and_eq_true] at hb3
          have b1 : ei.bytes * cn ≤ 281474976710656 := Nat.le_of_ble_eq_true hb3.1.1.1
          have b2 : ln ≤ cn := Nat.le_of_ble_eq_true hb3.1.1.2
          have b3 := blt_lt hb3.1.2
          have b4 := blt_lt hb3.2
          obtain ⟨Z, hZ, hzr⟩ := zerosOf_sound hz
          refine R.new cn hk fun m w a hf hr hid => ?_
          have g1 := opd_sound hl hf; rw [hln] at g1; have g1 := VRel.int_inv g1
          have g2 := opd_sound hc hf; rw [hcn] at g2; have g2 := VRel.int_inv g2
          have hzc := (hzr (m.set nx ⟨w.heap.size, 0, cn⟩)).cells
          have hzl := hzc.length
          rw [Array.length_toList] at hzl
          have hzs : Z.cells.size = ei.size := by omega
          obtain ⟨A, hA⟩ : ∃ A : Array Value, (Array.range (cn * ei.size)).map (fun i => Z.cells[i % Z.cells.size]!) = A := ⟨_, rfl⟩
          have wl : IntKind.i64.wrap (Int.ofNat ln) = (ln : Int) := wrap_small (by have : (0 : Int) ≤ Int.ofNat ln := Int.natCast_nonneg ln
                                                                                   omega) (by show (ln : Int) < _; omega)
          have wc : IntKind.i64.wrap (Int.ofNat cn) = (cn : Int) := wrap_small (by have : (0 : Int) ≤ Int.ofNat cn := Int.natCast_nonneg cn
                                                                                   omega) (by show (cn : Int) < _; omega)
          have hp48 : (2 : Int) ^ 48 = 281474976710656 := by decide
          have t1 : ¬ ((ei.bytes : Int) * (cn : Int) > 2 ^ 48) := by
            intro hgt
            rw [hp48] at hgt
            have h5 : ((ei.bytes * cn : Nat) : Int) ≤ 281474976710656 := Int.ofNat_le.2 b1
            rw [Int.natCast_mul] at h5
            omega
          refine ⟨.cells A e, .slice (some ⟨w.heap.size, 0, none⟩) ln cn, ?_, ?_, ⟨_, PM.set_same _ _ _, rfl⟩⟩
          · have hbad : ((decide ((cn : Int) < 0) || decide ((ei.bytes : Int) * (cn : Int) > 2 ^ 48)) || decide ((ln : Int) < 0) || decide ((ln : Int) > (cn : Int))) = false := by
              simp only [Bool.or_eq_false_iff, decide_eq_false_iff_not]
              exact ⟨⟨⟨by omega, t1⟩, by omega⟩, by omega⟩
            have hinfo : ∀ w, (typeInfo e).run P w = .ok ei w := fun w => by simp [typeInfo, hei]
            by_cases h0 : cn * ei.size = 0
            · have e4 : ∀ f : Nat → Value, (Array.range 0).map f = #[] := fun f => by simp
              have hA0 : A = #[] := by rw [← hA, h0, e4]
              simp only [execOp, ho, Sem.run_bind, Instr.makeSlice, run_underlying hu, Result.andThen_ok, asInt, g1, g2, asIntOf, Sem.run_pure, hinfo, wl, wc, Sem.run_ite, hbad, Bool.false_eq_true, if_false, run_askRoom, run_sizeOf' hei, Int.toNat_natCast, h0, e4, newRow, hA0, run_newObj]
              simp [newW]
            · simp only [execOp, ho, Sem.run_bind, Instr.makeSlice, run_underlying hu, Result.andThen_ok, asInt, g1, g2, asIntOf, Sem.run_pure, hinfo, wl, wc, Sem.run_ite, hbad, Bool.false_eq_true, if_false, run_askRoom, run_sizeOf' hei, Int.toNat_natCast, if_neg h0, hZ, hA, newRow, run_newObj]
              simp [newW]
          · have hAs : A.size = cn * ei.size := by rw [← hA]; simp
            refine ⟨A, e, (0, 0), newW_get _ _, rfl, hAs, soft_zero _, ?_, fun i hi => ?_⟩
            · have h2 : (2 : Nat) ^ 60 = 1099511627776 * 1048576 := by decide
              rw [h2]
              exact Nat.mul_lt_mul'' b3 b4
            · have hi : i < cn * ei.size := hi
              have hib : Nat.blt i (Nat.mul cn ei.size) = true := Nat.ble_eq_true_of_le hi
              have hmod : i % ei.size < ei.size := Nat.mod_lt _ hb2
              obtain ⟨v, hv⟩ : ∃ v, z.cells[i % ei.size]? = some v := ⟨z.cells[i % ei.size]'(by omega), List.getElem?_eq_getElem (by omega)⟩
              obtain ⟨V, k1, k2⟩ := hzc.get hv
              refine ⟨v, V, ?_, ?_, k2⟩
              · simp only [cellGet, hib, cond_true, T.get_e]; exact hv
              · have k1 : Z.cells[i % ei.size]? = some V := by simpa using k1
                have hlt : i % Z.cells.size < Z.cells.size := by rw [hzs]; exact hmod
                rw [← hA]
                have hlt' : i % ei.size < Z.cells.size := by omega
                rw [Array.getElem?_eq_getElem hlt'] at k1
                simp only [Option.some.injEq] at k1
                simp [hi, hzs, hmod, k1]
    · exact bad_ne hk
  · exact bad_ne hk

theorem run_sliceBound {kk : IntKind} {n y : Nat} {code : BoundsCode} (h : n ≤ y) (w : World) : (Instr.sliceBound (.int kk (n : Int)) y code).run P w = .ok n w := by
  simp [Instr.sliceBound, asIntOf, h]

/-- An optional bound. -/
def BRel (d : Nat) (X : Option Value) (n : Nat) : Prop := match X with | none => n = d | some V => ∃ kk, V = .int kk (Int.ofNat n)

theorem run_sliceBounds {isSlice : Bool} {len cap l hh mm : Nat} {lo hi mx : Option Value} (h1 : BRel 0 lo l) (h2 : BRel len hi hh) (h3 : BRel cap mx mm) (hl : l ≤ hh) (hhm : hh ≤ mm) (hm : mm ≤ cap)
    (hsome : mx.isSome = true → hi.isSome = true) (w : World) : (Instr.sliceBounds isSlice len cap lo hi mx).run P w = .ok (l, hh, mm) w := by
  cases mx with
  | none =>
    have h3 : mm = cap := h3
    subst h3
    cases hi with
    | none =>
      have h2 : hh = len := h2
      subst h2
      cases lo with
      | none => have h1 : l = 0 := h1
                subst h1; simp [Instr.sliceBounds]
      | some V => obtain ⟨_, h1⟩ := (h1 : ∃ kk, V = _)
                  subst h1; simp [Instr.sliceBounds, run_sliceBound hl]
    | some V =>
      obtain ⟨_, h2⟩ := (h2 : ∃ kk, V = _)
      subst h2
      cases lo with
      | none => have h1 : l = 0 := h1
                subst h1; simp [Instr.sliceBounds, run_sliceBound hhm]
      | some V => obtain ⟨_, h1⟩ := (h1 : ∃ kk, V = _)
                  subst h1; simp [Instr.sliceBounds, run_sliceBound hl, run_sliceBound hhm]
  | some M =>
    obtain ⟨_, h3⟩ := (h3 : ∃ kk, M = _)
    subst h3
    cases hi with
    | none => simp at hsome
    | some V =>
      obtain ⟨_, h2⟩ := (h2 : ∃ kk, V = _)
      subst h2
      cases lo with
      | none => have h1 : l = 0 := h1
                subst h1; simp [Instr.sliceBounds, run_sliceBound hhm, run_sliceBound hm]
      | some V => obtain ⟨_, h1⟩ := (h1 : ∃ kk, V = _)
                  subst h1; simp [Instr.sliceBounds, run_sliceBound hl, run_sliceBound hhm, run_sliceBound hm]

theorem optNatK_abs {x : Option Operand} {y : Option Opd} (hx : oo x = some y) {d : Nat} {k : Nat → Bool} (hk : optNatK ρ y d k = true) :
    ∃ n, k n = true ∧ ∀ m a, FRel m ρ a → BRel d (x.map a.eval) n := by
  cases x with
  | none => simp [oo] at hx; subst hx; exact ⟨d, hk, fun _ _ _ => rfl⟩
  | some x =>
    simp only [oo] at hx
    cases hy : opd x with
    | none => rw [hy] at hx; cases hx
    | some y' =>
      rw [hy] at hx; simp at hx; subst hx
      obtain ⟨kk_n, n, hn, hk⟩ := natK_abs hk
      refine ⟨n, hk, fun m a hf => ?_⟩
      have g := opd_sound hy hf; rw [hn] at g
      exact ⟨_, VRel.int_inv g⟩

theorem oo_isSome {x : Option Operand} {y : Option Opd} (hx : oo x = some y) (f : Operand → Value) : (x.map f).isSome = y.isSome := by
  cases x with
  | none => simp [oo] at hx; subst hx; rfl
  | some x => simp only [oo] at hx; cases hy : opd x <;> rw [hy] at hx <;> simp at hx; subst hx; rfl

theorem ble_le {a b : Nat} (h : Nat.ble a b = true) : a ≤ b := Nat.le_of_ble_eq_true h

theorem slice_str_sound {t : TypeId} {x : Operand} {lo hi mx : Option Operand} {x' : Opd} {lo' hi' : Option Opd} (ho : o.op = .slice t x lo hi mx) (hx : opd x = some x') (hlo : oo lo = some lo') (hhi : oo hi = some hi') (hmx : oo mx = some none)
    (hu : P.underlying t = some .string) (hk : simple ρ h nx (.slStr x' lo' hi') K = true) : R P o ρ h nx K := by
  have hmx : mx = none := by cases mx with
    | none => rfl
    | some y => simp only [oo] at hmx; cases hy : opd y <;> rw [hy] at hmx <;> simp at hmx
  subst hmx
  simp only [simple] at hk
  split at hk
  · rename_i n v hev
    obtain ⟨hh, hk, h1⟩ := optNatK_abs hhi hk
    obtain ⟨l, hk, h2⟩ := optNatK_abs hlo hk
    cases hb : (Nat.ble l hh && Nat.ble hh n) with
    | false => rw [hb] at hk; exact bad_ne hk
    | true =>
      rw [hb] at hk; simp only [cond_true, fN_eq] at hk
      simp only [Bool.and_eq_true] at hb
      have b1 := ble_le hb.1
      have b2 := ble_le hb.2
      refine R.pure (v := .str (Nat.sub hh l) (Nat.div v (Nat.pow 256 l))) hk fun m w a hf _ => ?_
      have g1 := opd_sound hx hf; rw [hev] at g1; have g1 := VRel.str_inv g1
      have hsz := strOf_size n v
      have hr := run_sliceBounds (P := P) (isSlice := false) (h2 m a hf) (h1 m a hf) (show BRel n none n from rfl) b1 b2 (Nat.le_refl n) (by simp) w
      refine ⟨.string ((strOf n v).extract l hh), ?_, ?_⟩
      · simp [execOp, ho, Instr.sliceAt, Instr.slice, run_underlying hu, g1, hsz, hr]
      · show Value.string _ = .string _
        rw [strOf_extract n v l hh b1 b2]; rfl
  · exact bad_ne hk

theorem addr_map (b off l es : Nat) (mm : Nat) : (if mm = l then some (⟨b, off, none⟩ : Addr) else (some ⟨b, off, none⟩ : Option Addr).map (·.add (l * es))) = some ⟨b, off + (bif Nat.beq mm l then 0 else Nat.mul l es), none⟩ := by
  by_cases e : mm = l
  · rw [if_pos e]
    have : Nat.beq mm l = true := by rw [e]; exact Nat.beq_refl l
    rw [this]; rfl
  · rw [if_neg e]
    have : Nat.beq mm l = false := by rw [← Bool.not_eq_true]; intro e'; exact e (Nat.eq_of_beq_eq_true e')
    rw [this]
    simp [addr_add]

theorem slice_sl_sound {t e : TypeId} {ei : TypeInfo} {x : Operand} {lo hi mx : Option Operand} {x' : Opd} {lo' hi' mx' : Option Opd} (ho : o.op = .slice t x lo hi mx) (hx : opd x = some x') (hlo : oo lo = some lo') (hhi : oo hi = some hi') (hmx : oo mx = some mx')
    (hu : P.underlying t = some (.slice e)) (hei : P.info? e = some ei) (hsm : (mx'.isSome && !hi'.isSome) = false) (hk : simple ρ h nx (.slSl ei.size x' lo' hi' mx') K = true) : R P o ρ h nx K := by
  have hsome : ∀ f : Operand → Value, (mx.map f).isSome = true → (hi.map f).isSome = true := by
    intro f h1
    rw [oo_isSome hmx f] at h1; rw [oo_isSome hhi f]
    rw [h1] at hsm; simpa using hsm
  simp only [simple] at hk
  split at hk
  · rename_i hev
    obtain ⟨hh, hk1, h1⟩ := optNatK_abs hhi hk
    obtain ⟨l, hk2, h2⟩ := optNatK_abs hlo hk1
    obtain ⟨mm, hk3, h3⟩ := optNatK_abs hmx hk2
    clear hk hk1 hk2
    cases hb : (Nat.beq hh 0 && Nat.beq l 0 && Nat.beq mm 0) with
    | false => rw [hb] at hk3; exact bad_ne hk3
    | true =>
      rw [hb] at hk3
      simp only [Bool.and_eq_true] at hb
      have b1 := Nat.eq_of_beq_eq_true hb.1.1
      have b2 := Nat.eq_of_beq_eq_true hb.1.2
      have b3 := Nat.eq_of_beq_eq_true hb.2
      subst b1 b2 b3
      refine R.pure (v := .nilSl) hk3 fun m w a hf _ => ?_
      have g1 := opd_sound hx hf; rw [hev] at g1
      have g1 : a.eval x = .slice none 0 0 := g1
      have hr := run_sliceBounds (P := P) (isSlice := true) (h2 m a hf) (h1 m a hf) (h3 m a hf) (Nat.le_refl 0) (Nat.le_refl 0) (Nat.le_refl 0) (hsome _) w
      exact ⟨.slice none 0 0, by simp [execOp, ho, Instr.sliceAt, Instr.slice, run_underlying hu, g1, hr, run_sizeOf' hei], rfl⟩
  · rename_i id off len cap hev
    obtain ⟨mm, hk, h3⟩ := optNatK_abs hmx hk
    obtain ⟨hh, hk, h1⟩ := optNatK_abs hhi hk
    obtain ⟨l, hk, h2⟩ := optNatK_abs hlo hk
    cases hb : (Nat.ble l hh && Nat.ble hh mm && Nat.ble mm cap) with
    | false => rw [hb] at hk; exact bad_ne hk
    | true =>
      rw [hb] at hk; simp only [cond_true, fN_eq] at hk
      simp only [Bool.and_eq_true] at hb
      have b1 := ble_le hb.1.1
      have b2 := ble_le hb.1.2
      have b3 := ble_le hb.2
      refine R.pure hk fun m w a hf _ => ?_
      have g1 := opd_sound hx hf; rw [hev] at g1
      obtain ⟨s, k1, k2⟩ := g1
      have hr := run_sliceBounds (P := P) (isSlice := true) (h2 m a hf) (h1 m a hf) (h3 m a hf) b1 b2 b3 (hsome _) w
      refine ⟨_, ?_, ⟨s, k1, rfl⟩⟩
      simp only [execOp, ho, Sem.run_bind, Instr.sliceAt, Instr.slice, run_underlying hu, Result.andThen_ok, k2, hr, run_sizeOf' hei, Sem.run_pure, addr_map]
      simp only [Nat.add_eq, Nat.add_assoc, Nat.sub_eq]
  · rename_i id es' l0 len hev
    split at hk
    · rename_i z1 ext k d tt hg
      cases he : (Nat.beq ei.size es' && Nat.beq ei.size z1) with
      | false => rw [he] at hk; exact bad_ne hk
      | true =>
        rw [he] at hk; simp only [Bool.not_true, cond_false] at hk
        simp only [Bool.and_eq_true] at he
        have he1 := Nat.eq_of_beq_eq_true he.1
        have he2 := Nat.eq_of_beq_eq_true he.2
        subst he1 he2
        split at hk
        · rename_i mxo
          obtain ⟨kk_mm, mm, hm1, hk⟩ := natK_abs hk
          have hm2 : optNatK ρ (some mxo) 0 (fun n => Nat.beq n mm) = true := by
            simp only [optNatK, hm1, natK]; exact Nat.beq_refl mm
          obtain ⟨mm2, hm3, h3⟩ := optNatK_abs hmx hm2
          have := Nat.eq_of_beq_eq_true hm3; subst this
          obtain ⟨hh, hk, h1⟩ := optNatK_abs hhi hk
          obtain ⟨l, hk, h2⟩ := optNatK_abs hlo hk
          cases hb : (Nat.ble l hh && Nat.ble hh mm2 && Nat.ble (Nat.mul (Nat.add l0 mm2) ei.size) ext) with
          | false => rw [hb] at hk; exact bad_ne hk
          | true =>
            rw [hb] at hk; simp only [cond_true, fN_eq] at hk
            simp only [Bool.and_eq_true] at hb
            have b1 := ble_le hb.1.1
            have b2 := ble_le hb.1.2
            have b3 : (l0 + mm2) * ei.size ≤ ext := ble_le hb.2
            refine R.pure hk fun m w a hf hrep => ?_
            have g1 := opd_sound hx hf; rw [hev] at g1
            obtain ⟨s, k1, kl, k2⟩ := g1
            obtain ⟨s', j1, j2, c, ee, fz, j3, j4, j5, j6, j7⟩ := hrep.obj id _ hg
            rw [k1] at j1; cases j1
            have hcap : mm2 ≤ s.cap - l0 := by
              have := Nat.le_of_mul_le_mul_right (Nat.le_trans b3 j5) j6
              omega
            have h3' : BRel (s.cap - l0) (mx.map a.eval) mm2 := by
              have := h3 m a hf
              cases mx with
              | none => simp [oo] at hmx
              | some q => exact this
            have hr := run_sliceBounds (P := P) (isSlice := true) (h2 m a hf) (h1 m a hf) h3' b1 b2 hcap (hsome _) w
            refine ⟨_, ?_, ⟨s, k1, rfl⟩⟩
            simp only [execOp, ho, Sem.run_bind, Instr.sliceAt, Instr.slice, run_underlying hu, Result.andThen_ok, k2, hr, run_sizeOf' hei, Sem.run_pure, addr_map]
            simp only [Nat.add_eq, Nat.add_assoc, Nat.sub_eq, Nat.mul_eq]
        · obtain ⟨hh, hk, h1⟩ := optNatK_abs hhi hk
          obtain ⟨l, hk, h2⟩ := optNatK_abs hlo hk
          cases hb : (Nat.ble l hh && Nat.ble (Nat.mul (Nat.add l0 hh) ei.size) ext) with
          | false => rw [hb] at hk; exact bad_ne hk
          | true =>
            rw [hb] at hk; simp only [cond_true] at hk
            simp only [Bool.and_eq_true] at hb
            have b1 := ble_le hb.1
            have b3 : (l0 + hh) * ei.size ≤ ext := ble_le hb.2
            have hmx0 : mx = none := by
              cases mx with
              | none => rfl
              | some q => simp only [oo] at hmx; cases hy : opd q <;> rw [hy] at hmx <;> simp at hmx
            subst hmx0
            have common : ∀ m w a, FRel m ρ a → Rep m h w → ∃ s, m id = some s ∧ ext ≤ s.cap * ei.size ∧ hh ≤ s.cap - l0 ∧ l0 + hh ≤ s.cap ∧
                (execOp a.eval o).run P w = .ok (.value (.slice (some ⟨s.blk, s.off + l0 * ei.size + (bif Nat.beq (s.cap - l0) l then 0 else l * ei.size), none⟩) (hh - l) (s.cap - l0 - l))) w := by
              intro m w a hf hrep
              have g1 := opd_sound hx hf; rw [hev] at g1
              obtain ⟨s, k1, kl, k2⟩ := g1
              obtain ⟨s', j1, j2, c, ee, fz, j3, j4, j5, j6, j7⟩ := hrep.obj id _ hg
              rw [k1] at j1; cases j1
              have hle := Nat.le_of_mul_le_mul_right (Nat.le_trans b3 j5) j6
              have hr := run_sliceBounds (P := P) (isSlice := true) (h2 m a hf) (h1 m a hf) (show BRel (s.cap - l0) none (s.cap - l0) from rfl) b1 (show hh ≤ s.cap - l0 by omega) (Nat.le_refl _) (by simp) w
              refine ⟨s, k1, j5, by omega, by omega, ?_⟩
              simp only [execOp, ho, Sem.run_bind, Instr.sliceAt, Instr.slice, run_underlying hu, Result.andThen_ok, k2, Option.map_none, hr, run_sizeOf' hei, Sem.run_pure, addr_map]
              rfl
            cases hl0 : (Nat.beq l 0 || Nat.blt (Nat.mul (Nat.add l0 l) ei.size) ext) with
            | true =>
              rw [hl0] at hk; simp only [cond_true, fN_eq] at hk
              refine R.pure hk fun m w a hf hrep => ?_
              obtain ⟨s, k1, c1, c2, c3, c4⟩ := common m w a hf hrep
              refine ⟨_, c4, ⟨s, k1, by simp only [Nat.add_eq, Nat.sub_eq]; omega, ?_⟩⟩
              have eoff : s.off + l0 * ei.size + (bif Nat.beq (s.cap - l0) l then 0 else l * ei.size) = s.off + (l0 + l) * ei.size := by
                rw [Nat.add_mul]
                by_cases e0 : l = 0
                · subst e0; cases Nat.beq (s.cap - l0) 0 <;> simp
                · have hlt : (l0 + l) * ei.size < ext := by
                    rcases Bool.or_eq_true .. ▸ hl0 with h' | h'
                    · exact absurd (Nat.eq_of_beq_eq_true h') e0
                    · exact blt_lt h'
                  have hlt2 : l0 + l < s.cap := Nat.lt_of_mul_lt_mul_right (Nat.lt_of_lt_of_le hlt c1)
                  have : Nat.beq (s.cap - l0) l = false := by
                    rw [← Bool.not_eq_true]; intro e'; have := Nat.eq_of_beq_eq_true e'; omega
                  rw [this]; simp; omega
              rw [eoff]
              simp only [Nat.add_eq, Nat.sub_eq]
              congr 1
              omega
            | false =>
              rw [hl0] at hk; simp only [cond_false] at hk
              refine ⟨.gend nx, h, nx.succ, hk, by rw [Pos.toNat_succ]; omega, fun m w a hrep hf hfree => ?_⟩
              have hid : m nx = none := hfree nx (Nat.le_refl _) (by rw [Pos.toNat_succ]; omega)
              obtain ⟨s, k1, c1, c2, c3, c4⟩ := common m w a hf hrep
              have hge : ext ≤ (l0 + l) * ei.size := by
                rw [Bool.or_eq_false_iff] at hl0
                rcases Nat.lt_or_ge ((l0 + l) * ei.size) ext with h' | h'
                · have : Nat.blt (Nat.mul (Nat.add l0 l) ei.size) ext = true := Nat.ble_eq_true_of_le h'
                  rw [this] at hl0; simp at hl0
                · exact h'
              obtain ⟨s', j1, j2, c, ee, fz, j3, j4, j5, j6, j7⟩ := hrep.obj id _ hg
              have hlh : l = hh := by
                have : (l0 + hh) * ei.size ≤ (l0 + l) * ei.size := Nat.le_trans b3 hge
                have := Nat.le_of_mul_le_mul_right this j6
                omega
              obtain ⟨r1, r2⟩ := hrep.name ⟨s.blk, s.off + l0 * ei.size + (bif Nat.beq (s.cap - l0) l then 0 else l * ei.size), s.cap - l0 - l⟩ hid
              refine ⟨_, w, _, c4, ⟨_, PM.set_same _ _ _, ?_⟩, ⟨r1, r2, fun id' hlt => PM.set_other m _ fun e => ?_⟩⟩
              · rw [hlh]; simp
              · subst e; rw [Pos.toNat_succ] at hlt; omega
    · exact bad_ne hk
  · exact bad_ne hk

theorem s_slice {t : TypeId} {x : Operand} {lo hi mx : Option Operand} (ho : o.op = .slice t x lo hi mx) (hk : simple ρ h nx (conv P o) K = true) : R P o ρ h nx K := by
  simp only [conv, ho] at hk
  split at hk
  · rename_i x' lo' hi' hx hlo hhi hmx hu
    exact slice_str_sound ho hx hlo hhi hmx hu hk
  · rename_i x' lo' hi' mx' e hx hlo hhi hmx hu
    split at hk
    · rename_i ei hei
      cases hs : (mx'.isSome && !hi'.isSome) with
      | true => rw [hs] at hk; exact bad_ne hk
      | false =>
        rw [hs] at hk
        exact slice_sl_sound ho hx hlo hhi hmx hu hei hs hk
    · exact bad_ne hk
  · exact bad_ne hk

end
end Go.Ev
