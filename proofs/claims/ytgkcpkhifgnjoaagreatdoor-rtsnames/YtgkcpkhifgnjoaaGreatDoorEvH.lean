/- The operations on numbers, strings, comparisons, conversions, places. -/
import Derived.Test.YtgkcpkhifgnjoaaGreatDoorEvG
namespace Go.Ev
open Go

section
variable {P : Program} {o : Oper} {ρ : Fr} {h : H} {nx : Pos} {K : AV → H → Pos → Bool}

theorem bin_sound {op : BinOp} {t yt : TypeId} {x y : Operand} {x' y' : Opd} (ho : o.op = .binOp op t x y yt) (hx : opd x = some x') (hy : opd y = some y')
    (hk : simple ρ h nx (.bin op x' y') K = true) : R P o ρ h nx K := by
  simp only [simple] at hk
  split at hk
  · rename_i k a k' b hex hey
    have fin : ∀ {v : AV} {V : Value}, K v h nx = true → (∀ m, VRel m v V) → (∀ w, (binOp op t (.int k a) (.int k' b)).run P w = .ok V w) → R P o ρ h nx K := by
      intro v V hk h1 h2
      refine R.pure (v := v) hk fun m w c hf _ => ?_
      have g1 := opd_sound hx hf; rw [hex] at g1; have g1 := VRel.int_inv g1
      have g2 := opd_sound hy hf; rw [hey] at g2; have g2 := VRel.int_inv g2
      exact ⟨V, by simp [execOp, ho, g1, g2, eqGuard_int, h2 w], h1 m⟩
    split at hk
    · obtain ⟨v, V, h1, h2, h3⟩ := shiftI_sound (P := P) (k' := k') t (.inl rfl) hk
      exact fin h1 h2 h3
    · obtain ⟨v, V, h1, h2, h3⟩ := shiftI_sound (P := P) (k' := k') t (.inr rfl) hk
      exact fin h1 h2 h3
    · cases hke : kindEq k k' with
      | false => rw [hke] at hk; exact bad_ne hk
      | true =>
        rw [hke] at hk; simp only [cond_true] at hk
        have := kindEq_iff.1 hke; subst this
        obtain ⟨v, V, h1, h2, h3⟩ := binI_sound (P := P) t hk
        exact fin h1 h2 h3
  · rename_i n a n' b hex hey
    obtain ⟨v, V, h1, h2, h3⟩ := binS_sound (P := P) t hk
    refine R.pure (v := v) h1 fun m w c hf _ => ?_
    have g1 := opd_sound hx hf; rw [hex] at g1; have g1 := VRel.str_inv g1
    have g2 := opd_sound hy hf; rw [hey] at g2; have g2 := VRel.str_inv g2
    exact ⟨V, by simp [execOp, ho, g1, g2, eqGuard_str, h3 w], h2 m⟩
  · exact bad_ne hk

theorem eq_sound {neg : Bool} {t yt : TypeId} {x y : Operand} {x' y' : Opd} {e : EqTy} (ho : o.op = .binOp (bif neg then .neq else .eql) t x y yt) (hx : opd x = some x') (hy : opd y = some y')
    (ht : eqTy P t = some e) (h1 : e ≠ .int) (h2 : e ≠ .str) (h3 : e ≠ .iface) (hk : simple ρ h nx (.eq neg e x' y') K = true) : R P o ρ h nx K := by
  simp only [simple] at hk
  split at hk
  · rename_i b hb
    refine R.pure (v := .bool (bif neg then !b else b)) hk fun m w c hf _ => ?_
    have g1 := opd_sound hx hf
    have g2 := opd_sound hy hf
    obtain ⟨k1, k2, k3⟩ := eqTy_bin (P := P) ht h1 h2 h3 hb g1 g2 w
    refine ⟨.bool (bif neg then !b else b), ?_, rfl⟩
    cases neg
    · simp only [cond_false] at ho ⊢
      simp [execOp, ho, k1, k2]
    · simp only [cond_true] at ho ⊢
      simp [execOp, ho, k1, k3]
  · exact bad_ne hk

theorem eqS_sound {neg : Bool} {t yt : TypeId} {x y : Operand} {x' y' : Opd} {fs : Array Field} {l : List (Nat × EqTy)} (ho : o.op = .binOp (bif neg then .neq else .eql) t x y yt) (hx : opd x = some x') (hy : opd y = some y')
    (hu : P.underlying t = some (.struct fs)) (hst : P.stoodInHeld t = false) (hg : P.eqGuardType P.depth t = false) (hl : allOf (eqField P) fs.toList = some l)
    (hk : simple ρ h nx (.eqS neg l x' y') K = true) : R P o ρ h nx K := by
  simp only [simple] at hk
  split at hk
  · rename_i xs ys hex hey
    split at hk
    · rename_i b hb
      refine R.pure (v := .bool (bif neg then !b else b)) hk fun m w c hf _ => ?_
      have g1 := opd_sound hx hf; rw [hex] at g1
      have g2 := opd_sound hy hf; rw [hey] at g2
      obtain ⟨X, k1, k2⟩ := g1
      obtain ⟨Y, k3, k4⟩ := g2
      have hfo : P.fieldsOf t = fs := by simp [Program.fieldsOf, hu]
      have hrun : (Op.equalIn 10000 t (.agg X.toArray) (.agg Y.toArray)).run P w = .ok b w := by
        rw [run_equalIn_struct w 9999 t _ _ (by rw [hfo]; exact hu) hst, hfo]
        exact eqFields_sound hl hb k1 k3 9998 w
      refine ⟨.bool (bif neg then !b else b), ?_, rfl⟩
      cases neg
      · simp only [cond_false] at ho ⊢
        simp [execOp, ho, k2, k4, run_eqGuard_agg _ _ _ _ _ _ _ hg, run_eql_struct, hrun]
      · simp only [cond_true] at ho ⊢
        simp [execOp, ho, k2, k4, run_eqGuard_agg _ _ _ _ _ _ _ hg, run_neq_struct, hrun]
    · exact bad_ne hk
  · exact bad_ne hk

theorem s_binOp {op : BinOp} {t yt : TypeId} {x y : Operand} (ho : o.op = .binOp op t x y yt) (hk : simple ρ h nx (conv P o) K = true) : R P o ρ h nx K := by
  simp only [conv, ho] at hk
  split at hk
  · rename_i x' y' hx hy
    have key : ∀ neg : Bool, op = (bif neg then .neq else .eql) → (∀ s, simple ρ h nx (match P.underlying t with
        | some (.int _) => .bin op x' y'
        | some .string => .bin op x' y'
        | some (.struct fs) => bif P.stoodInHeld t || P.eqGuardType P.depth t then .bad s else match allOf (eqField P) fs.toList with | some l => .eqS neg l x' y' | none => .bad s
        | _ => match eqTy P t with | some .iface => .bad s | some e => .eq neg e x' y' | none => .bad s) K = true → R P o ρ h nx K) := by
      intro neg hop s hk
      split at hk
      · exact bin_sound ho hx hy hk
      · exact bin_sound ho hx hy hk
      · rename_i fs hu
        cases hs : P.stoodInHeld t with
        | true => rw [hs] at hk; exact bad_ne hk
        | false =>
          cases hg : P.eqGuardType P.depth t with
          | true => rw [hs, hg] at hk; exact bad_ne hk
          | false =>
            rw [hs, hg] at hk; simp only [Bool.or_self, cond_false] at hk
            split at hk
            · rename_i l hl
              exact eqS_sound (by rw [ho, hop]) hx hy hu hs hg hl hk
            · exact bad_ne hk
      · rename_i hn1 hn2 hn3
        split at hk
        · exact bad_ne hk
        · rename_i e h3 he
          refine eq_sound (by rw [ho, hop]) hx hy he ?_ ?_ h3 hk
          · rintro rfl
            unfold eqTy at he; split at he <;> simp_all
          · rintro rfl
            unfold eqTy at he; split at he <;> simp_all
        · exact bad_ne hk
    split at hk
    · exact key false rfl "eql" hk
    · exact key true rfl "neq" hk
    · exact bin_sound ho hx hy hk
  · exact bad_ne hk

theorem s_unOp {op : UnOp} {t : TypeId} {x : Operand} (ho : o.op = .unOp op t x) (hk : simple ρ h nx (conv P o) K = true) : R P o ρ h nx K := by
  simp only [conv, ho] at hk
  split at hk
  · rename_i x' hx
    simp only [simple] at hk
    split at hk
    · rename_i b hev
      refine R.pure (v := .bool !b) hk fun m w c hf _ => ?_
      have g1 := opd_sound hx hf; rw [hev] at g1
      have g1 : c.eval x = .bool b := g1
      exact ⟨.bool !b, by simp [execOp, ho, g1, Op.unary], rfl⟩
    · rename_i k n hev
      rw [fI_eq] at hk
      refine R.pure (v := .int k (k.wrap (0 - n))) hk fun m w c hf _ => ?_
      have g1 := opd_sound hx hf; rw [hev] at g1; have g1 := VRel.int_inv g1
      exact ⟨.int k (k.wrap (0 - n)), by simp [execOp, ho, g1, Op.unary, Op.intArith], rfl⟩
    · exact bad_ne hk
  · exact bad_ne hk

theorem s_field {t : TypeId} {x : Operand} {i : Nat} (ho : o.op = .field t x i) (hk : simple ρ h nx (conv P o) K = true) : R P o ρ h nx K := by
  simp only [conv, ho] at hk
  split at hk
  · rename_i x' fs hx hu
    split at hk
    · rename_i f hfi
      split at hk
      · rename_i fi hi
        cases hs : (P.underlying f.type).isSome with
        | false => rw [hs] at hk; exact bad_ne hk
        | true =>
          rw [hs] at hk; simp only [cond_true, simple] at hk
          obtain ⟨d, hd⟩ := Option.isSome_iff_exists.1 hs
          split at hk
          · rename_i l hev
            cases hag : aggT P f.type with
            | true =>
              rw [hag] at hk; simp only [cond_true] at hk
              refine R.pure (v := .agg ((l.drop f.offset).take fi.size)) hk fun m w c hf _ => ?_
              have g1 := opd_sound hx hf; rw [hev] at g1
              obtain ⟨L, k1, k2⟩ := g1
              refine ⟨.agg ((L.drop f.offset).take fi.size).toArray, ?_, ⟨_, (k1.drop _).take _, rfl⟩⟩
              simp [execOp, ho, Instr.field, run_underlying hu, hfi, k2, asAgg, part, run_isAgg hd, hag, run_sizeOf' hi, List.extract_eq_take_drop]
            | false =>
              rw [hag] at hk; simp only [cond_false] at hk
              split at hk
              · rename_i v hv
                refine R.pure (v := v) hk fun m w c hf _ => ?_
                have g1 := opd_sound hx hf; rw [hev] at g1
                obtain ⟨L, k1, k2⟩ := g1
                obtain ⟨V, k3, k4⟩ := k1.get hv
                exact ⟨V, by simp [execOp, ho, Instr.field, run_underlying hu, hfi, k2, asAgg, part, run_isAgg hd, hag, k3], k4⟩
              · exact bad_ne hk
          · exact bad_ne hk
      · exact bad_ne hk
    · exact bad_ne hk
  · exact bad_ne hk

theorem natK_abs {v : AV} {k : Nat → Bool} (hk : natK v k = true) : ∃ kk n, v = .int kk (.ofNat n) ∧ k n = true := by
  unfold natK at hk
  split at hk
  · exact ⟨_, _, rfl, hk⟩
  · exact bad_ne hk

theorem s_indexAddr {t : TypeId} {x i : Operand} (ho : o.op = .indexAddr t x i) (hk : simple ρ h nx (conv P o) K = true) : R P o ρ h nx K := by
  simp only [conv, ho] at hk
  split at hk
  · rename_i x' i' e hx hi hu
    split at hk
    · rename_i ei hei
      simp only [simple] at hk
      obtain ⟨kk_n, n, hn, hk⟩ := natK_abs hk
      split at hk
      · rename_i id off len cap hev
        cases hb : Nat.blt n len with
        | false => rw [hb] at hk; exact bad_ne hk
        | true =>
          rw [hb] at hk; simp only [cond_true, fN_eq] at hk
          have hb := blt_lt hb
          refine R.pure (v := .ptr id (Nat.add off (Nat.mul n ei.size))) hk fun m w c hf _ => ?_
          have g1 := opd_sound hx hf; rw [hev] at g1
          have g2 := opd_sound hi hf; rw [hn] at g2; have g2 := VRel.int_inv g2
          obtain ⟨s, k1, k2⟩ := g1
          refine ⟨_, ?_, ⟨s, k1, rfl⟩⟩
          have h0 : (0 : Int) ≤ Int.ofNat n := Int.natCast_nonneg n
          have h1 : (Int.ofNat n) < (len : Int) := Int.ofNat_lt.2 hb
          simp [execOp, ho, Instr.indexAt, g2, k2, asIntOf, run_underlying hu, hb, run_sizeOf' hei, addr_add, Nat.add_assoc]
      · rename_i id es' lo len hev
        cases hb : (Nat.blt n len && Nat.beq ei.size es') with
        | false => rw [hb] at hk; exact bad_ne hk
        | true =>
          rw [hb] at hk; simp only [cond_true, fN_eq] at hk
          simp only [Bool.and_eq_true] at hb
          obtain ⟨hb, hes⟩ := hb
          have hb := blt_lt hb
          have hes := Nat.eq_of_beq_eq_true hes
          subst hes
          refine R.pure (v := .ptr id (Nat.mul (Nat.add lo n) ei.size)) hk fun m w c hf _ => ?_
          have g1 := opd_sound hx hf; rw [hev] at g1
          have g2 := opd_sound hi hf; rw [hn] at g2; have g2 := VRel.int_inv g2
          obtain ⟨s, k1, _, k2⟩ := g1
          refine ⟨_, ?_, ⟨s, k1, rfl⟩⟩
          simp [execOp, ho, Instr.indexAt, g2, k2, asIntOf, run_underlying hu, hb, run_sizeOf' hei, addr_add, Nat.add_assoc, Nat.add_mul]
      · exact bad_ne hk
    · exact bad_ne hk
  · rename_i x' i' n e hx hi hu
    split at hk
    · rename_i ei hei
      simp only [simple] at hk
      obtain ⟨kk_j, j, hj, hk⟩ := natK_abs hk
      split at hk
      · rename_i id off hev
        cases hb : Nat.blt j n with
        | false => rw [hb] at hk; exact bad_ne hk
        | true =>
          rw [hb] at hk; simp only [cond_true, fN_eq] at hk
          have hb := blt_lt hb
          refine R.pure (v := .ptr id (Nat.add off (Nat.mul j ei.size))) hk fun m w c hf _ => ?_
          have g1 := opd_sound hx hf; rw [hev] at g1
          have g2 := opd_sound hi hf; rw [hj] at g2; have g2 := VRel.int_inv g2
          obtain ⟨s, k1, k2⟩ := g1
          refine ⟨_, ?_, ⟨s, k1, rfl⟩⟩
          simp [execOp, ho, Instr.indexAt, g2, k2, asIntOf, run_underlying hu, hb, run_sizeOf' hei, addr_add, Nat.add_assoc, Instr.sureAddr]
      · exact bad_ne hk
    · exact bad_ne hk
  · exact bad_ne hk

theorem s_index {t : TypeId} {x i : Operand} (ho : o.op = .index t x i) (hk : simple ρ h nx (conv P o) K = true) : R P o ρ h nx K := by
  simp only [conv, ho] at hk
  split at hk
  · rename_i x' i' hx hi hu
    simp only [simple] at hk
    obtain ⟨kk_j, j, hj, hk⟩ := natK_abs hk
    split at hk
    · rename_i n v hev
      cases hb : Nat.blt j n with
      | false => rw [hb] at hk; exact bad_ne hk
      | true =>
        rw [hb] at hk; simp only [cond_true, fN_eq] at hk
        have hb := blt_lt hb
        refine R.pure (v := .int .u8 (.ofNat (byteAt v j))) hk fun m w c hf _ => ?_
        have g1 := opd_sound hx hf; rw [hev] at g1; have g1 := VRel.str_inv g1
        have g2 := opd_sound hi hf; rw [hj] at g2; have g2 := VRel.int_inv g2
        refine ⟨.int .u8 (.ofNat (byteAt v j)), ?_, rfl⟩
        have hget : (strOf n v)[j]? = some (UInt8.ofNat (byteAt v j)) := by
          have hsz := strOf_size n v
          have := bytesOf_get n v j hb
          rw [getElem?_pos (strOf n v) j (by omega)]
          rw [List.getElem?_eq_getElem (by rw [bytesOf_length]; exact hb)] at this
          exact this
        have hlt : byteAt v j < 256 := Nat.mod_lt _ (by decide)
        have hmod : byteAt v j % 256 = byteAt v j := Nat.mod_eq_of_lt hlt
        simp [execOp, ho, Instr.index, g1, g2, asIntOf, run_underlying hu, hget, hmod]
    · exact bad_ne hk
  · exact bad_ne hk

theorem s_makeFunc {fn : Fn} {fst caps : Array Operand} (ho : o.op = .makeFunc fn fst caps) (hk : simple ρ h nx (conv P o) K = true) : R P o ρ h nx K := by
  have fin : ∀ f : Nat, fn = .func f → fst = ⟨[]⟩ → simple ρ h nx (match allOf opd caps.toList with | some l => .mkFn f l | none => .bad "makeFunc") K = true → R P o ρ h nx K := by
    rintro f rfl rfl hk
    split at hk
    · rename_i l hl
      simp only [simple] at hk
      refine R.pure (v := .fn f (l.map (ev ρ))) hk fun m w c hf _ => ?_
      refine ⟨.func (.func f) #[] (caps.toList.map c.eval).toArray, ?_, ⟨_, opds_sound hf hl, rfl⟩⟩
      have e : Array.map c.eval caps = (List.map c.eval caps.toList).toArray := by rw [← Array.toList_map]
      simp [execOp, ho, Instr.makeFunc, e]
    · exact bad_ne hk
  cases fn with
  | func f =>
    obtain ⟨L⟩ := fst
    cases L with
    | nil => exact fin f rfl rfl (by simp only [conv, ho] at hk; exact hk)
    | cons a l => rw [show conv P o = .bad "op" by simp [conv, ho]] at hk; exact bad_ne hk
  | _ => rw [show conv P o = .bad "op" by simp [conv, ho]] at hk; exact bad_ne hk

theorem cell_heap {w w' : World} (e : w'.heap = w.heap) (b : Addr) : w'.cell? b = w.cell? b := by simp only [World.cell?, e]

theorem cellsOfK_abs {es n : Nat} {x : AV} {k : List AV → Bool} (hk : cellsOfK h es n x k = true) :
    ∃ l, l.length = n * es ∧ k l = true ∧ ∀ m w X, Rep m h w → VRel m x X → ∃ L, LRel m l L ∧ ∃ base len cap, X = .slice base len cap ∧
      ∀ w', w'.heap = w.heap → (Builtin.firstCells es n X).run P w' = .ok L.toArray w' := by
  unfold cellsOfK at hk
  have zero : Nat.beq n 0 = true → n = 0 := Nat.eq_of_beq_eq_true
  split at hk
  · cases hb : Nat.beq n 0 with
    | false => rw [hb] at hk; exact bad_ne hk
    | true =>
      rw [hb] at hk
      have := zero hb; subst this
      refine ⟨[], by simp, hk, fun m w X _ hX => ⟨[], LRel.nil, none, 0, 0, hX, fun w' _ => ?_⟩⟩
      have hX : X = .slice none 0 0 := hX
      subst hX; simp [Builtin.firstCells]
  · cases hb : Nat.beq n 0 with
    | false => rw [hb] at hk; exact bad_ne hk
    | true =>
      rw [hb] at hk
      have := zero hb; subst this
      refine ⟨[], by simp, hk, fun m w X _ hX => ?_⟩
      obtain ⟨s, _, rfl⟩ := hX
      exact ⟨[], LRel.nil, _, _, _, rfl, fun w' _ => by simp [Builtin.firstCells, loadCells, loadCellsFrom]⟩
  · obtain ⟨l, h1, h2, h3⟩ := readNK_abs hk
    refine ⟨l, h1, h3, fun m w X hr hX => ?_⟩
    obtain ⟨s, k1, rfl⟩ := hX
    obtain ⟨L, k2, k3⟩ := abs_sound hr k1 h2
    refine ⟨L, k2, _, _, _, rfl, fun w' hw' => ?_⟩
    have := run_loadCells_of (P := P) (w := w') (L := L) fun j V hj => by rw [cell_heap hw']; exact k3 j V hj
    rw [k2.length, h1] at this
    exact this
  · rename_i id es' lo len
    cases hb : Nat.beq es es' with
    | false => rw [hb] at hk; exact bad_ne hk
    | true =>
      rw [hb] at hk; simp only [cond_true] at hk
      have := Nat.eq_of_beq_eq_true hb; subst this
      obtain ⟨l, h1, h2, h3⟩ := readNK_abs hk
      refine ⟨l, h1, h3, fun m w X hr hX => ?_⟩
      obtain ⟨s, k1, _, rfl⟩ := hX
      obtain ⟨L, k2, k3⟩ := abs_sound hr k1 h2
      refine ⟨L, k2, _, _, _, rfl, fun w' hw' => ?_⟩
      have := run_loadCells_of (P := P) (w := w') (L := L) fun j V hj => by rw [cell_heap hw']; exact k3 j V hj
      rw [k2.length, h1] at this
      exact this
  · exact bad_ne hk

theorem bytesToStr_sound {m : PM} {g : Value → ByteArray → Sem (ForInStep ByteArray)} (hg : ∀ n r, g (.int .u8 n) r = pure (.yield (r.push (UInt8.ofNat n.toNat)))) :
    ∀ {l : List AV} {v : Nat}, bytesToStr l = some v → ∀ {L : List Value}, LRel m l L → ∀ (w : World) (s : ByteArray), (forIn L s g).run P w = .ok (s ++ strOf l.length v) w
  | [], v, hv, L, hL, w, s => by
    have hL : L = [] := hL
    subst hL
    simp [bytesToStr] at hv; subst hv
    have : s ++ strOf 0 0 = s := by apply ByteArray.ext; rw [ByteArray.data_append]; simp [strOf, bytesOf]
    simp [this]
  | a :: l, v, hv, L, hL, w, s => by
    obtain ⟨V, L', h1, h2, rfl⟩ := hL
    unfold bytesToStr at hv
    split at hv
    · simp at *
    · rename_i b l' e
      simp only [List.cons.injEq] at e
      obtain ⟨rfl, rfl⟩ := e
      cases hb : Nat.blt b 256 with
      | false => rw [hb] at hv; simp at hv
      | true =>
        rw [hb] at hv; simp only [cond_true] at hv
        have hb := blt_lt hb
        cases hl : bytesToStr l with
        | none => rw [hl] at hv; simp at hv
        | some u =>
          rw [hl] at hv; simp at hv
          have h1 : V = .int .u8 (.ofNat b) := h1
          subst h1
          have ih := bytesToStr_sound (m := m) hg hl h2 w (s.push (UInt8.ofNat b))
          have e : s.push (UInt8.ofNat b) ++ strOf l.length u = s ++ strOf (l.length + 1) v := by
            apply ByteArray.ext
            rw [ByteArray.data_append, ByteArray.data_append]
            subst hv
            have e1 : (b + 256 * u) % 256 = b := by omega
            have e2 : (b + 256 * u) / 256 = u := by omega
            simp [strOf, bytesOf, e1, e2, ByteArray.push]
          rw [e] at ih
          rw [List.length_cons, ← ih]
          have h0 := hg (Int.ofNat b) s
          have h0 : g (.int .u8 (Int.ofNat b)) s = pure (.yield (s.push (UInt8.ofNat b))) := h0
          rw [List.forIn_cons, h0]
          simp
    · simp at hv

theorem b2s_sound {s t e : TypeId} {x : Operand} {x' : Opd} (ho : o.op = .convert s t x) (hx : opd x = some x') (hs : P.underlying s = some (.slice e)) (ht : P.underlying t = some .string)
    (he : P.underlying e = some (.int .u8)) (hk : simple ρ h nx (.b2s x') K = true) : R P o ρ h nx K := by
  simp only [simple] at hk
  split at hk
  · rename_i hev
    refine R.pure (v := .str 0 0) hk fun m w c hf _ => ?_
    have g1 := opd_sound hx hf; rw [hev] at g1
    have g1 : c.eval x = .slice none 0 0 := g1
    refine ⟨.string .empty, by simp [execOp, ho, convert, run_underlying hs, run_underlying ht, run_underlying he, g1, Conv.bytesToString], ?_⟩
    show Value.string .empty = .string (strOf 0 0)
    congr 1
  · rename_i hne
    split at hk
    · rename_i n hn
      obtain ⟨l, h1, h2, h3⟩ := cellsOfK_abs (P := P) hk
      split at h2
      · rename_i v hv
        rw [fN_eq] at h2
        refine R.pure (v := .str n v) h2 fun m w c hf hr => ?_
        have g1 := opd_sound hx hf
        obtain ⟨L, k1, base, len, cap, k2, k3'⟩ := h3 m w _ hr g1
        have hlen : len = n := by
          rw [k2] at g1
          unfold lenOf at hn
          split at hn <;> simp only [Option.some.injEq, reduceCtorEq] at hn <;> subst hn <;> rename_i e <;> rw [e] at g1 <;> simp only [VRel] at g1
          · cases g1; rfl
          · obtain ⟨_, _, e⟩ := g1; cases e; rfl
          · obtain ⟨_, _, e⟩ := g1; cases e; rfl
          · obtain ⟨_, _, _, e⟩ := g1; cases e; rfl
        subst hlen
        have k3 := k3' w rfl
        refine ⟨.string (strOf len v), ?_, rfl⟩
        have e0 : ByteArray.empty ++ strOf l.length v = strOf len v := by
          rw [h1]; apply ByteArray.ext; rw [ByteArray.data_append]; simp
        cases base with
        | none =>
          simp [Builtin.firstCells, k2] at k3
          have hL : L = [] := by simpa using k3
          have : len = 0 := by have := k1.length; rw [hL, h1] at this; simp at this; omega
          subst this
          simp [execOp, ho, convert, run_underlying hs, run_underlying ht, run_underlying he, k2, Conv.bytesToString]
          rfl
        | some a =>
          simp only [Builtin.firstCells, k2, Nat.mul_one] at k3
          simp [execOp, ho, convert, run_underlying hs, run_underlying ht, run_underlying he, k2, Conv.bytesToString, k3]
          rw [bytesToStr_sound (fun n r => rfl) hv k1 w .empty, e0]
          simp
      · exact bad_ne h2
    · exact bad_ne hk

theorem cvS_sound {s t e1 e : TypeId} {x : Operand} {x' : Opd} (ho : o.op = .convert s t x) (hx : opd x = some x') (hs : P.underlying s = some (.slice e1)) (ht : P.underlying t = some (.slice e)) (he : P.underlying e = some (.int .u8)) (hst : s = t)
    (hk : simple ρ h nx (.cvS x') K = true) : R P o ρ h nx K := by
  simp only [simple] at hk
  split at hk
  · rename_i id off len cap hev
    split at hk
    · rename_i size n d tt hg
      refine R.write hk fun m w a hf hr => ?_
      have g1 := opd_sound hx hf; rw [hev] at g1
      obtain ⟨sl, k1, k2⟩ := g1
      obtain ⟨sl', j1, j2, c, el, fz, j3, j4, j5, j6, j7⟩ := hr.obj id _ hg
      rw [k1] at j1; cases j1
      have hlt : sl.blk < w.heap.size := j2
      obtain ⟨fz', hfz', hsoft⟩ : ∃ fz', (if fz.1 == fz.2 then (c.size, c.size + 1) else (min fz.1 c.size, max fz.2 (c.size + 1))) = fz' ∧ Soft c fz' := by
        refine ⟨_, rfl, ?_⟩
        rcases j6 with h6 | h6
        · simp only [h6, beq_self_eq_true, if_true]; exact .inr (Nat.le_refl _)
        · by_cases e : fz.1 = fz.2
          · simp only [e, beq_self_eq_true, if_true]; exact .inr (Nat.le_refl _)
          · have : (fz.1 == fz.2) = false := by simpa using e
            simp only [this, Bool.false_eq_true, if_false]; exact .inr (by show c.size ≤ min fz.1 c.size; omega)
      have hw : w.freeze { block := sl.blk, off := c.size } 1 = World.setObj w sl.blk (.cells c el fz') := by
        unfold World.freeze World.setObj
        rw [if_neg (by decide)]
        congr 1
        apply Array.ext_getElem?
        intro j
        by_cases hj : sl.blk = j
        · subst hj
          have hb' : w.heap[sl.blk] = .cells c el fz := by simpa [Array.getElem?_eq_getElem hlt] using j3
          simp [hlt, Array.getElem_modify, hb', ← hfz']
        · simp [Array.getElem?_modify, hj, Array.getElem?_setIfInBounds_ne hj]
      have hO : ORep m (World.setObj w sl.blk (.cells c el fz')) sl (.cells size n d tt) := ⟨c, el, fz', by simp [World.setObj, hlt], j4, j5, hsoft, j7⟩
      obtain ⟨b1, b2⟩ := hr.setObj hg k1 hO
      have hsame : ∀ p : Pos, (T.set (some (.cells size n d tt)) id h).get p = h.get p := fun p => by
        by_cases e : id = p
        · subst e; rw [T.get_set_same, hg]
        · rw [T.get_set_other _ _ _ _ e]
      refine ⟨World.setObj w sl.blk (.cells c el fz'), .value (a.eval x), ?_, ⟨sl, k1, k2⟩, ⟨fun p ob hp => b1.obj p ob (by rw [hsame]; exact hp), fun p q o1 o2 s1 s2 h1 h2 => b1.inj p q o1 o2 s1 s2 (by rw [hsame]; exact h1) (by rw [hsame]; exact h2)⟩,
        ⟨b2.le, b2.size, b2.keep, fun p ob s1 h1 h2 h3 => b2.dom p ob s1 (by rw [hsame]; exact h1) h2 h3, b2.tape, b2.os, b2.out⟩⟩
      subst hst
      have he1 : e1 = e := by rw [hs] at ht; cases ht; rfl
      subst he1
      rw [← hw]
      have hsh : (shape sl.blk).run P w = .ok (some (el, c.size)) w := by simp [shape, Sem.run, World.shape?, j3]
      have hmk : (markStringish ⟨sl.blk, sl.off + off, none⟩).run P w = .ok () (w.freeze { block := sl.blk, off := c.size } 1) := by
        unfold markStringish
        simp only [Sem.run_bind, hsh, Result.andThen_ok]
        rfl
      have hcv : (convert s s (a.eval x)).run P w = .ok (a.eval x) (w.freeze { block := sl.blk, off := c.size } 1) := by
        unfold convert
        rw [k2]
        simp [run_underlying hs, run_underlying he, hmk]
      simp [execOp, ho, hcv]
    · exact bad_ne hk
  · exact bad_ne hk

theorem s_convert {s t : TypeId} {x : Operand} (ho : o.op = .convert s t x) (hk : simple ρ h nx (conv P o) K = true) : R P o ρ h nx K := by
  simp only [conv, ho] at hk
  split at hk
  · rename_i x' d k hx hs ht
    simp only [simple] at hk
    split at hk
    · rename_i k' n hev
      rw [fI_eq, wrapF_eq] at hk
      refine R.pure (v := .int k (k.wrap n)) hk fun m w c hf _ => ?_
      have g1 := opd_sound hx hf; rw [hev] at g1; have g1 := VRel.int_inv g1
      exact ⟨.int k (k.wrap n), by simp [execOp, ho, convert, run_underlying hs, run_underlying ht, g1, Conv.intToInt], rfl⟩
    · exact bad_ne hk
  · rename_i x' e hx hs ht
    split at hk
    · rename_i he
      exact b2s_sound ho hx hs ht he hk
    · exact bad_ne hk
  · rename_i x' e1 e hx hs ht
    split at hk
    · rename_i he
      cases hb : Nat.beq s t with
      | false => rw [hb] at hk; exact bad_ne hk
      | true =>
        rw [hb] at hk; simp only [cond_true] at hk
        have hst := Nat.eq_of_beq_eq_true hb
        exact cvS_sound ho hx hs ht he hst hk
    · exact bad_ne hk
  · exact bad_ne hk

end
end Go.Ev
