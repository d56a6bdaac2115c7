/- append, put together; every operation that calls nothing. -/
import Derived.Test.YtgkcpkhifgnjoaaGreatDoorEvM
namespace Go.Ev
open Go

section
variable {P : Program} {o : Oper} {ρ : Fr} {h : H} {nx : Pos} {K : AV → H → Pos → Bool}

theorem T.set_set {α : Type} (u v : Option α) : ∀ (p : Pos) (t : T α), T.set v p (T.set u p t) = T.set v p t
  | .one, .e => rfl
  | .one, .n _ _ _ => rfl
  | .o p, .e => by simp only [T.set, T.set_set u v p]
  | .o p, .n _ l _ => by simp only [T.set, T.set_set u v p l]
  | .i p, .e => by simp only [T.set, T.set_set u v p]
  | .i p, .n _ _ r => by simp only [T.set, T.set_set u v p r]

/-- A block goes on under a new name. -/
theorem Rep.rename {m : PM} {w : World} (hr : Rep m h w) {id : Pos} {s : Slot} {ob : AObj} (hg : h.get id = some ob) (hs : m id = some s) (hid : m nx = none) :
    Rep (m.set nx s) (T.set (some ob) nx (T.set none id h)) w ∧ Ext m h w (m.set nx s) (T.set (some ob) nx (T.set none id h)) w := by
  have hle : PLe m (m.set nx s) := PLe.set s hid
  have hne : nx ≠ id := fun e => by rw [e, hs] at hid; cases hid
  obtain ⟨s0, e0, hlt, hO⟩ := hr.obj id ob hg
  rw [hs] at e0; cases e0
  have key : ∀ id2 o2, (T.set (some ob) nx (T.set none id h)).get id2 = some o2 → (id2 = nx ∧ o2 = ob) ∨ (id2 ≠ nx ∧ id2 ≠ id ∧ h.get id2 = some o2) := by
    intro id2 o2 h2
    by_cases e1 : nx = id2
    · subst e1; rw [T.get_set_same] at h2; cases h2; exact .inl ⟨rfl, rfl⟩
    · rw [T.get_set_other _ _ _ _ e1] at h2
      by_cases e2 : id = id2
      · subst e2; rw [T.get_set_same] at h2; cases h2
      · rw [T.get_set_other _ _ _ _ e2] at h2
        exact .inr ⟨Ne.symm e1, Ne.symm e2, h2⟩
  refine ⟨⟨fun id2 o2 h2 => ?_, fun a b o1 o2 s1 s2 g1 g2 g3 g4 g5 => ?_⟩, ⟨hle, Nat.le_refl _, fun _ _ _ => rfl, fun id2 o2 s2 g1 g2 _ => ?_, rfl, rfl, rfl⟩⟩
  · rcases key id2 o2 h2 with ⟨rfl, rfl⟩ | ⟨e1, e2, h3⟩
    · exact ⟨s, PM.set_same _ _ _, hlt, hO.move hle rfl⟩
    · obtain ⟨s2, a, b, c⟩ := hr.obj id2 o2 h3
      exact ⟨s2, hle _ _ a, b, c.move hle rfl⟩
  · rcases key a o1 g1 with ⟨rfl, rfl⟩ | ⟨e1, e2, h3⟩
    · rcases key b o2 g2 with ⟨rfl, rfl⟩ | ⟨e3, e4, h4⟩
      · rfl
      · rw [PM.set_same] at g3; cases g3
        rw [PM.set_other m s e3] at g4
        exact absurd (hr.inj id b _ _ s s2 hg h4 hs g4 g5).symm e4
    · rcases key b o2 g2 with ⟨rfl, rfl⟩ | ⟨e3, e4, h4⟩
      · rw [PM.set_same] at g4; cases g4
        rw [PM.set_other m s e1] at g3
        exact absurd (hr.inj a id _ _ s1 s h3 hg g3 hs g5) e2
      · rw [PM.set_other m s e1] at g3
        rw [PM.set_other m s e3] at g4
        exact hr.inj a b _ _ s1 s2 h3 h4 g3 g4 g5
  · rcases key id2 o2 g1 with ⟨rfl, rfl⟩ | ⟨e1, e2, h3⟩
    · rw [PM.set_same] at g2; cases g2
      exact ⟨id, _, s, hg, hs, rfl⟩
    · rw [PM.set_other m s e1] at g2
      exact ⟨id2, o2, s2, h3, g2, rfl⟩

theorem append_sound {c : Call} {sx xx : Operand} {s' x' : Opd} {t u e e2 : TypeId} {ei : TypeInfo} {z : AV} (ho : o.op = .call c) (hc : c.callee = .builtin .append) (ha : c.args = #[sx, xx]) (hs : opd sx = some s') (hx : opd xx = some x')
    (ht : c.argTypes[0]? = some t) (ht2 : c.argTypes[1]? = some u) (hu : P.underlying t = some (.slice e)) (hu2 : P.underlying u = some (.slice e2)) (hz : zerosOf P e = some z) (hei : P.info? e = some ei) (hzl : z.cells.length = ei.size)
    (hk : simple ρ h nx (.append ei.size ei.bytes s' x') K = true) : R P o ρ h nx K := by
  obtain ⟨Z, hZ, hzr⟩ := zerosOf_sound hz
  have hexec : ∀ (a : Act) (w w' : World) (V : Value), (Builtin.append_ c.argTypes o.type #[a.eval sx, a.eval xx]).run P w = .ok V w' → (execOp a.eval o).run P w = .ok (.value V) w' := by
    intro a w w' V hr
    obtain ⟨consts, e⟩ := exec_builtin (P := P) ho hc a w
    rw [e, ha, show (#[sx, xx].map a.eval) = #[a.eval sx, a.eval xx] by simp]
    simp only [builtin, Sem.run_bind, hr, Result.andThen_ok, Sem.run_pure]
  simp only [simple] at hk
  split at hk
  · exact bad_ne hk
  · rename_i n hn
    obtain ⟨new, hnl, hk1, hnew⟩ := cellsOfK_abs (P := P) hk
    clear hk
    have hk := hk1
    clear hk1
    cases hb : (Nat.blt n 1048576 && Nat.blt ei.bytes 65536 && Nat.blt ei.size 65536 && Nat.blt 0 ei.size) with
    | false => rw [hb] at hk; exact bad_ne hk
    | true =>
      rw [hb] at hk; simp only [Bool.not_true, cond_false] at hk
      simp only [Bool.and_eq_true] at hb
      have bn := blt_lt hb.1.1.1
      have bb := blt_lt hb.1.1.2
      have bs := blt_lt hb.1.2
      have b0 := blt_lt hb.2
      have hZs : ∀ m : PM, Z.cells.size = ei.size := fun m => by
        have := (hzr m).cells.length
        rw [Array.length_toList] at this; omega
      have hZs := hZs fun _ => none
      -- what the second argument is, in any world with this memory
      have hX : ∀ m w a, FRel m ρ a → Rep m h w → ∃ N xb xc, LRel m new N ∧ a.eval xx = .slice xb n xc ∧ ∀ w', w'.heap = w.heap → (Builtin.firstCells ei.size n (.slice xb n xc)).run P w' = .ok N.toArray w' := by
        intro m w a hf hr
        have g2 := opd_sound hx hf
        obtain ⟨N, k1, base, len, cap, k2, k3⟩ := hnew m w _ hr g2
        obtain ⟨b', c', e'⟩ := lenOf_sound hn g2
        rw [k2] at e' k3; cases e'
        exact ⟨N, base, cap, k1, k2, k3⟩
      split at hk
      · -- nil
        rename_i hev
        cases hb : Nat.beq n 0 with
        | true =>
          rw [hb] at hk; simp only [cond_true] at hk
          have := Nat.eq_of_beq_eq_true hb; subst this
          refine R.pure hk fun m w a hf hr => ?_
          have g1 := opd_sound hs hf; rw [hev] at g1
          have g1 : a.eval sx = .slice none 0 0 := g1
          obtain ⟨N, xb, xc, k1, k2, k3⟩ := hX m w a hf hr
          refine ⟨.slice none 0 0, hexec a w w _ ?_, rfl⟩
          rw [g1, k2]
          exact run_append_in_none ht ht2 hu hu2 hei (Nat.le_refl 0) (k3 w rfl)
        | false =>
          rw [hb] at hk; simp only [cond_false, fN_eq, newK_eq] at hk
          have hn0 : n ≠ 0 := fun e => by rw [e] at hb; cases hb
          refine ⟨_, _, _, hk, by rw [Pos.toNat_succ]; omega, fun m w a hr hf hfree => ?_⟩
          have hid : m nx = none := hfree nx (Nat.le_refl _) (by rw [Pos.toNat_succ]; omega)
          have g1 := opd_sound hs hf; rw [hev] at g1
          have g1 : a.eval sx = .slice none 0 0 := g1
          obtain ⟨N, xb, xc, k1, k2, k3⟩ := hX m w a hf hr
          obtain ⟨cap, hcap, hrun⟩ := run_append_new (P := P) (ty := o.type) (w := w) ht ht2 hu hu2 hei (base := none) (sLen := 0) (sCap := 0) (xb := xb) (n := n) (xc := xc) (by omega) (by omega) bb hZ (old := #[]) (by simp [Builtin.firstCells]) (k3 (drewW w) rfl)
          rw [Nat.zero_add] at hcap hrun
          have hr1 : Rep m h (drewW w) := hr.heap rfl
          have hNl := k1.length
          have hB : ∀ i, i < new.length → (#[] ++ N.toArray ++ Builtin.zeroCells Z.cells (cap - n))[i]? = N[i]? := fun i hi => by
            rw [Array.getElem?_append_left (by simp; omega)]; simp
          have hsz : (#[] ++ N.toArray ++ Builtin.zeroCells Z.cells (cap - n)).size = cap * ei.size := by
            rw [Array.size_append, Array.size_append, zeroCells_size, hZs, List.size_toArray, List.size_toArray, hNl, hnl, List.length_nil, Nat.zero_add, ← Nat.add_mul]
            congr 1; omega
          have hp : (1048576 * 65536 : Nat) < 2 ^ 60 := by decide
          have hmul : n * ei.size ≤ 1048576 * 65536 := Nat.mul_le_mul (by omega) (by omega)
          have hC := CRep.list_pre (k1.mono (PLe.set (⟨w.heap.size, 0, cap⟩ : Slot) hid)) (by omega) hB
          rw [hnl] at hC
          obtain ⟨r1, r2⟩ := hr1.new (.cells (#[] ++ N.toArray ++ Builtin.zeroCells Z.cells (cap - n)) e) (.grown ei.size (Nat.mul n ei.size) (Nat.mul n ei.size) new .e) ⟨w.heap.size, 0, cap⟩ hid rfl
            (grown_fresh rfl rfl hsz.symm (Nat.mul_le_mul_right _ hcap) b0 hC)
          refine ⟨_, _, _, hexec a w _ _ (by rw [g1, k2]; exact hrun), ⟨_, PM.set_same _ _ _, by simpa using hcap, ?_⟩, ⟨r1, (Ext.drew m h w).trans r2, fun id hlt => PM.set_other m _ fun e => ?_⟩⟩
          · simp
          · subst e; rw [Pos.toNat_succ] at hlt; omega
      · -- the empty end of a grown one
        rename_i id hev
        cases hb : Nat.beq n 0 with
        | false => rw [hb] at hk; exact bad_ne hk
        | true =>
          rw [hb] at hk; simp only [cond_true] at hk
          have := Nat.eq_of_beq_eq_true hb; subst this
          refine R.pure hk fun m w a hf hr => ?_
          have g1 := opd_sound hs hf; rw [hev] at g1
          obtain ⟨s, j1, j2⟩ := g1
          obtain ⟨N, xb, xc, k1, k2, k3⟩ := hX m w a hf hr
          have hN : N = [] := by have := k1.length; rw [hnl] at this; simpa using this
          subst hN
          refine ⟨_, hexec a w w _ ?_, ⟨s, j1, rfl⟩⟩
          rw [j2, k2]
          have := run_append_in (P := P) (ty := o.type) (w := w) (w' := w) (A := ⟨s.blk, s.off, none⟩) (sLen := 0) (sCap := s.cap) ht ht2 hu hu2 hei (Nat.zero_le _) (k3 w rfl) (by simp [storeCells])
          exact this
      · -- a slice of a known capacity
        rename_i id off len cap hev
        cases hb : Nat.ble (Nat.add len n) cap with
        | true =>
          rw [hb] at hk; simp only [cond_true] at hk
          have hb := ble_le hb
          obtain ⟨h', hk', hw⟩ := writeK_abs hk
          rw [fN_eq] at hk'
          refine R.write hk' fun m w a hf hr => ?_
          have g1 := opd_sound hs hf; rw [hev] at g1
          obtain ⟨s, j1, j2⟩ := g1
          obtain ⟨N, xb, xc, k1, k2, k3⟩ := hX m w a hf hr
          obtain ⟨w', q1, q2, q3⟩ := hw P m w hr s j1 N k1
          refine ⟨w', _, hexec a w w' _ ?_, ⟨s, j1, rfl⟩, q2, q3⟩
          rw [j2, k2]
          refine run_append_in ht ht2 hu hu2 hei hb (k3 w rfl) ?_
          rw [addr_add]
          simpa [Nat.add_assoc] using q1
        | false =>
          rw [hb] at hk; simp only [cond_false] at hk
          have hgt : cap < len + n := by
            rcases Nat.lt_or_ge cap (len + n) with h' | h'
            · exact h'
            · have : Nat.ble (Nat.add len n) cap = true := Nat.ble_eq_true_of_le h'
              rw [this] at hb; cases hb
          cases hb2 : Nat.blt len 1048576 with
          | false => rw [hb2] at hk; exact bad_ne hk
          | true =>
            rw [hb2] at hk; simp only [cond_true] at hk
            have hb2 := blt_lt hb2
            obtain ⟨old, hol, habs, hk⟩ := readNK_abs hk
            rw [fN_eq, fN_eq, newK_eq] at hk
            refine ⟨_, _, _, hk, by rw [Pos.toNat_succ]; omega, fun m w a hr hf hfree => ?_⟩
            have hid : m nx = none := hfree nx (Nat.le_refl _) (by rw [Pos.toNat_succ]; omega)
            have g1 := opd_sound hs hf; rw [hev] at g1
            obtain ⟨s, j1, j2⟩ := g1
            obtain ⟨N, xb, xc, k1, k2, k3⟩ := hX m w a hf hr
            obtain ⟨OL, o1, o2⟩ := abs_sound hr j1 habs
            have hOl := o1.length
            have hNl := k1.length
            have hold : (Builtin.firstCells ei.size len (.slice (some ⟨s.blk, s.off + off, none⟩) len cap)).run P (drewW w) = .ok OL.toArray (drewW w) := by
              have := run_loadCells_of (P := P) (w := drewW w) (L := OL) fun j V hj => by rw [cell_heap (show (drewW w).heap = w.heap from rfl)]; exact o2 j V hj
              rw [hOl, hol] at this
              exact this
            obtain ⟨cp, hcap, hrun⟩ := run_append_new (P := P) (ty := o.type) (w := w) ht ht2 hu hu2 hei (base := some ⟨s.blk, s.off + off, none⟩) (sLen := len) (sCap := cap) (xb := xb) (n := n) (xc := xc) hgt (by omega) bb hZ hold (k3 (drewW w) rfl)
            have hr1 : Rep m h (drewW w) := hr.heap rfl
            have hall : LRel m (old ++ new) (OL ++ N) := o1.append k1
            have hlen : (old ++ new).length = (len + n) * ei.size := by rw [List.length_append, hol, hnl, Nat.add_mul]; rfl
            have hlenL : (OL ++ N).length = (len + n) * ei.size := by rw [hall.length, hlen]
            have hB : ∀ i, i < (old ++ new).length → (OL.toArray ++ N.toArray ++ Builtin.zeroCells Z.cells (cp - (len + n)))[i]? = (OL ++ N)[i]? := fun i hi => by
              rw [Array.getElem?_append_left (by rw [Array.size_append, List.size_toArray, List.size_toArray, ← List.length_append, hlenL]; omega), List.append_toArray, List.getElem?_toArray]
            have hsz : (OL.toArray ++ N.toArray ++ Builtin.zeroCells Z.cells (cp - (len + n))).size = cp * ei.size := by
              rw [Array.size_append, Array.size_append, List.size_toArray, List.size_toArray, ← List.length_append, hlenL, zeroCells_size, hZs, ← Nat.add_mul]
              congr 1; omega
            have hp : (2097152 * 65536 : Nat) < 2 ^ 60 := by decide
            have hmul : (len + n) * ei.size ≤ 2097152 * 65536 := Nat.mul_le_mul (by omega) (by omega)
            have hC := CRep.list_pre (hall.mono (PLe.set (⟨w.heap.size, 0, cp⟩ : Slot) hid)) (by omega) hB
            rw [hlen] at hC
            obtain ⟨r1, r2⟩ := hr1.new (.cells (OL.toArray ++ N.toArray ++ Builtin.zeroCells Z.cells (cp - (len + n))) e) (.grown ei.size (Nat.mul (Nat.add len n) ei.size) (Nat.mul (Nat.add len n) ei.size) (old ++ new) .e) ⟨w.heap.size, 0, cp⟩ hid rfl
              (grown_fresh rfl rfl hsz.symm (Nat.mul_le_mul_right _ hcap) b0 hC)
            refine ⟨_, _, _, hexec a w _ _ (by rw [j2, k2]; exact hrun), ⟨_, PM.set_same _ _ _, by simpa using hcap, ?_⟩, ⟨r1, (Ext.drew m h w).trans r2, fun id hlt => PM.set_other m _ fun e => ?_⟩⟩
            · simp
            · subst e; rw [Pos.toNat_succ] at hlt; omega
      · -- a grown one
        rename_i id es' lo len hev
        split at hk
        · rename_i es2 ext k d tt hg
          cases he : (Nat.beq ei.size es' && Nat.beq ei.size es2) with
          | false => rw [he] at hk; exact bad_ne hk
          | true =>
            rw [he] at hk; simp only [Bool.not_true, cond_false] at hk
            simp only [Bool.and_eq_true] at he
            have he1 := Nat.eq_of_beq_eq_true he.1
            have he2 := Nat.eq_of_beq_eq_true he.2
            subst he1 he2
            cases hb : Nat.ble (Nat.mul (Nat.add (Nat.add lo len) n) ei.size) ext with
            | true =>
              rw [hb] at hk; simp only [cond_true] at hk
              have hb : (lo + len + n) * ei.size ≤ ext := ble_le hb
              obtain ⟨h', hk', hw⟩ := writeK_abs hk
              rw [fN_eq] at hk'
              refine R.write hk' fun m w a hf hr => ?_
              have g1 := opd_sound hs hf; rw [hev] at g1
              obtain ⟨s, j1, jl, j2⟩ := g1
              obtain ⟨s', i1, i2, cc, ee, fz, i3, i4, i5, i6, i7⟩ := hr.obj id _ hg
              rw [j1] at i1; cases i1
              have hcap := Nat.le_of_mul_le_mul_right (Nat.le_trans hb i5) i6
              obtain ⟨N, xb, xc, k1, k2, k3⟩ := hX m w a hf hr
              obtain ⟨w', q1, q2, q3⟩ := hw P m w hr s j1 N k1
              refine ⟨w', _, hexec a w w' _ ?_, ⟨s, j1, by simp only [Nat.add_eq]; omega, rfl⟩, q2, q3⟩
              rw [j2, k2]
              refine run_append_in ht ht2 hu hu2 hei (show len + n ≤ s.cap - lo by omega) (k3 w rfl) ?_
              rw [addr_add]
              have e1 : s.off + lo * ei.size + len * ei.size = s.off + Nat.mul (Nat.add lo len) ei.size := by
                show _ = s.off + (lo + len) * ei.size
                rw [Nat.add_mul]; omega
              rw [e1]
              exact q1
            | false =>
              rw [hb] at hk; simp only [cond_false] at hk
              cases hb2 : (Nat.blt len 1048576 && new.all oneCell) with
              | false => rw [hb2] at hk; exact bad_ne hk
              | true =>
                rw [hb2] at hk; simp only [cond_true, T.setK_eq] at hk
                simp only [Bool.and_eq_true] at hb2
                have bl := blt_lt hb2.1
                cases hb3 : (Nat.beq lo 0 && Nat.ble (Nat.mul len ei.size) ext) with
                | false => rw [hb3] at hk; exact bad_ne hk
                | true =>
                  rw [hb3] at hk; simp only [cond_true, setCellsK_eq, fN_eq, newK_eq] at hk
                  simp only [Bool.and_eq_true] at hb3
                  have hlo := Nat.eq_of_beq_eq_true hb3.1
                  have hle : len * ei.size ≤ ext := ble_le hb3.2
                  subst hlo
                  refine ⟨_, _, _, hk, by rw [Pos.toNat_succ]; omega, fun m w a hr hf hfree => ?_⟩
                  have hid : m nx = none := hfree nx (Nat.le_refl _) (by rw [Pos.toNat_succ]; omega)
                  have g1 := opd_sound hs hf; rw [hev] at g1
                  obtain ⟨s, j1, jl, j2⟩ := g1
                  obtain ⟨s', i1, i2, cc, ee, fz, i3, i4, i5, i6, i7, i8⟩ := hr.obj id _ hg
                  rw [j1] at i1; cases i1
                  obtain ⟨N, xb, xc, k1, k2, k3⟩ := hX m w a hf hr
                  have hNl := k1.length
                  have hp : (2097152 * 65536 : Nat) < 2 ^ 60 := by decide
                  have hmul : (len + n) * ei.size ≤ 2097152 * 65536 := Nat.mul_le_mul (by omega) (by omega)
                  have hsum : len * ei.size + new.length = (len + n) * ei.size := by rw [hnl, Nat.add_mul]
                  rw [Nat.zero_mul, Nat.add_zero, Nat.sub_zero] at j2
                  rcases Nat.lt_or_ge s.cap (len + n) with hgt | hfit
                  · -- a new row
                    have hold : (Builtin.firstCells ei.size len (.slice (some ⟨s.blk, s.off, none⟩) len s.cap)).run P (drewW w) = .ok ((cc.toList.drop s.off).take (len * ei.size)).toArray (drewW w) := by
                      have hl : ((cc.toList.drop s.off).take (len * ei.size)).length = len * ei.size := by
                        rw [List.length_take, List.length_drop, Array.length_toList]; omega
                      have := run_loadCells_of (P := P) (w := drewW w) (b := s.blk) (o := s.off) (L := (cc.toList.drop s.off).take (len * ei.size)) fun j V hj => by
                        rw [cell_heap (show (drewW w).heap = w.heap from rfl)]
                        rw [List.getElem?_take] at hj
                        split at hj
                        · rw [List.getElem?_drop, Array.getElem?_toList] at hj
                          simp only [World.cell?, i3]
                          simpa using hj
                        · cases hj
                      rw [hl] at this
                      exact this
                    obtain ⟨cp, hcap, hrun⟩ := run_append_new (P := P) (ty := o.type) (w := w) ht ht2 hu hu2 hei (base := some ⟨s.blk, s.off, none⟩) (sLen := len) (sCap := s.cap) (xb := xb) (n := n) (xc := xc) hgt (by omega) bb hZ hold (k3 (drewW w) rfl)
                    obtain ⟨r1, r2⟩ := hr.drop id
                    have hr1 : Rep m (T.set none id h) (drewW w) := r1.heap rfl
                    obtain ⟨OL, hOL⟩ : ∃ OL, (cc.toList.drop s.off).take (len * ei.size) = OL := ⟨_, rfl⟩
                    have hOLl : OL.length = len * ei.size := by rw [← hOL, List.length_take, List.length_drop, Array.length_toList]; omega
                    rw [hOL] at hrun
                    have hsz : (OL.toArray ++ N.toArray ++ Builtin.zeroCells Z.cells (cp - (len + n))).size = cp * ei.size := by
                      rw [Array.size_append, Array.size_append, List.size_toArray, List.size_toArray, hOLl, hNl, hnl, zeroCells_size, hZs, ← Nat.add_mul, ← Nat.add_mul]
                      congr 1; omega
                    have hC := CRep.grow (m := m.set nx ⟨w.heap.size, 0, cp⟩) (off' := 0) (B := OL.toArray ++ N.toArray ++ Builtin.zeroCells Z.cells (cp - (len + n)))
                      (⟨i8.1, fun i hi => let ⟨v, V, a, b, c⟩ := i8.2 i hi; ⟨v, V, a, b, c.mono (PLe.set _ hid)⟩⟩ : CRep (m.set nx ⟨w.heap.size, 0, cp⟩) ext k d tt s.off cc) (k1.mono (PLe.set _ hid)) hle (by omega)
                      (fun i hi => by
                        rw [Nat.zero_add, Array.getElem?_append_left (by simp; omega), Array.getElem?_append_left (by simp; omega), List.getElem?_toArray, ← hOL, List.getElem?_take, if_pos hi, List.getElem?_drop, Array.getElem?_toList])
                      (fun i hi => by
                        rw [Nat.zero_add, Array.getElem?_append_left (by simp; omega), Array.getElem?_append_right (by simp; omega), List.getElem?_toArray, List.size_toArray, hOLl, Nat.add_sub_cancel_left])
                    rw [hsum] at hC
                    obtain ⟨q1, q2⟩ := hr1.new (.cells (OL.toArray ++ N.toArray ++ Builtin.zeroCells Z.cells (cp - (len + n))) e) (.grown ei.size (Nat.mul (Nat.add len n) ei.size) k d (setCells tt (Nat.mul len ei.size) new)) ⟨w.heap.size, 0, cp⟩ hid rfl
                      (grown_fresh rfl rfl hsz.symm (Nat.mul_le_mul_right _ hcap) b0 hC)
                    refine ⟨_, _, _, hexec a w _ _ (by rw [j2, k2]; exact hrun), ⟨_, PM.set_same _ _ _, by simpa using hcap, ?_⟩, ⟨q1, (r2.trans (Ext.drew m _ w)).trans q2, fun id hlt => PM.set_other m _ fun e => ?_⟩⟩
                    · simp
                    · subst e; rw [Pos.toNat_succ] at hlt; omega
                  · -- the same row
                    have hone := ones k1 hb2.2
                    have hfit2 : (len + n) * ei.size ≤ s.cap * ei.size := Nat.mul_le_mul_right _ hfit
                    have hrun0 := run_storeCells (P := P) (b := s.blk) (o := s.off + len * ei.size) N 0 cc w i3 i7 (by rw [hNl, hnl, Nat.add_zero, Nat.add_assoc, ← Nat.add_mul]; omega) hone
                    rw [Nat.add_zero] at hrun0
                    have hO : ORep m (World.setObj w s.blk (.cells (wr cc (s.off + len * ei.size) N) ee fz)) s (.grown ei.size ((len + n) * ei.size) k d (setCells tt (len * ei.size) new)) := by
                      refine ⟨wr cc (s.off + len * ei.size) N, ee, fz, by simp [World.setObj, i2], by rw [wr_size]; exact i4, hfit2, b0, ?_, ?_⟩
                      · exact i7.of_size (wr_size _ _ _)
                      · have := CRep.grow (off' := s.off) (B := wr cc (s.off + len * ei.size) N) i8 k1 hle (by omega)
                          (fun i hi => by rw [wr_get _ _ _ _ (by rw [hNl, hnl, Nat.add_assoc, ← Nat.add_mul]; omega), if_neg (by omega)])
                          (fun i hi => by
                            rw [wr_get _ _ _ _ (by rw [hNl, hnl, Nat.add_assoc, ← Nat.add_mul]; omega), if_pos (by omega)]
                            congr 1; omega)
                        rwa [hsum] at this
                    obtain ⟨r1, r2⟩ := hr.setObj hg j1 hO
                    obtain ⟨q1, q2⟩ := r1.rename (nx := nx) (T.get_set_same _ _ _) j1 hid
                    rw [T.set_set] at q1 q2
                    refine ⟨_, _, _, hexec a w _ (.slice (some ⟨s.blk, s.off, none⟩) (len + n) s.cap) ?_, ⟨_, PM.set_same _ _ _, by simpa using hfit, ?_⟩, ⟨q1, r2.trans q2, fun id hlt => PM.set_other m _ fun e => ?_⟩⟩
                    · rw [j2, k2]
                      refine run_append_in ht ht2 hu hu2 hei hfit (k3 w rfl) ?_
                      rw [addr_add]
                      exact hrun0
                    · simp
                    · subst e; rw [Pos.toNat_succ] at hlt; omega
        · exact bad_ne hk
      · exact bad_ne hk

/-- A call, as the evaluator sees it: no built-in function. -/
def isCall : OpK → Bool
  | .call _ _ => true
  | .callV _ _ => true
  | _ => false

theorem s_call {c : Call} (ho : o.op = .call c) (hk : simple ρ h nx (conv P o) K = true) : R P o ρ h nx K := by
  simp only [conv, ho] at hk
  split at hk
  · exact bad_ne hk
  · split at hk
    · exact bad_ne hk
    · exact bad_ne hk
  · rename_i x' ha hc
    split at hk
    · rename_i t ht
      obtain ⟨x, hx1, hx2⟩ := args_one ha
      split at hk
      · rename_i hu; exact len_sound ho hc hx1 hx2 ht hu (.inl ⟨rfl, rfl⟩) hk
      · rename_i el hu; exact len_sound ho hc hx1 hx2 ht hu (.inr (.inl ⟨el, rfl, rfl⟩)) hk
      · rename_i kt el hu; exact len_sound ho hc hx1 hx2 ht hu (.inr (.inr ⟨kt, el, rfl, rfl⟩)) hk
      · exact bad_ne hk
    · exact bad_ne hk
  · rename_i s' x' ha hc
    split at hk
    · rename_i t u ht ht2
      obtain ⟨sx, xx, hx1, hx2, hx3⟩ := args_two ha
      split at hk
      · rename_i e e2 hu hu2
        split at hk
        · rename_i z ei hz hei
          cases hb : Nat.beq z.cells.length ei.size with
          | false => rw [hb] at hk; exact bad_ne hk
          | true =>
            rw [hb] at hk
            exact append_sound ho hc hx1 hx2 hx3 ht ht2 hu hu2 hz hei (Nat.eq_of_beq_eq_true hb) hk
        · exact bad_ne hk
      · exact bad_ne hk
    · exact bad_ne hk
  · rename_i m' k' ha hc
    split at hk
    · rename_i t ht
      obtain ⟨mx, kx, hx1, hx2, hx3⟩ := args_two ha
      split at hk
      · rename_i kt e hu
        split at hk
        · rename_i hd; exact del_sound (ks := false) ho hc hx1 hx2 hx3 ht hu hd rfl hk
        · rename_i hd; exact del_sound (ks := true) ho hc hx1 hx2 hx3 ht hu hd rfl hk
        · exact bad_ne hk
      · exact bad_ne hk
    · exact bad_ne hk
  · rename_i x' y' ha hc
    obtain ⟨x, y, hx1, hx2, hx3⟩ := args_two ha
    exact max_sound ho hc hx1 hx2 hx3 hk
  · rename_i x' y' ha hc
    obtain ⟨x, y, hx1, hx2, hx3⟩ := args_two ha
    split at hk
    · rename_i t ht
      split at hk
      · rename_i e hu
        split at hk
        · rename_i ei hei; exact copy_sound ho hc hx1 hx2 hx3 ht hu hei hk
        · exact bad_ne hk
      · exact bad_ne hk
    · exact bad_ne hk
  · rename_i x' ha hc
    obtain ⟨x, hx1, hx2⟩ := args_one ha
    split at hk
    · rename_i t ht
      split at hk
      · rename_i e hu
        split at hk
        · rename_i z ei hz hei
          cases hb : (Nat.beq z.cells.length ei.size && Nat.blt 0 ei.size) with
          | false => rw [hb] at hk; exact bad_ne hk
          | true =>
            rw [hb] at hk
            simp only [Bool.and_eq_true] at hb
            exact clear_sound ho hc hx1 hx2 ht hu hz (Nat.eq_of_beq_eq_true hb.1) hk
        · exact bad_ne hk
      · exact bad_ne hk
    · exact bad_ne hk
  · exact bad_ne hk

/-- EVERY OPERATION THAT CALLS NOTHING. -/
theorem simple_sound (hk : simple ρ h nx (conv P o) K = true) : R P o ρ h nx K := by
  cases hop : o.op with
  | move x => exact s_move (.inl hop) hk
  | assign x => exact s_move (.inr hop) hk
  | pick c a b => exact s_pick hop hk
  | alloc t => exact s_alloc hop hk
  | box t x => exact s_box hop hk
  | build t ps => exact s_build hop hk
  | buildSlice t len ps => exact s_buildSlice hop hk
  | insert t m k v => exact s_insert hop hk
  | load t x => exact s_load hop hk
  | store t x y => exact s_store hop hk
  | nilCheck x => exact s_nilCheck hop hk
  | binOp op t x y yt => exact s_binOp hop hk
  | unOp op t x => exact s_unOp hop hk
  | convert s t x => exact s_convert hop hk
  | makeFunc f a b => exact s_makeFunc hop hk
  | makeMap t r => exact s_makeMap hop hk
  | makeChan t x => exact s_makeChan hop hk
  | send c v =>
    simp only [conv, hop] at hk
    split at hk <;> exact bad_ne hk
  | select cs b =>
    simp only [conv, hop] at hk
    split at hk
    · split at hk <;> exact bad_ne hk
    · exact bad_ne hk
  | makeSlice t l c => exact s_makeSlice hop hk
  | slice t x l h m => exact s_slice hop hk
  | fieldAddr t x i => exact s_fieldAddr hop hk
  | field t x i => exact s_field hop hk
  | indexAddr t x i => exact s_indexAddr hop hk
  | index t x i => exact s_index hop hk
  | lookup t m k ok => exact s_lookup hop hk
  | mapUpdate t m k v => exact s_mapUpdate hop hk
  | extract x i => exact s_extract hop hk
  | call c => exact s_call hop hk
  | _ => rw [show conv P o = .bad "op" by simp only [conv, hop]] at hk; exact bad_ne hk

end
end Go.Ev
