/- core.of, for the evaluator. -/
import Derived.Test.YtgkcpkhifgnjoaaGreatDoorOfB
import Derived.Test.YtgkcpkhifgnjoaaGreatDoorEvW
import Derived.Test.YtgkcpkhifgnjoaaGreatDoorEvX
import Derived.Test.YtgkcpkhifgnjoaaGreatDoorEvY
namespace Go.Ev
open Go Go.Proofs Go.RowKit

theorem map_step {P : Program} {t kt e : TypeId} {d : TypeDesc} (hu : P.underlying t = some (.map kt e)) (hd : P.underlying kt = some d) (hks : KeyD true d) {m : PM} {key val : AV} {A B : Value} {es : List (AV × AV)} {mes : Array MapEntry} {clock : Nat} {w : World} {M : Nat}
    (hb : w.heap[M]? = some (.map mes clock)) (j8 : MapKept.Stamped mes clock) (hM : MapRep m true es mes.toList) (hko : keyOk true key = true) (g2 : VRel m key A) (g3 : VRel m val B) :
    ∃ mes' clock', (Instr.mapUpdate t (.map (some M)) A B).run P w = .ok () (World.setObj w M (.map mes' clock')) ∧ MapKept.Stamped mes' clock' ∧ MapRep m true (mapPut key val es) mes'.toList := by
  have hkt := hks.ty
  rcases hM.put hks hko g2 g3 with ⟨q1, qn, q2⟩ | ⟨MX, en, MY, V, q0, q1, q3, qk, q4⟩
  · refine ⟨mes.push ⟨A, B, clock⟩, clock + 1, ?_, MapKept.stamped_push j8 qn, by simpa using q2 clock⟩
    simp [Instr.mapUpdate, run_underlying hu, run_getObj_map hb, run_checkKey' hd hkt, run_findKey' hd q1, run_setObj_map _ hb]
  · have hj : MX.length < mes.size := by
      have := congrArg List.length q0; simp at this; omega
    have hget : mes.toList[MX.length]? = some en := by rw [q0]; simp
    have hjv : mes[MX.length] = en := by
      rw [Array.getElem?_toList, Array.getElem?_eq_getElem hj] at hget; simpa using hget
    have hkey : ((mes[MX.length]?).map (·.key)).getD A = en.key := by
      rw [Array.getElem?_eq_getElem hj, hjv]; rfl
    refine ⟨mes.modify MX.length fun e => { e with key := A, val := B }, clock, ?_, MapKept.stamped_modify j8 _ _ (fun _ _ => rfl) (fun e he hi => ?_), ?_⟩
    · simp [Instr.mapUpdate, run_underlying hu, run_getObj_map hb, run_checkKey' hd hkt, run_findKey' hd q1, run_setObj_map _ hb, Instr.keyThatStays, hkey, q3]
    · rw [Array.getElem?_eq_getElem hj, hjv] at hi
      simp only [Option.some.injEq] at hi
      subst hi; exact qk.symm
    · have e1 : (mes.modify MX.length fun e => { e with key := A, val := B }).toList = MX ++ { en with key := A, val := B } :: MY := by
        have e2 : (mes.modify MX.length fun e => { e with key := A, val := B }).toList = mes.toList.set MX.length { en with key := A, val := B } := by
          apply List.ext_getElem?
          intro i
          rw [Array.getElem?_toList, Array.getElem?_modify, List.getElem?_set, Array.getElem?_toList]
          by_cases e : MX.length = i
          · subst e; simp [hj, hjv]
          · simp [e]
        rw [e2, q0]; simp
      rw [e1]; exact q4

theorem setObj_putObj (w : World) (b : Nat) (o : Obj) : World.setObj w b o = w.putObj b o := rfl

theorem putAll_append : ∀ (a : List (AV × AV)) (x : AV × AV) (m : List (AV × AV)), putAll (a ++ [x]) m = mapPut x.1 x.2 (putAll a m)
  | [], _, _ => rfl
  | (k, v) :: a, x, m => putAll_append a x (mapPut k v m)

/-- The cells of a constructor. -/
structure ConV where
  s : ByteArray
  a : Int
  t : ByteArray
  g : Int

theorem con4_sound {m : PM} : ∀ (n : Nat) {l : List AV} {cs : List (AV × AV)} {L : List Value}, l.length ≤ n → con4 l = some cs → LRel m l L →
    ∃ d : List ConV, d.length = cs.length ∧ l.length = cs.length * 4 ∧ ∀ (i : Nat) (x : ConV), d[i]? = some x →
      L[i * 4]? = some (.string x.s) ∧ L[i * 4 + 1]? = some (.int .i64 x.a) ∧ L[i * 4 + 2]? = some (.string x.t) ∧ L[i * 4 + 3]? = some (.int .i64 x.g) ∧
      ∃ c, cs[i]? = some c ∧ VRel m c.1 (.string x.s) ∧ VRel m c.2 (.agg #[.string x.s, .int .i64 x.a, .string x.t, .int .i64 x.g]) ∧ keyOk true c.1 = true := by
  intro n
  induction n with
  | zero =>
    intro l cs L hn h _
    have : l = [] := by cases l with
      | nil => rfl
      | cons _ _ => simp at hn
    subst this
    simp only [con4, Option.some.injEq] at h
    subst h; exact ⟨[], rfl, rfl, by simp⟩
  | succ n ih =>
    intro l cs L hn h hL
    unfold con4 at h
    split at h
    · simp only [Option.some.injEq] at h
      subst h; exact ⟨[], rfl, rfl, by simp⟩
    · rename_i a b c d e f l
      split at h
      · rename_i r hr
        simp only [Option.some.injEq] at h
        subst h
        obtain ⟨V1, L1, h1, ⟨V2, L2, h2, ⟨V3, L3, h3, ⟨V4, L4, h4, hL, rfl⟩, rfl⟩, rfl⟩, rfl⟩ := hL
        have h1 : V1 = _ := h1
        have h2 : V2 = _ := h2
        have h3 : V3 = _ := h3
        have h4 : V4 = _ := h4
        subst h1; subst h2; subst h3; subst h4
        obtain ⟨ds, k1, k2, k3⟩ := ih (by simp at hn; omega) hr hL
        refine ⟨⟨strOf a b, c, strOf d e, f⟩ :: ds, by simp [k1], by simp [k2]; omega, ?_⟩
        intro i x hx
        cases i with
        | zero =>
          simp only [List.getElem?_cons_zero, Option.some.injEq] at hx
          subst hx
          exact ⟨rfl, rfl, rfl, rfl, _, rfl, rfl, ⟨_, ⟨_, _, rfl, ⟨_, _, rfl, ⟨_, _, rfl, ⟨_, _, rfl, rfl, rfl⟩, rfl⟩, rfl⟩, rfl⟩, rfl⟩, rfl⟩
        | succ i =>
          obtain ⟨q1, q2, q3, q4, q5⟩ := k3 i x (by simpa using hx)
          have e : (i + 1) * 4 = i * 4 + 4 := by omega
          rw [e]
          exact ⟨by simpa using q1, by simpa using q2, by simpa using q3, by simpa using q4, by simpa using q5⟩
      · cases h
    · cases h

theorem cellsOfK_cells {h : H} {es n : Nat} {x : AV} {k : List AV → Bool} (hk : cellsOfK h es n x k = true) (hn : lenOf x = some n) :
    ∃ l, l.length = n * es ∧ k l = true ∧ ∀ m w X, Rep m h w → VRel m x X → ∃ L, LRel m l L ∧ ∃ p cap b off, X = .slice p n cap ∧ (0 < n → p = some ⟨b, off, none⟩) ∧
      ∀ j V, L[j]? = some V → w.cell? ⟨b, off + j, none⟩ = some V := by
  unfold cellsOfK at hk
  split at hk
  · simp only [lenOf, Option.some.injEq] at hn
    subst hn
    cases hb : Nat.beq 0 0 with
    | false => cases hb
    | true =>
      rw [hb] at hk
      exact ⟨[], by simp, hk, fun m w X _ hX => ⟨[], LRel.nil, none, 0, 0, 0, hX, fun h => absurd h (by omega), by simp⟩⟩
  · simp only [lenOf, Option.some.injEq] at hn
    subst hn
    rw [show Nat.beq 0 0 = true from rfl] at hk
    refine ⟨[], by simp, hk, fun m w X _ hX => ?_⟩
    obtain ⟨s, _, rfl⟩ := hX
    exact ⟨[], LRel.nil, _, _, 0, 0, rfl, fun h => absurd h (by omega), by simp⟩
  · rename_i id off len cap
    simp only [lenOf, Option.some.injEq] at hn
    subst hn
    obtain ⟨l, h1, h2, h3⟩ := readNK_abs hk
    refine ⟨l, h1, h3, fun m w X hr hX => ?_⟩
    obtain ⟨s, k1, rfl⟩ := hX
    obtain ⟨L, k2, k3⟩ := abs_sound hr k1 h2
    exact ⟨L, k2, _, _, _, _, rfl, fun _ => rfl, k3⟩
  · rename_i id es' lo len
    simp only [lenOf, Option.some.injEq] at hn
    subst hn
    cases hb : Nat.beq es es' with
    | false => rw [hb] at hk; exact bad_ne hk
    | true =>
      rw [hb] at hk; simp only [cond_true] at hk
      have := Nat.eq_of_beq_eq_true hb; subst this
      obtain ⟨l, h1, h2, h3⟩ := readNK_abs hk
      refine ⟨l, h1, h3, fun m w X hr hX => ?_⟩
      obtain ⟨s, k1, _, rfl⟩ := hX
      obtain ⟨L, k2, k3⟩ := abs_sound hr k1 h2
      exact ⟨L, k2, _, _, _, _, rfl, fun _ => rfl, k3⟩
  · exact bad_ne hk

theorem of_ok : EntryOk Tryz.prog 158 (.ext ofX) := by
  intro args h nx k hk
  unfold ofX at hk
  split at hk
  · rename_i c rest
    split at hk
    · rename_i n hn
      cases hb : Nat.blt n 1048576 with
      | false => rw [hb] at hk; exact bad_ne hk
      | true =>
      rw [hb] at hk; simp only [Bool.not_true, cond_false] at hk
      have hb := blt_lt hb
      obtain ⟨l, hl, hk, hx⟩ := cellsOfK_cells hk hn
      split at hk
      · rename_i cs hcs
        rw [newK_eq, newK_eq] at hk
        refine ⟨_, _, _, hk, by rw [Pos.toNat_succ, Pos.toNat_succ]; omega, fun m w LL hrep hLL hfree => .inr ⟨?_, ?_⟩⟩
        · exact enters_of Tryz.func158 (by kernel_rfl) rfl _ _
        obtain ⟨A, L', ⟨LA, hLA, rfl⟩, hL', rfl⟩ := hLL
        have hL' : L' = [] := hL'
        subst hL'
        obtain ⟨C, Lr, hC, hLr, rfl⟩ := hLA
        obtain ⟨L, hL, p, cap, b, off, rfl, hp, hcell⟩ := hx m w C hrep.toRep hC
        obtain ⟨d, hd1, hd2, hd3⟩ := con4_sound _ (Nat.le_refl _) hcs hL
        have hcl : cs.length = n := by omega
        have hdl : d.length = n := by omega
        have hget : ∀ i, i < n → d[i]? = some (d.getD i ⟨default, 0, default, 0⟩) := fun i hi => by rw [List.getD_eq_getElem?_getD]; simp [hdl, hi]
        have hcellD : ∀ i, i < n → ∀ j V, j < 4 → L[i * 4 + j]? = some V → w.cell? ⟨b, off + i * 4 + j, none⟩ = some V := fun i _ j V _ hV => by rw [Nat.add_assoc]; exact hcell _ _ hV
        have hblk : 0 < n → b < w.heap.size := fun h0 => by
          have h1 := hcellD 0 h0 0 _ (by omega) (hd3 0 _ (hget 0 h0)).1
          rcases Nat.lt_or_ge b w.heap.size with hlt | hge
          · exact hlt
          · simp [World.cell?, Array.getElem?_eq_none hge] at h1
        have hidx : m nx = none := hfree nx (Nat.le_refl _) (by rw [Pos.toNat_succ, Pos.toNat_succ]; omega)
        have hidy : m nx.succ = none := hfree nx.succ (by rw [Pos.toNat_succ]; omega) (by simp only [Pos.toNat_succ]; omega)
        have hdrop : ∀ k c, cs[k]? = some c → putAll (cs.drop k).reverse [] = mapPut c.1 c.2 (putAll (cs.drop (k + 1)).reverse []) := fun k c hc => by
          obtain ⟨hlt, hcc⟩ := List.getElem?_eq_some_iff.1 hc
          rw [List.drop_eq_getElem_cons hlt, List.reverse_cons, putAll_append, hcc]
        have hwalk := callsIn_wide.1 (of_walk (Value.slice p n cap :: Lr).toArray p b off n cap (by simp) w hp (by omega) hblk
          (fun k es clock => MapKept.Stamped es clock ∧ MapRep m true (putAll (cs.drop k).reverse []) es.toList)
          (fun i => (d.getD i ⟨default, 0, default, 0⟩).s) (fun i => (d.getD i ⟨default, 0, default, 0⟩).t) (fun i => (d.getD i ⟨default, 0, default, 0⟩).a) (fun i => (d.getD i ⟨default, 0, default, 0⟩).g)
          (by
            rw [← hcl, List.drop_length]
            exact ⟨MapKept.stamped_empty _, [], List.Perm.refl _, rfl, by simp [putAll], List.Pairwise.nil⟩)
          (fun i hi => by
            obtain ⟨q1, q2, q3, q4, _⟩ := hd3 i _ (hget i hi)
            exact ⟨hcellD i hi 0 _ (by omega) q1, hcellD i hi 1 _ (by omega) q2, hcellD i hi 2 _ (by omega) q3, hcellD i hi 3 _ (by omega) q4⟩)
          (fun k W M es clock hk hW ⟨g1, g2⟩ => by
            obtain ⟨_, _, _, _, c, q5, q6, q7, q8⟩ := hd3 k _ (hget k hk)
            obtain ⟨es', clock', r1, r2, r3⟩ := map_step (P := Tryz.prog) (t := 257) Tryz.underlying257 (d := .string) (by kernel_rfl) rfl hW g1 g2 q8 q6 q7
            exact ⟨es', clock', r1, r2, by rw [hdrop k c q5]; exact r3⟩))
        refine Calls.mono hwalk ?_
        rintro e w' ⟨es, clock, rfl, hC', hM', ⟨hst, Lm, m1, m2, m3, m4⟩, hbel⟩
        rw [List.drop_zero] at m2 m3 m4
        have hle1 : PLe m (m.set nx ⟨w.heap.size + 1, 0, 0⟩) := PLe.set _ hidx
        have d1 : DoneG m h.get nx w (m.set nx ⟨w.heap.size + 1, 0, 0⟩) (T.set (some (.mp true (putAll cs.reverse []))) nx h).get nx.succ w' := by
          refine DoneG.add (DoneG.below hrep hbel) (Nat.le_refl _) hidx _ (by simp) (Array.getElem?_eq_some_iff.1 hM').1 (fun id o s' k1 k2 => ?_) ?_
          · obtain ⟨s'', k3, k4, _⟩ := hrep.obj id o k1
            rw [k2] at k3; cases k3
            simp; omega
          · exact ⟨es, clock, Lm, hM', m1, m2.mono hle1, m3, m4, hst⟩
        have hne1 : nx ≠ nx.succ := fun e => Pos.succ_ne nx e.symm
        have d2 : DoneG m h.get nx w ((m.set nx ⟨w.heap.size + 1, 0, 0⟩).set nx.succ ⟨w.heap.size + 1 + 1, 0, 0⟩)
            (T.set (some (.cells 2 2 [.map nx, .int .i64 0] .e)) nx.succ (T.set (some (.mp true (putAll cs.reverse []))) nx h)).get nx.succ.succ w' := by
          have hid1 : (m.set nx ⟨w.heap.size + 1, 0, 0⟩) nx.succ = none := by rw [PM.set_other _ _ (fun e => hne1 e.symm)]; exact hidy
          refine DoneG.add d1 (by rw [Pos.toNat_succ]; omega) hid1 _ (by simp; omega) (Array.getElem?_eq_some_iff.1 hC').1 (fun id o s' k1 k2 => ?_) ?_
          · by_cases e : nx = id
            · subst e; rw [PM.set_same] at k2; cases k2; simp
            · rw [T.get_set_other _ _ _ _ e] at k1
              rw [PM.set_other _ _ (fun x => e x.symm)] at k2
              obtain ⟨s'', k3, k4, _⟩ := hrep.obj id o k1
              rw [k2] at k3; cases k3
              simp; omega
          · have hcells : LRel ((m.set nx ⟨w.heap.size + 1, 0, 0⟩).set nx.succ ⟨w.heap.size + 1 + 1, 0, 0⟩) [.map nx, .int .i64 0] [.map (some (w.heap.size + 1)), .int .i64 0] := by
              refine LRel.cons ⟨⟨w.heap.size + 1, 0, 0⟩, ?_, rfl⟩ (LRel.cons rfl LRel.nil)
              rw [PM.set_other _ _ hne1]; exact PM.set_same _ _ _
            exact ⟨_, _, _, hC', rfl, rfl, soft_zero _, CRep.list hcells (show 2 < 2 ^ 60 by decide) (Nat.le_refl _)⟩
        exact ⟨_, rfl, _, ⟨_, PM.set_same _ _ _, rfl⟩, d2⟩
      · exact bad_ne hk
    · exact bad_ne hk
  · exact bad_ne hk
end Go.Ev
