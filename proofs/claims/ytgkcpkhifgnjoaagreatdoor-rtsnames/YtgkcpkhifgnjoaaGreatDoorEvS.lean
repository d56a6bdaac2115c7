/- Regions that draw their order: the evaluator's steps are such steps. -/
import Derived.Test.YtgkcpkhifgnjoaaGreatDoorEvR
namespace Go.Ev
open Go

/-- What an operation does, told by its record. -/
def RSem (P : Program) (o : Oper) (σ : Fr) (nx : Pos) (v : AV) (nx' : Pos) (r : Rec) : Prop :=
  nx.toNat ≤ nx'.toNat ∧ ∀ g g' m w a, GStep r g g' → RepG m g w → FRel m σ a → Free m nx nx' → ∀ (b : Act) K Q,
    (∀ m' w' V, VRel m' v V → DoneG m g nx w m' g' nx' w' → K (b.put o.dst V) w') → o.upon P b K Q ((execOp a.eval o).run P w)

section
variable {P : Program} {o : Oper} {σ : Fr} {nx nx' : Pos} {v : AV}

/-- From a stretch of memory to any memory; of what it leaves, so much as is wanted. -/
theorem OSem.toR {A C C' : G} (h : OSem P o σ A nx v C nx') (hC : Sub C' C) {r : Rec} (hr : ∀ g g', GStep r g g' → Sub A g ∧ g' = upd A C' g) : RSem P o σ nx v nx' r := by
  refine ⟨h.1, fun g g' m w a hg hrep hf hfree b K Q hK => ?_⟩
  obtain ⟨h1, rfl⟩ := hr g g' hg
  refine h.2 m w a (hrep.sub h1) hf hfree b K Q fun m' w' V hv hd => hK m' w' V hv ?_
  exact frame hrep h1 ⟨hd.rep.sub hC, hd.ext.sub hC, hd.only⟩

theorem sub_e {g : G} : Sub (T.e : H).get g := fun id o h => by simp at h
theorem upd_e {C g : G} : upd (T.e : H).get C g = fun id => match C id with | some o => some o | none => g id := by
  funext id; unfold upd; cases C id <;> simp
theorem upd_ee {g : G} : upd (T.e : H).get (T.e : H).get g = g := by
  funext id; simp [upd]

theorem gstep_idle {g : G} : GStep .idle g g := ⟨by simp, sub_e, upd_ee.symm⟩
theorem gstep_idle_iff {g g' : G} : GStep .idle g g' → g' = g := fun ⟨_, _, h⟩ => by rw [h, upd_ee]

theorem rd_same {op : OpK} (hc : op.cls = .read) {ρ : Fr} {h : H} {nx : Pos} {K : AV → H → Pos → Bool} : simple ρ h nx op K = simple ρ h nx op fun v _ nx' => K v h nx' := by
  cases op <;> first
    | rfl
    | (simp [OpK.cls] at hc; done)
    | skip

theorem single_get {id p : Pos} {ob o : AObj} : (T.set (some ob) id (.e : H)).get p = some o ↔ p = id ∧ o = ob := by
  by_cases e : id = p
  · subst e; rw [T.get_set_same]; simp [eq_comm]
  · rw [T.get_set_other _ _ _ _ e]; simp [Ne.symm e]

theorem upd_single {id : Pos} {ob : AObj} {h : H} : upd (T.e : H).get (T.set (some ob) id (.e : H)).get h.get = (T.set (some ob) id h).get := by
  funext p
  unfold upd
  by_cases e : id = p
  · subst e; simp
  · rw [T.get_set_other _ _ _ _ e, T.get_set_other _ _ _ _ e]; simp

theorem upd_self {A g : G} (h : Sub A g) : upd A A g = g := by
  funext id
  unfold upd
  cases ha : A id with
  | none => rfl
  | some o => simp [h id o ha]

theorem simple_bad {ρ : Fr} {h : H} {K : AV → H → Pos → Bool} {s : String} {p : Prop} (hk : simple ρ h nx (.bad s) K = true) : p := bad_ne hk

/-! ### hiding -/
theorem hideK_sound (mask : Nat) : ∀ (rs : List Rec) (i : Nat) (h0 h : H) (hid : List (Pos × AObj)) (k : H → List (Pos × AObj) → Bool), hideK mask i rs h hid k = true →
    (∀ p ∈ hid, h.get p.1 = none ∧ h0.get p.1 = some p.2) → (∀ id, h.get id = h0.get id ∨ (h.get id = none ∧ ∃ o, (id, o) ∈ hid)) →
    ∃ A hid', k A hid' = true ∧ (∀ p ∈ hid', A.get p.1 = none ∧ h0.get p.1 = some p.2) ∧ (∀ id, A.get id = h0.get id ∨ (A.get id = none ∧ ∃ o, (id, o) ∈ hid'))
  | [], i, h0, h, hid, k, hk, h1, h2 => ⟨h, hid, by unfold hideK at hk; exact hk, h1, h2⟩
  | .foot (some id) rd A C :: rs, i, h0, h, hid, k, hk, h1, h2 => by
    unfold hideK at hk
    cases hb : Nat.testBit mask (Nat.pred i) with
    | true => rw [hb] at hk; exact hideK_sound mask rs _ h0 h hid k hk h1 h2
    | false =>
      rw [hb] at hk; simp only [cond_false] at hk
      split at hk
      · rename_i o ho
        rw [T.setK_eq] at hk
        have h0o : h0.get id = some o := by
          rcases h2 id with e | ⟨e, _⟩
          · rw [← e]; exact ho
          · rw [ho] at e; cases e
        refine hideK_sound mask rs _ h0 _ _ k hk ?_ ?_
        · intro p hp
          rcases List.mem_cons.1 hp with rfl | hp
          · exact ⟨T.get_set_same _ _ _, h0o⟩
          · by_cases e : id = p.1
            · exact ⟨by rw [← e]; exact T.get_set_same _ _ _, (h1 p hp).2⟩
            · rw [T.get_set_other _ _ _ _ e]; exact h1 p hp
        · intro id'
          by_cases e : id = id'
          · subst e; exact .inr ⟨T.get_set_same _ _ _, o, by simp⟩
          · rw [T.get_set_other _ _ _ _ e]
            rcases h2 id' with q | ⟨q, o', ho'⟩
            · exact .inl q
            · exact .inr ⟨q, o', by simp [ho']⟩
      · exact hideK_sound mask rs _ h0 h hid k hk h1 h2
  | .foot none rd A C :: rs, i, h0, h, hid, k, hk, h1, h2 => by
    unfold hideK at hk
    exact hideK_sound mask rs _ h0 h hid k hk h1 h2
  | .ins id key val :: rs, i, h0, h, hid, k, hk, h1, h2 => by
    unfold hideK at hk
    exact hideK_sound mask rs _ h0 h hid k hk h1 h2

theorem unhideK_sound : ∀ (hid : List (Pos × AObj)) (C : H) (k : H → Bool), unhideK hid C k = true →
    ∃ h', k h' = true ∧ (∀ p ∈ hid, C.get p.1 = none ∧ h'.get p.1 = some p.2) ∧ ∀ id, (∀ o, (id, o) ∉ hid) → h'.get id = C.get id
  | [], C, k, hk => ⟨C, by unfold unhideK at hk; exact hk, by simp, fun _ _ => rfl⟩
  | (id, o) :: l, C, k, hk => by
    unfold unhideK at hk
    split at hk
    · exact bad_ne hk
    · rename_i hc
      rw [T.setK_eq] at hk
      obtain ⟨h', g1, g2, g3⟩ := unhideK_sound l _ k hk
      have hnot : ∀ o', (id, o') ∉ l := fun o' ho => by
        have := (g2 _ ho).1
        simp only [T.get_set_same] at this; cases this
      refine ⟨h', g1, ?_, ?_⟩
      · intro p hp
        rcases List.mem_cons.1 hp with rfl | hp
        · exact ⟨hc, by rw [g3 id hnot]; exact T.get_set_same _ _ _⟩
        · have := g2 p hp
          have hne : id ≠ p.1 := fun e => hnot p.2 (by rw [e]; exact hp)
          rw [T.get_set_other _ _ _ _ hne] at this
          exact this
      · intro id' hid'
        have hne : id ≠ id' := fun e => hid' o (by rw [e]; simp)
        rw [g3 id' fun o' ho => hid' o' (by simp [ho]), T.get_set_other _ _ _ _ hne]

theorem hide_upd {h A C h' : H} {hid : List (Pos × AObj)} (a1 : ∀ p ∈ hid, A.get p.1 = none ∧ h.get p.1 = some p.2) (a2 : ∀ id, A.get id = h.get id ∨ (A.get id = none ∧ ∃ o, (id, o) ∈ hid))
    (c1 : ∀ p ∈ hid, C.get p.1 = none ∧ h'.get p.1 = some p.2) (c2 : ∀ id, (∀ o, (id, o) ∉ hid) → h'.get id = C.get id) : Sub A.get h.get ∧ h'.get = upd A.get C.get h.get := by
  constructor
  · intro id o ho
    rcases a2 id with e | ⟨e, _⟩
    · rw [← e]; exact ho
    · rw [e] at ho; cases ho
  · funext id
    by_cases hin : ∃ o, (id, o) ∈ hid
    · obtain ⟨o, ho⟩ := hin
      have q1 := a1 _ ho
      have q2 := c1 _ ho
      simp only at q1 q2
      simp [upd, q1.1, q2.1, q1.2, q2.2]
    · have hno : ∀ o, (id, o) ∉ hid := fun o ho => hin ⟨o, ho⟩
      rw [c2 id hno]
      rcases a2 id with e | ⟨_, o, ho⟩
      · unfold upd
        cases hc : C.get id with
        | some o => rfl
        | none =>
          cases ha : A.get id with
          | some o => rfl
          | none => simp only []; rw [← e, ha]
      · exact (hno o ho).elim

theorem heapOf_mem : ∀ {l : List (Pos × AObj)} {id : Pos} {o : AObj}, (heapOf l).get id = some o → (id, o) ∈ l
  | [], id, o, h => by simp [heapOf] at h
  | (id', o') :: l, id, o, h => by
    unfold heapOf at h
    by_cases e : id' = id
    · subst e; rw [T.get_set_same] at h; simp at h; simp [h]
    · rw [T.get_set_other _ _ _ _ e] at h
      simp [heapOf_mem h]

theorem sameIn_spec {h : H} : ∀ {l : List (Pos × AObj)}, sameIn h l = true → ∀ p ∈ l, h.get p.1 = some p.2
  | [], _, p, hp => by simp at hp
  | (id, o) :: l, hs, p, hp => by
    simp only [sameIn, Bool.and_eq_true] at hs
    rcases List.mem_cons.1 hp with rfl | hp
    · have h1 := hs.1
      split at h1
      · rename_i o' ho; rw [AObj.beq_eq h1] at ho; exact ho
      · cases h1
    · exact sameIn_spec hs.2 p hp

theorem sameIn_refl {h : H} : ∀ {l : List (Pos × AObj)}, sameIn h l = true → ∀ p ∈ l, p.2.beq p.2 = true
  | [], _, p, hp => by simp at hp
  | (id, o) :: l, hs, p, hp => by
    simp only [sameIn, Bool.and_eq_true] at hs
    rcases List.mem_cons.1 hp with rfl | hp
    · have h1 := hs.1
      split at h1
      · rename_i o' ho; have := AObj.beq_eq h1; subst this; exact h1
      · cases h1
    · exact sameIn_refl hs.2 p hp

theorem chkIds_mem : ∀ {l : List (Pos × AObj)} {p : Pos × AObj}, p ∈ l → ∃ c, (p.1, c) ∈ chkIds l ∧ ∀ o', c o' = o'.beq p.2
  | [], p, h => by simp at h
  | (id, o) :: l, p, h => by
    rcases List.mem_cons.1 h with rfl | h
    · exact ⟨fun o' => o'.beq o, by simp [chkIds], fun _ => rfl⟩
    · obtain ⟨c, h1, h2⟩ := chkIds_mem h
      exact ⟨c, by simp [chkIds, h1], h2⟩
theorem chkIds_of : ∀ {l : List (Pos × AObj)} {q : Pos × (AObj → Bool)}, q ∈ chkIds l → ∃ p ∈ l, q.1 = p.1 ∧ ∀ o', q.2 o' = o'.beq p.2
  | [], q, h => by simp [chkIds] at h
  | (id, o) :: l, q, h => by
    rcases List.mem_cons.1 h with rfl | h
    · exact ⟨(id, o), by simp, rfl, fun _ => rfl⟩
    · obtain ⟨p, h1, h2⟩ := chkIds_of h
      exact ⟨p, by simp [h1], h2⟩

theorem slIds_get {h : H} {v : AV} {l : List (Pos × AObj)} (hl : ∀ p ∈ l, h.get p.1 = some p.2) : ∀ p ∈ slIds h v l, h.get p.1 = some p.2 := by
  unfold slIds
  split
  · split
    · intro p hp
      rcases List.mem_cons.1 hp with rfl | hp
      · assumption
      · exact hl p hp
    · exact hl
  · split
    · intro p hp
      rcases List.mem_cons.1 hp with rfl | hp
      · assumption
      · exact hl p hp
    · exact hl
  · exact hl
theorem rdIds_get {ρ : Fr} {h : H} {op : OpK} : ∀ p ∈ rdIds ρ h op, h.get p.1 = some p.2 := by
  unfold rdIds
  split
  · exact slIds_get (slIds_get (by simp))
  · simp

theorem keyOk_one {ks ks' : Bool} {a : AV} (h : keyOk ks a = true) (h' : keyOk ks' a = true) : ks = ks' := by
  rcases keyOk_cases h with ⟨rfl, n, rfl⟩ | ⟨rfl, n, v, rfl⟩ <;> rcases keyOk_cases h' with ⟨rfl, n', e⟩ | ⟨rfl, n', v', e⟩ <;> first | rfl | cases e

open Classical in
theorem stepD_sound {call : CallK} (hcall : CallSound P call) {d : DOp} (hop : d.op.op = conv P o) (hcls : d.cls = .read → (conv P o).cls = .read) {i : Nat} {h : H} {rs : List Rec} {k : AV → H → Pos → Rec → Bool}
    (hk : stepD call d i σ h nx rs k = true) : ∃ v h' nx' r, k v h' nx' r = true ∧ RSem P o σ nx v nx' r ∧ GStep r h.get h'.get ∧ (d.cls = .pure → r = .idle) := by
  have pureCase : ∀ (k' : AV → Pos → Bool), simple σ .e nx (conv P o) (fun v _ nx1 => k' v nx1) = true → ∃ v nx', k' v nx' = true ∧ RSem P o σ nx v nx' .idle := by
    intro k' hk'
    obtain ⟨v, h1, nx1, q1, q2⟩ := simple_sound hk'
    exact ⟨v, nx1, q1, q2.toO.toR (C' := (T.e : H).get) sub_e fun g g' hg => ⟨sub_e, by rw [upd_ee]; exact gstep_idle_iff hg⟩⟩
  unfold stepD at hk
  rw [hop] at hk
  split at hk
  · obtain ⟨v, nx1, q1, q2⟩ := pureCase _ hk
    exact ⟨v, h, nx1, _, q1, q2, gstep_idle, fun _ => rfl⟩
  · rename_i hc
    obtain ⟨v, h1, nx1, q1, q2⟩ := simple_sound hk
    dsimp only at q1
    split at q1
    · rename_i ob hob
      rw [T.setK_eq] at q1
      refine ⟨v, _, nx1, _, q1, ?_, ⟨by simp, sub_e, upd_single.symm⟩, fun e => by rw [hc] at e; cases e⟩
      refine q2.toO.toR (C' := (T.set (some ob) nx (.e : H)).get) ?_ fun g g' hg => ⟨sub_e, hg.2.2⟩
      intro id o ho
      obtain ⟨rfl, rfl⟩ := single_get.1 ho
      exact hob
    · exact bad_ne q1
  · rename_i hc
    split at hk
    · obtain ⟨v, nx1, q1, q2⟩ := pureCase _ hk
      exact ⟨v, h, nx1, _, q1, q2, gstep_idle, fun _ => rfl⟩
    · rename_i id hid
      split at hk
      · exact bad_ne hk
      · rename_i ob hob
        obtain ⟨v, h1, nx1, q1, q2⟩ := simple_sound hk
        dsimp only at q1
        cases hb : rdChk σ nx (conv P o) id v nx1 ob with
        | false => rw [hb] at q1; exact bad_ne q1
        | true =>
          rw [hb] at q1; simp only [cond_true] at q1
          refine ⟨v, h, nx1, _, q1, ⟨q2.1, ?_⟩, ⟨fun p hp => ?_, sub_e, upd_ee.symm⟩, fun e => by rw [hc] at e; cases e⟩
          · intro g g' m w a hg hrep hf hfree b K Q hK
            obtain ⟨hrd, _, rfl⟩ := hg
            obtain ⟨ob', g1, g2⟩ := hrd _ (List.mem_singleton.2 rfl)
            simp only at g1 g2
            have hrdc := hcls hc
            have e3 : simple σ (T.set (some ob') id .e) nx (conv P o) (fun v' h' nx' => v'.beq v && nx'.beq nx1 && decide (h' = T.set (some ob') id .e)) = true := by
              rw [rd_same hrdc]
              unfold rdChk at g2
              simpa using g2
            obtain ⟨v', h', nx', k1, k2⟩ := simple_sound (P := P) (o := o) e3
            simp only [Bool.and_eq_true, decide_eq_true_eq] at k1
            obtain ⟨⟨k3, k4⟩, rfl⟩ := k1
            have := AV.beq_eq k3; subst this
            have := (Pos.beq_iff _ _).1 k4; subst this
            have hsub : Sub (T.set (some ob') id (.e : H)).get g := fun p o ho => by obtain ⟨rfl, rfl⟩ := single_get.1 ho; exact g1
            have := (k2.toO.toR (C' := (T.set (some ob') id (.e : H)).get) (fun _ _ h => h) (r := .foot none [] (T.set (some ob') id .e) (T.set (some ob') id .e)) fun g g' hg => ⟨hg.2.1, hg.2.2⟩).2 g g m w a
              ⟨by simp, hsub, (upd_self hsub).symm⟩ hrep hf hfree b K Q
            rw [upd_ee] at hK
            exact this hK
          · rcases List.mem_singleton.1 hp with rfl
            exact ⟨ob, hob, hb⟩
  · rename_i hc
    obtain ⟨v, h1, nx1, q1, q2⟩ := simple_sound hk
    dsimp only at q1
    cases hb : sameIn h1 (rdIds σ h (conv P o)) with
    | false => rw [hb] at q1; exact bad_ne q1
    | true =>
      rw [hb] at q1; simp only [cond_true] at q1
      split at q1
      · rename_i ob hob
        rw [T.setK_eq] at q1
        refine ⟨v, _, nx1, _, q1, ⟨q2.1, ?_⟩, ⟨fun q hq => ?_, sub_e, upd_single.symm⟩, fun e => by rw [hc] at e; cases e⟩
        · intro g g' m w a hg hrep hf hfree b K Q hK
          obtain ⟨hrd, _, rfl⟩ := hg
          have hsub : Sub (heapOf (rdIds σ h (conv P o))).get g := by
            intro id o ho
            have hm := heapOf_mem ho
            obtain ⟨c, c1, c2⟩ := chkIds_mem hm
            obtain ⟨o', e1, e2⟩ := hrd _ c1
            simp only at e1 e2
            rw [c2] at e2
            have := AObj.beq_eq e2; subst this; exact e1
          refine q2.toO.2 m w a (hrep.sub hsub) hf hfree b K Q fun m' w' V hv hd => hK m' w' V hv ?_
          have hC : Sub (fun p => if p = nx then some ob else (heapOf (rdIds σ h (conv P o))).get p) h1.get := by
            intro id o ho
            by_cases e : id = nx
            · subst e; simp at ho; rw [← ho]; exact hob
            · simp only [e, if_false] at ho
              exact sameIn_spec hb _ (heapOf_mem ho)
          have := frame hrep hsub ⟨hd.rep.sub hC, hd.ext.sub hC, hd.only⟩
          have e : upd (heapOf (rdIds σ h (conv P o))).get (fun p => if p = nx then some ob else (heapOf (rdIds σ h (conv P o))).get p) g = upd (T.e : H).get (T.set (some ob) nx (.e : H)).get g := by
            funext p
            unfold upd
            by_cases e : p = nx
            · subst e; simp
            · simp only [e, if_false, T.get_set_other _ _ _ _ (Ne.symm e), T.get_e]
              cases hp : (heapOf (rdIds σ h (conv P o))).get p with
              | none => rfl
              | some o => simp [hsub _ _ hp]
          rw [e] at this
          exact this
        · obtain ⟨p, p1, p2, p3⟩ := chkIds_of hq
          exact ⟨p.2, by rw [p2]; exact rdIds_get p p1, by rw [p3]; exact sameIn_refl hb p p1⟩
      · exact bad_ne q1
  · rename_i hc
    split at hk
    · rename_i ks mo ko vo hcv
      split at hk
      · rename_i id hev
        split at hk
        · rename_i ks' es hg
          cases hb : (keyOk ks (ev σ ko) && boolEq ks ks') with
          | false => rw [hb] at hk; exact bad_ne hk
          | true =>
            rw [hb] at hk; simp only [cond_true] at hk
            simp only [Bool.and_eq_true] at hb
            obtain ⟨hb1, hb2⟩ := hb
            have := boolEq_iff.1 hb2; subst this
            split at hk
            · rename_i hfn
              rw [T.setK_eq] at hk
              refine ⟨undefA, _, nx, _, hk, ⟨Nat.le_refl _, ?_⟩, ⟨ks, es, hg, hb1, hfn, ?_⟩, fun e => by rw [hc] at e; cases e⟩
              · intro g g' m w a hstep hrep hf hfree b K Q hK
                obtain ⟨ks0, es0, e1, e2, e3, rfl⟩ := hstep
                have := keyOk_one hb1 e2; subst this
                have e4 : simple σ (T.set (some (.mp ks es0)) id .e) nx (conv P o) (fun v' h' nx' => decide (v' = undefA ∧ h' = T.set (some (.mp ks (mapIns (ev σ ko) (ev σ vo) es0))) id (T.set (some (.mp ks es0)) id .e) ∧ nx' = nx)) = true := by
                  rw [hcv]
                  have : boolEq ks ks = true := boolEq_iff.2 rfl
                  simp [simple, hb1, hev, this, putObjK_eq, mapPut, e3]
                obtain ⟨v', h', nx', k1, k2⟩ := simple_sound (P := P) (o := o) e4
                obtain ⟨rfl, rfl, rfl⟩ := of_decide_eq_true k1
                rw [T.set_set] at k2
                have := (k2.toO.toR (fun _ _ h => h) (r := .foot none [] (T.set (some (.mp ks es0)) id .e) (T.set (some (.mp ks (mapIns (ev σ ko) (ev σ vo) es0))) id .e)) fun g g' hg => ⟨hg.2.1, hg.2.2⟩).2 g _ m w a
                  ⟨by simp, fun p o ho => by obtain ⟨rfl, rfl⟩ := single_get.1 ho; exact e1, ?_⟩ hrep hf hfree b K Q hK
                · exact this
                · funext p
                  unfold upd
                  by_cases e : p = id
                  · subst e; simp
                  · simp [e, T.get_set_other _ _ _ _ (Ne.symm e)]
              · funext p
                by_cases e : p = id
                · subst e; simp
                · simp [e, T.get_set_other _ _ _ _ (Ne.symm e)]
            · exact bad_ne hk
        · exact bad_ne hk
      · exact bad_ne hk
    · exact bad_ne hk
  · rename_i hc
    obtain ⟨A, hid, q1, q2, q3⟩ := hideK_sound d.mask rs i h h [] _ hk (by simp) (fun id => .inl rfl)
    obtain ⟨v, Cc, nx1, q4, q5⟩ := oneK_sound hcall q1
    obtain ⟨h', q6, q7, q8⟩ := unhideK_sound hid Cc _ q4
    obtain ⟨e1, e2⟩ := hide_upd q2 q3 q7 q8
    exact ⟨v, h', nx1, _, q6, q5.toR (fun _ _ h => h) fun g g' hg => ⟨hg.2.1, hg.2.2⟩, ⟨by simp, e1, e2⟩, fun e => by rw [hc] at e; cases e⟩
end
end Go.Ev
