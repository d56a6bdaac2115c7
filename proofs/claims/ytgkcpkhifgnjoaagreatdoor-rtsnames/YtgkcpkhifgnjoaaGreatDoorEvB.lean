/- Reading, writing and making blocks: what the evaluator does in its memory, the model does in the world. -/
import Derived.Test.YtgkcpkhifgnjoaaGreatDoorEvA
namespace Go.Ev

theorem addr_add (b o i : Nat) : (Addr.add ⟨b, o, none⟩ i : Addr) = ⟨b, o + i, none⟩ := by
  unfold Addr.add; split
  · rename_i h; subst h; rfl
  · rfl

theorem ORep.move {m m' : PM} {w w' : World} {s : Slot} {o : AObj} (h : ORep m w s o) (hm : PLe m m') (hw : w'.heap[s.blk]? = w.heap[s.blk]?) : ORep m' w' s o := by
  cases o with
  | cells size k d t =>
    obtain ⟨c, e, fz, h1, h2, h3, h4, h5, h6⟩ := h
    exact ⟨c, e, fz, hw.trans h1, h2, h3, h4, h5, fun i hi => let ⟨v, V, a, b, c⟩ := h6 i hi; ⟨v, V, a, b, c.mono hm⟩⟩
  | grown es ext k d t =>
    obtain ⟨c, e, fz, h1, h2, h3, h4, h5, h6, h7⟩ := h
    exact ⟨c, e, fz, hw.trans h1, h2, h3, h4, h5, h6, fun i hi => let ⟨v, V, a, b, c⟩ := h7 i hi; ⟨v, V, a, b, c.mono hm⟩⟩
  | mp ks es =>
    obtain ⟨mes, clock, L, h1, h2, h3, h4⟩ := h
    exact ⟨mes, clock, L, hw.trans h1, h2, h3.mono hm, h4⟩
  | ch cap buf =>
    obtain ⟨b, n, r, h1, h2⟩ := h
    exact ⟨b, n, r, hw.trans h1, h2.mono hm⟩

def bad (_ : String) : Bool := false
theorem bad_ne {p : Prop} (h : false = true) : p := by cases h

def readCell (o : Option AObj) (off : Nat) : Option AV :=
  match o with
  | some (.cells size k d t) => cellGet size k d t off
  | some (.grown _ ext k d t) => cellGet ext k d t off
  | _ => none

def readK (h : H) (id : Pos) (off : Nat) (k : AV → Bool) : Bool :=
  match readCell (h.get id) off with
  | some v => k v
  | none => bad "read"

def readN (o : Option AObj) : (n off : Nat) → (List AV → Bool) → Bool
  | 0, _, k => k []
  | n + 1, off, k => match readCell o off with
    | some v => readN o n (Nat.succ off) fun l => k (v :: l)
    | none => bad "readN"

def readNK (h : H) (id : Pos) (n off : Nat) (k : List AV → Bool) : Bool :=
  match n with
  | 0 => k []
  | n + 1 => readN (h.get id) (n + 1) off k

theorem cellGet_lt {size k : Nat} {d : List AV} {t : T AV} {i : Nat} {v : AV} (h : cellGet size k d t i = some v) : i < size := by
  unfold cellGet at h
  cases hb : Nat.blt i size with
  | true => exact Nat.le_of_ble_eq_true hb
  | false => rw [hb] at h; simp at h

section
variable {m : PM} {h : H} {w : World}

theorem readCell_sound (hr : Rep m h w) {id : Pos} {off : Nat} {v : AV} {s : Slot} (hs : m id = some s) (hv : readCell (h.get id) off = some v) :
    ∃ V, w.cell? ⟨s.blk, s.off + off, none⟩ = some V ∧ VRel m v V := by
  cases ho : h.get id with
  | none => rw [ho] at hv; simp [readCell] at hv
  | some o =>
    obtain ⟨s', h1, h2, h3⟩ := hr.obj id o ho
    rw [hs] at h1; cases h1
    rw [ho] at hv
    cases o with
    | cells size k d t =>
      obtain ⟨c, e, fz, g1, g2, g3, g4, g5, g6⟩ := h3
      obtain ⟨v', V, a1, a2, a3⟩ := g6 off (cellGet_lt hv)
      have : v' = v := by have : cellGet size k d t off = some v := hv
                          rw [this] at a1; cases a1; rfl
      subst this
      refine ⟨V, ?_, a3⟩
      simp only [World.cell?, g1, g2, Nat.zero_add] at a2 ⊢
      simpa using a2
    | grown es ext k d t =>
      obtain ⟨c, e, fz, g1, g2, g3, g4, g5, g6, g7⟩ := h3
      obtain ⟨v', V, a1, a2, a3⟩ := g7 off (cellGet_lt hv)
      have : v' = v := by have : cellGet ext k d t off = some v := hv
                          rw [this] at a1; cases a1; rfl
      subst this
      refine ⟨V, ?_, a3⟩
      simp only [World.cell?, g1]
      simpa using a2
    | mp ks es => simp [readCell] at hv
    | ch cap buf => simp [readCell] at hv

theorem readK_sound (hr : Rep m h w) {id : Pos} {off : Nat} {k : AV → Bool} {s : Slot} (hs : m id = some s) (hk : readK h id off k = true) :
    ∃ v V, k v = true ∧ w.cell? ⟨s.blk, s.off + off, none⟩ = some V ∧ VRel m v V := by
  unfold readK at hk
  cases hv : readCell (h.get id) off with
  | none => rw [hv] at hk; exact bad_ne hk
  | some v =>
    rw [hv] at hk
    obtain ⟨V, h1, h2⟩ := readCell_sound hr hs hv
    exact ⟨v, V, hk, h1, h2⟩

theorem readN_sound (hr : Rep m h w) {id : Pos} {s : Slot} (hs : m id = some s) : ∀ (n off : Nat) (k : List AV → Bool), readN (h.get id) n off k = true →
    ∃ l L, k l = true ∧ l.length = n ∧ LRel m l L ∧ ∀ j V, L[j]? = some V → w.cell? ⟨s.blk, s.off + off + j, none⟩ = some V
  | 0, off, k, hk => ⟨[], [], hk, rfl, LRel.nil, fun j V hj => by simp at hj⟩
  | n + 1, off, k, hk => by
    rw [readN] at hk
    cases hv : readCell (h.get id) off with
    | none => rw [hv] at hk; exact bad_ne hk
    | some v =>
      rw [hv] at hk
      obtain ⟨V, h1, h2⟩ := readCell_sound hr hs hv
      obtain ⟨l, L, g1, g2, g3, g4⟩ := readN_sound hr hs n (Nat.succ off) _ hk
      refine ⟨v :: l, V :: L, g1, by simp [g2], g3.cons h2, fun j V' hj => ?_⟩
      cases j with
      | zero => simp at hj; subst hj; exact h1
      | succ j => have := g4 j V' (by simpa using hj)
                  rw [← this]; congr 2; omega

theorem readNK_sound (hr : Rep m h w) {id : Pos} {s : Slot} (hs : m id = some s) {n off : Nat} {k : List AV → Bool} (hk : readNK h id n off k = true) :
    ∃ l L, k l = true ∧ l.length = n ∧ LRel m l L ∧ ∀ j V, L[j]? = some V → w.cell? ⟨s.blk, s.off + off + j, none⟩ = some V := by
  cases n with
  | zero => exact ⟨[], [], hk, rfl, LRel.nil, fun j V hj => by simp at hj⟩
  | succ n => exact readN_sound hr hs (n + 1) off k hk

/-- 'n' cells from an address on, read. -/
theorem run_loadCells_of {P : Program} {b o : Nat} {L : List Value} (h : ∀ (j : Nat) (V : Value), L[j]? = some V → w.cell? ⟨b, o + j, none⟩ = some V) :
    (loadCells ⟨b, o, none⟩ L.length).run P w = .ok L.toArray w := by
  have key : ∀ (L : List Value) (i : Nat) (acc : Array Value), (∀ (j : Nat) (V : Value), L[j]? = some V → w.cell? ⟨b, o + i + j, none⟩ = some V) →
      (loadCellsFrom ⟨b, o, none⟩ i L.length acc).run P w = .ok (acc ++ L.toArray) w := by
    intro L
    induction L with
    | nil => intro i acc _; simp [loadCellsFrom, pure]
    | cons V L ih =>
      intro i acc hL
      have h0 := hL 0 V rfl
      have hi := ih (i + 1) (acc.push V) fun j V' hj => by
        have := hL (j + 1) V' (by simpa using hj)
        rw [← this]; congr 2; omega
      simp only [List.length_cons, loadCellsFrom, load, bind, Sem.bind, Sem.run, addr_add]
      rw [show o + i = o + i + 0 from rfl, h0]
      simp only [hi]
      congr 1
      simp
  have := key L 0 #[] (fun j V hj => by simpa using h j V hj)
  simpa [loadCells] using this

/-! ### writing -/
def oneCell : AV → Bool
  | .agg _ | .tup _ => false
  | _ => true

def wr : Array Value → Nat → List Value → Array Value
  | c, _, [] => c
  | c, off, V :: L => wr (c.setIfInBounds off V) (off + 1) L

theorem wr_size : ∀ (L : List Value) (c : Array Value) (off : Nat), (wr c off L).size = c.size
  | [], _, _ => rfl
  | V :: L, c, off => by rw [wr, wr_size L]; simp

theorem wr_get : ∀ (L : List Value) (c : Array Value) (off i : Nat), off + L.length ≤ c.size →
    (wr c off L)[i]? = if off ≤ i ∧ i < off + L.length then L[i - off]? else c[i]?
  | [], c, off, i, _ => by simp only [wr, List.length_nil]; rw [if_neg (by omega)]
  | V :: L, c, off, i, h => by
    rw [wr, wr_get L _ _ _ (by simp at h ⊢; omega)]
    simp only [List.length_cons] at h ⊢
    by_cases h1 : off + 1 ≤ i ∧ i < off + 1 + L.length
    · rw [if_pos h1, if_pos (by omega)]
      obtain ⟨d, hd⟩ : ∃ d, i - off = d + 1 := ⟨i - off - 1, by omega⟩
      rw [hd, show i - (off + 1) = d by omega]; rfl
    · rw [if_neg h1]
      by_cases h2 : i = off
      · subst h2
        rw [if_pos (by omega)]
        have hi : i < c.size := by omega
        simp [hi]
      · rw [if_neg (by omega), Array.getElem?_setIfInBounds_ne (by omega)]

def World.setObj (w : World) (b : Nat) (o : Obj) : World := { w with heap := w.heap.setIfInBounds b o }

theorem one_of_VRel {v : AV} {V : Value} (h : VRel m v V) (h1 : oneCell v = true) : (∀ cs, V ≠ .agg cs) ∧ ∀ vs, V ≠ .tuple vs := by
  cases v <;> simp only [oneCell, VRel, Bool.false_eq_true] at h1 h <;>
    first
    | (subst h; constructor <;> intro _ e <;> cases e)
    | (obtain ⟨s, _, e⟩ := h; subst e; constructor <;> intro _ e <;> cases e)
    | (obtain ⟨s, _, _, e⟩ := h; subst e; constructor <;> intro _ e <;> cases e)
    | (obtain ⟨e, h⟩ := h; subst e; constructor <;> intro _ e <;> rw [e] at h <;> cases h)

theorem run_storeCells {P : Program} {b o : Nat} {e : TypeId} {fz : Nat × Nat} : ∀ (L : List Value) (i : Nat) (c : Array Value) (w : World),
    w.heap[b]? = some (.cells c e fz) → Soft c fz → o + i + L.length ≤ c.size → (∀ V ∈ L, (∀ cs, V ≠ .agg cs) ∧ ∀ vs, V ≠ .tuple vs) →
    (storeCells ⟨b, o, none⟩ L i).run P w = .ok () (World.setObj w b (.cells (wr c (o + i) L) e fz))
  | [], i, c, w, hb, _, _, _ => by
    have hlt : b < w.heap.size := by
      rcases Nat.lt_or_ge b w.heap.size with h | h
      · exact h
      · simp [Array.getElem?_eq_none h] at hb
    have : World.setObj w b (.cells (wr c (o + i) []) e fz) = w := by
      unfold World.setObj wr
      have hb' : w.heap[b] = .cells c e fz := by simpa [Array.getElem?_eq_getElem hlt] using hb
      have : w.heap.setIfInBounds b (.cells c e fz) = w.heap := by
        rw [← hb']
        apply Array.ext_getElem?
        intro j
        by_cases hj : b = j
        · subst hj; simp [hlt]
        · rw [Array.getElem?_setIfInBounds_ne hj]
      rw [this]
    rw [this]; rfl
  | V :: L, i, c, w, hb, hs, hsz, h1 => by
    have hlt : b < w.heap.size := by
      rcases Nat.lt_or_ge b w.heap.size with h | h
      · exact h
      · simp [Array.getElem?_eq_none h] at hb
    simp only [List.length_cons] at hsz
    have hin : o + i < c.size := by omega
    have hcell : w.cell? ⟨b, o + i, none⟩ = some c[o + i] := by simp [World.cell?, hb, hin]
    have hfz : w.frozen? ⟨b, o + i, none⟩ = false := by
      have := hs.no (o + i) hin
      simp only [World.frozen?, hb]
      simpa using this
    have hset : w.setCell ⟨b, o + i, none⟩ V = World.setObj w b (.cells (c.setIfInBounds (o + i) V) e fz) := by
      unfold World.setCell World.setObj
      congr 1
      apply Array.ext_getElem?
      intro j
      by_cases hj : b = j
      · subst hj
        have hb' : w.heap[b] = .cells c e fz := by simpa [Array.getElem?_eq_getElem hlt] using hb
        simp [hlt, Array.getElem_modify, hb']
      · simp [Array.getElem?_modify, hj, Array.getElem?_setIfInBounds_ne hj]
    have hV := h1 V (by simp)
    have hstore : ∀ k : Sem Unit, (Sem.store .plain ⟨b, o + i, none⟩ V k).run P w = k.run P (w.setCell ⟨b, o + i, none⟩ V) := by
      intro k
      cases V with
      | agg cs => exact absurd rfl (hV.1 cs)
      | tuple vs => exact absurd rfl (hV.2 vs)
      | _ => simp [Sem.run, hcell, hfz]
    have ih := run_storeCells (P := P) (b := b) (o := o) (e := e) (fz := fz) L (i + 1) (c.setIfInBounds (o + i) V) (World.setObj w b (.cells (c.setIfInBounds (o + i) V) e fz))
      (by simp [World.setObj, hlt]) (hs.of_size (by simp)) (by simp; omega) (fun V' hV' => h1 V' (by simp [hV']))
    simp only [storeCells, store, bind, Sem.bind, addr_add, hstore, hset]
    refine ih.trans ?_
    congr 1
    simp [World.setObj, wr, Nat.add_assoc]

def setCells (t : T AV) : (off : Nat) → List AV → T AV
  | _, [] => t
  | off, v :: l => setCells (T.set (some v) (pos off) t) (Nat.succ off) l

def setCellsK (t : T AV) : (off : Nat) → List AV → (T AV → Bool) → Bool
  | _, [], k => k t
  | off, v :: l, k => T.setK (some v) (pos off) t fun t => setCellsK t (Nat.succ off) l k

theorem setCellsK_eq : ∀ (l : List AV) (t : T AV) (off : Nat) (k : T AV → Bool), setCellsK t off l k = k (setCells t off l)
  | [], _, _, _ => rfl
  | v :: l, t, off, k => by rw [setCellsK, T.setK_eq, setCellsK_eq l]; rfl

theorem setCells_get : ∀ (l : List AV) (t : T AV) (off i : Nat), i < 2 ^ 64 → off + l.length < 2 ^ 64 →
    (setCells t off l).get (pos i) = if off ≤ i ∧ i < off + l.length then l[i - off]? else t.get (pos i)
  | [], t, off, i, _, _ => by simp only [setCells, List.length_nil]; rw [if_neg (by omega)]
  | v :: l, t, off, i, hi, ho => by
    simp only [List.length_cons] at ho ⊢
    rw [setCells, setCells_get l _ _ i hi (by simp only [Nat.succ_eq_add_one]; omega)]
    simp only [Nat.succ_eq_add_one]
    by_cases h1 : off + 1 ≤ i ∧ i < off + 1 + l.length
    · rw [if_pos h1, if_pos (by omega)]
      obtain ⟨d, hd⟩ : ∃ d, i - off = d + 1 := ⟨i - off - 1, by omega⟩
      rw [hd, show i - (off + 1) = d by omega]; rfl
    · rw [if_neg h1]
      by_cases h2 : i = off
      · subst h2
        rw [if_pos (by omega)]
        simp
      · rw [if_neg (by omega), T.get_set_other _ _ _ _ (fun e => h2 (pos_inj (by omega) hi e).symm)]

/-- A part of a block written anew: its new cells. -/
theorem CRep.write {size k : Nat} {d : List AV} {t : T AV} {o : Nat} {c : Array Value} {off : Nat} {l : List AV} {L : List Value} (hc : CRep m size k d t o c) (hl : LRel m l L)
    (hin : off + l.length ≤ size) (hsz : o + size ≤ c.size) : CRep m size k d (setCells t off l) o (wr c (o + off) L) := by
  have hlen := hl.length
  refine ⟨hc.1, fun i hi => ?_⟩
  have hb := hc.1
  obtain ⟨v, V, a1, a2, a3⟩ := hc.2 i hi
  have hp : (2 : Nat) ^ 60 < 2 ^ 64 := by decide
  have hblt : Nat.blt i size = true := Nat.ble_eq_true_of_le hi
  by_cases h1 : off ≤ i ∧ i < off + l.length
  · have hget := setCells_get l t off i (by omega) (by omega)
    rw [if_pos h1] at hget
    obtain ⟨v', hv'⟩ : ∃ v', l[i - off]? = some v' := ⟨l[i - off]'(by omega), by rw [List.getElem?_eq_getElem (by omega)]⟩
    obtain ⟨V', b1, b2⟩ := hl.get hv'
    refine ⟨v', V', ?_, ?_, b2⟩
    · simp only [cellGet, hblt, cond_true, hget, hv']
    · rw [wr_get _ _ _ _ (by omega), if_pos (by omega), show o + i - (o + off) = i - off by omega]; exact b1
  · have hget := setCells_get l t off i (by omega) (by omega)
    rw [if_neg h1] at hget
    refine ⟨v, V, ?_, ?_, a3⟩
    · simp only [cellGet, hblt, cond_true, hget] at a1 ⊢; exact a1
    · rw [wr_get _ _ _ _ (by omega), if_neg (by omega)]; exact a2

/-- Rep behind one name's object turned, its block with it. -/
theorem Rep.setObj (hr : Rep m h w) {id : Pos} {s : Slot} {o o' : AObj} {O : Obj} (ho : h.get id = some o) (hs : m id = some s)
    (hO : ORep m (World.setObj w s.blk O) s o') : Rep m (T.set (some o') id h) (World.setObj w s.blk O) ∧ Ext m h w m (T.set (some o') id h) (World.setObj w s.blk O) := by
  obtain ⟨s1, e1, hlt, _⟩ := hr.obj id o ho
  rw [hs] at e1; cases e1
  have hgo : ∀ id2 o2, (T.set (some o') id h).get id2 = some o2 → ∃ o3, h.get id2 = some o3 := by
    intro id2 o2 h2
    by_cases hid : id = id2
    · subst hid; exact ⟨o, ho⟩
    · rw [T.get_set_other _ _ _ _ hid] at h2; exact ⟨o2, h2⟩
  refine ⟨⟨fun id2 o2 h2 => ?_, fun id1 id2 o1 o2 s1 s2 g1 g2 g3 g4 g5 => ?_⟩, ⟨PLe.refl m, by simp [World.setObj], fun b hb hn => ?_, fun id2 o2 s2 g1 g2 _ => ?_, rfl, rfl, rfl⟩⟩
  · by_cases hid : id = id2
    · subst hid
      rw [T.get_set_same] at h2; cases h2
      exact ⟨s, hs, by simpa [World.setObj] using hlt, hO⟩
    · rw [T.get_set_other _ _ _ _ hid] at h2
      obtain ⟨s2, g1, g2, g3⟩ := hr.obj id2 o2 h2
      refine ⟨s2, g1, by simpa [World.setObj] using g2, g3.move (PLe.refl m) ?_⟩
      unfold World.setObj
      exact Array.getElem?_setIfInBounds_ne fun e => hid (hr.inj id id2 o o2 s s2 ho h2 hs g1 e)
  · obtain ⟨o3, g6⟩ := hgo id1 o1 g1
    obtain ⟨o4, g7⟩ := hgo id2 o2 g2
    exact hr.inj id1 id2 o3 o4 s1 s2 g6 g7 g3 g4 g5
  · unfold World.setObj
    exact Array.getElem?_setIfInBounds_ne (hn id o s ho hs)
  · obtain ⟨o3, g3⟩ := hgo id2 o2 g1
    exact ⟨id2, o3, s2, g3, g2, rfl⟩

def putObjK (h : H) (id : Pos) (o : AObj) (k : H → Bool) : Bool := T.setK (some o) id h k
theorem putObjK_eq (h : H) (id : Pos) (o : AObj) (k : H → Bool) : putObjK h id o k = k (T.set (some o) id h) := T.setK_eq _ _ _ _

def writeK (h : H) (id : Pos) (off : Nat) (l : List AV) (k : H → Bool) : Bool :=
  bif l.all oneCell then
    match h.get id with
    | some (.cells size n d t) => bif Nat.ble (Nat.add off l.length) size then setCellsK t off l fun t => putObjK h id (.cells size n d t) k else bad "write: out"
    | some (.grown es ext n d t) => bif Nat.ble (Nat.add off l.length) ext then setCellsK t off l fun t => putObjK h id (.grown es ext n d t) k else bad "write: out"
    | _ => bad "write: no block"
  else bad "write: what"

theorem ones {l : List AV} {L : List Value} (hl : LRel m l L) (h1 : l.all oneCell = true) : ∀ V ∈ L, (∀ cs, V ≠ .agg cs) ∧ ∀ vs, V ≠ .tuple vs := by
  intro V hV
  obtain ⟨i, hi, e⟩ := List.getElem_of_mem hV
  have hlen := hl.length
  obtain ⟨V', a1, a2⟩ := hl.get (i := i) (v := l[i]'(by omega)) (by rw [List.getElem?_eq_getElem (by omega)])
  rw [List.getElem?_eq_getElem hi, e] at a1; cases a1
  exact one_of_VRel a2 (List.all_eq_true.1 h1 _ (List.getElem_mem _))

theorem writeK_sound {P : Program} (hr : Rep m h w) {id : Pos} {s : Slot} (hs : m id = some s) {off : Nat} {l : List AV} {L : List Value} (hl : LRel m l L) {k : H → Bool}
    (hk : writeK h id off l k = true) : ∃ h' w', k h' = true ∧ (storeCells ⟨s.blk, s.off + off, none⟩ L).run P w = .ok () w' ∧ Rep m h' w' ∧ Ext m h w m h' w' ∧
      (∀ id2, id2 ≠ id → h'.get id2 = h.get id2) := by
  unfold writeK at hk
  cases h1 : l.all oneCell with
  | false => rw [h1] at hk; simp only [cond_false] at hk; exact bad_ne hk
  | true =>
    rw [h1] at hk; simp only [cond_true] at hk
    have hone := ones hl h1
    have hlen := hl.length
    cases ho : h.get id with
    | none => rw [ho] at hk; exact bad_ne hk
    | some o =>
      obtain ⟨s', g1, g2, g3⟩ := hr.obj id o ho
      rw [hs] at g1; cases g1
      rw [ho] at hk
      cases o with
      | cells size n d t =>
        simp only [] at hk
        cases hb : Nat.ble (Nat.add off l.length) size with
        | false => rw [hb] at hk; simp only [cond_false] at hk; exact bad_ne hk
        | true =>
          rw [hb] at hk; simp only [cond_true, setCellsK_eq, putObjK_eq] at hk
          have hin : off + l.length ≤ size := Nat.le_of_ble_eq_true hb
          obtain ⟨c, e, fz, a1, a2, a3, a4, a5⟩ := g3
          have hrun := run_storeCells (P := P) (o := s.off + off) L 0 c w a1 a4 (by omega) hone
          have hO : ORep m (World.setObj w s.blk (.cells (wr c (s.off + off + 0) L) e fz)) s (.cells size n d (setCells t off l)) := by
            refine ⟨wr c (s.off + off) L, e, fz, by simp [World.setObj, g2], a2, by rw [wr_size]; exact a3, ?_, ?_⟩
            · exact a4.of_size (wr_size _ _ _)
            · rw [a2]; exact a5.write hl hin (by omega)
          obtain ⟨b1, b2⟩ := hr.setObj ho hs hO
          exact ⟨_, _, hk, hrun, b1, b2, fun id2 hne => T.get_set_other _ _ _ _ (Ne.symm hne)⟩
      | grown es ext n d t =>
        simp only [] at hk
        cases hb : Nat.ble (Nat.add off l.length) ext with
        | false => rw [hb] at hk; simp only [cond_false] at hk; exact bad_ne hk
        | true =>
          rw [hb] at hk; simp only [cond_true, setCellsK_eq, putObjK_eq] at hk
          have hin : off + l.length ≤ ext := Nat.le_of_ble_eq_true hb
          obtain ⟨c, e, fz, a1, a2, a3, a0, a4, a5⟩ := g3
          have hrun := run_storeCells (P := P) (o := s.off + off) L 0 c w a1 a4 (by omega) hone
          have hO : ORep m (World.setObj w s.blk (.cells (wr c (s.off + off + 0) L) e fz)) s (.grown es ext n d (setCells t off l)) := by
            refine ⟨wr c (s.off + off) L, e, fz, by simp [World.setObj, g2], by rw [wr_size]; exact a2, a3, a0, ?_, ?_⟩
            · exact a4.of_size (wr_size _ _ _)
            · exact a5.write hl hin (by omega)
          obtain ⟨b1, b2⟩ := hr.setObj ho hs hO
          exact ⟨_, _, hk, hrun, b1, b2, fun id2 hne => T.get_set_other _ _ _ _ (Ne.symm hne)⟩
      | mp ks es => exact bad_ne hk
      | ch cap buf => exact bad_ne hk

/-! ### making -/
def PM.set (m : PM) (id : Pos) (s : Slot) : PM := fun p => if p.beq id then some s else m p

theorem PM.set_same (m : PM) (id : Pos) (s : Slot) : m.set id s id = some s := by
  unfold PM.set; rw [if_pos ((Pos.beq_iff id id).2 rfl)]
theorem PM.set_other (m : PM) {id p : Pos} (s : Slot) (h : p ≠ id) : m.set id s p = m p := by
  unfold PM.set; rw [if_neg fun e => h ((Pos.beq_iff p id).1 e)]

theorem PLe.set {id : Pos} (s : Slot) (hid : m id = none) : PLe m (m.set id s) := by
  intro p s' h
  by_cases e : p = id
  · subst e; rw [hid] at h; cases h
  · rw [PM.set_other m s e]; exact h

theorem Rep.none_get (hr : Rep m h w) {id : Pos} (h0 : m id = none) : h.get id = none := by
  cases hg : h.get id with
  | none => rfl
  | some o => obtain ⟨s, h1, _⟩ := hr.obj id o hg
              rw [h0] at h1; cases h1

/-- A name more, without a block of its own. -/
theorem Rep.name {nx : Pos} (hr : Rep m h w) (s : Slot) (hid : m nx = none) : Rep (m.set nx s) h w ∧ Ext m h w (m.set nx s) h w := by
  have hle : PLe m (m.set nx s) := PLe.set s hid
  have hno := hr.none_get hid
  have hne : ∀ id o, h.get id = some o → id ≠ nx := fun id o h1 e => by subst e; rw [hno] at h1; cases h1
  refine ⟨⟨fun id o h1 => ?_, fun id id' o o' s1 s2 g1 g2 g3 g4 g5 => ?_⟩, ⟨hle, Nat.le_refl _, fun _ _ _ => rfl, fun id o s1 g1 g2 _ => ?_, rfl, rfl, rfl⟩⟩
  · obtain ⟨s1, a, b, c⟩ := hr.obj id o h1
    exact ⟨s1, hle _ _ a, b, c.move hle rfl⟩
  · rw [PM.set_other m s (hne _ _ g1)] at g3
    rw [PM.set_other m s (hne _ _ g2)] at g4
    exact hr.inj id id' o o' s1 s2 g1 g2 g3 g4 g5
  · rw [PM.set_other m s (hne _ _ g1)] at g2
    exact ⟨id, o, s1, g1, g2, rfl⟩

def newW (w : World) (O : Obj) : World := { w with heap := w.heap.push O }

theorem newW_get (w : World) (O : Obj) : (newW w O).heap[w.heap.size]? = some O := Array.getElem?_push_size

/-- A name more, with a new block. -/
theorem Rep.new {nx : Pos} (hr : Rep m h w) (O : Obj) (o : AObj) (s : Slot) (hid : m nx = none) (hb : s.blk = w.heap.size) (hO : ORep (m.set nx s) (newW w O) s o) :
    Rep (m.set nx s) (T.set (some o) nx h) (newW w O) ∧ Ext m h w (m.set nx s) (T.set (some o) nx h) (newW w O) := by
  have hle : PLe m (m.set nx s) := PLe.set s hid
  have hno := hr.none_get hid
  have hold : ∀ b, b < w.heap.size → (newW w O).heap[b]? = w.heap[b]? := fun b hlt => by
    unfold newW; simp only; rw [Array.getElem?_push, if_neg (by omega)]
  have hsz : (newW w O).heap.size = w.heap.size + 1 := by simp [newW]
  refine ⟨⟨fun id o1 h1 => ?_, fun id id' o1 o2 s1 s2 g1 g2 g3 g4 g5 => ?_⟩, ⟨hle, by omega, fun b hlt _ => hold b hlt, fun id o1 s1 g1 g2 g3 => ?_, rfl, rfl, rfl⟩⟩
  · by_cases e : nx = id
    · subst e
      rw [T.get_set_same] at h1; cases h1
      exact ⟨s, PM.set_same m nx s, by omega, hO⟩
    · rw [T.get_set_other _ _ _ _ e] at h1
      obtain ⟨s1, a, b, c⟩ := hr.obj id o1 h1
      exact ⟨s1, hle _ _ a, by omega, c.move hle (hold _ b)⟩
  · have key : ∀ id o1 s1, (T.set (some o) nx h).get id = some o1 → m.set nx s id = some s1 → id ≠ nx → h.get id = some o1 ∧ m id = some s1 ∧ s1.blk < w.heap.size := by
      intro id o1 s1 g1 g3 hne
      rw [T.get_set_other _ _ _ _ (Ne.symm hne)] at g1
      rw [PM.set_other m s hne] at g3
      obtain ⟨s3, a, b, _⟩ := hr.obj id o1 g1
      rw [g3] at a; cases a
      exact ⟨g1, g3, b⟩
    by_cases e1 : id = nx
    · by_cases e2 : id' = nx
      · rw [e1, e2]
      · obtain ⟨_, _, k3⟩ := key id' o2 s2 g2 g4 e2
        subst e1
        rw [PM.set_same] at g3; cases g3
        omega
    · obtain ⟨k1, k2, k3⟩ := key id o1 s1 g1 g3 e1
      by_cases e2 : id' = nx
      · subst e2
        rw [PM.set_same] at g4; cases g4
        omega
      · obtain ⟨j1, j2, _⟩ := key id' o2 s2 g2 g4 e2
        exact hr.inj id id' o1 o2 s1 s2 k1 j1 k2 j2 g5
  · by_cases e : id = nx
    · subst e
      rw [PM.set_same] at g2; cases g2
      omega
    · rw [T.get_set_other _ _ _ _ (Ne.symm e)] at g1
      rw [PM.set_other m s e] at g2
      exact ⟨id, o1, s1, g1, g2, rfl⟩

/-- A name less. -/
theorem Rep.drop (hr : Rep m h w) (id : Pos) : Rep m (T.set none id h) w ∧ Ext m h w m (T.set none id h) w := by
  have key : ∀ id1 o1, (T.set none id h).get id1 = some o1 → h.get id1 = some o1 := by
    intro id1 o1 h1
    by_cases e : id = id1
    · subst e; rw [T.get_set_same] at h1; cases h1
    · rwa [T.get_set_other _ _ _ _ e] at h1
  exact ⟨⟨fun id1 o1 h1 => hr.obj id1 o1 (key _ _ h1), fun a b o1 o2 s1 s2 g1 g2 => hr.inj a b o1 o2 s1 s2 (key _ _ g1) (key _ _ g2)⟩,
    ⟨PLe.refl m, Nat.le_refl _, fun _ _ _ => rfl, fun id1 o1 s1 g1 g2 _ => ⟨id1, o1, s1, key _ _ g1, g2, rfl⟩, rfl, rfl, rfl⟩⟩
end
end Go.Ev
namespace Go.Ev
/-- So many cells from a place on, as the evaluator finds them. -/
def AbsCells (ob : Option AObj) : Nat → List AV → Prop
  | _, [] => True
  | off, v :: l => readCell ob off = some v ∧ AbsCells ob (Nat.succ off) l

theorem readN_abs {ob : Option AObj} : ∀ (n off : Nat) (k : List AV → Bool), readN ob n off k = true → ∃ l, l.length = n ∧ AbsCells ob off l ∧ k l = true
  | 0, _, k, hk => ⟨[], rfl, trivial, hk⟩
  | n + 1, off, k, hk => by
    rw [readN] at hk
    cases hv : readCell ob off with
    | none => rw [hv] at hk; exact bad_ne hk
    | some v =>
      rw [hv] at hk
      obtain ⟨l, h1, h2, h3⟩ := readN_abs n (Nat.succ off) _ hk
      exact ⟨v :: l, by simp [h1], ⟨hv, h2⟩, h3⟩

theorem readNK_abs {h : H} {id : Pos} {n off : Nat} {k : List AV → Bool} (hk : readNK h id n off k = true) : ∃ l, l.length = n ∧ AbsCells (h.get id) off l ∧ k l = true := by
  cases n with
  | zero => exact ⟨[], rfl, trivial, hk⟩
  | succ n => exact readN_abs (n + 1) off k hk

theorem abs_sound {m : PM} {h : H} {w : World} (hr : Rep m h w) {id : Pos} {s : Slot} (hs : m id = some s) : ∀ {l : List AV} {off : Nat}, AbsCells (h.get id) off l →
    ∃ L, LRel m l L ∧ ∀ (j : Nat) (V : Value), L[j]? = some V → w.cell? ⟨s.blk, s.off + off + j, none⟩ = some V
  | [], _, _ => ⟨[], LRel.nil, fun j V hj => by simp at hj⟩
  | v :: l, off, ⟨hv, hl⟩ => by
    obtain ⟨V, h1, h2⟩ := readCell_sound hr hs hv
    obtain ⟨L, g1, g2⟩ := abs_sound hr hs hl
    refine ⟨V :: L, g1.cons h2, fun j V' hj => ?_⟩
    cases j with
    | zero => simp at hj; subst hj; exact h1
    | succ j => have := g2 j V' (by simpa using hj)
                rw [← this]; congr 2; omega

/-- A write, told by the memory behind it alone. -/
theorem writeK_abs {h : H} {id : Pos} {off : Nat} {l : List AV} {k : H → Bool} (hk : writeK h id off l k = true) :
    ∃ h', k h' = true ∧ ∀ (P : Program) (m : PM) (w : World), Rep m h w → ∀ s, m id = some s → ∀ L, LRel m l L →
      ∃ w', (storeCells ⟨s.blk, s.off + off, none⟩ L).run P w = .ok () w' ∧ Rep m h' w' ∧ Ext m h w m h' w' := by
  have key : ∃ h', k h' = true ∧ ∀ k' : H → Bool, k' h' = true → writeK h id off l k' = true := by
    unfold writeK at hk ⊢
    cases h1 : l.all oneCell with
    | false => rw [h1] at hk; exact bad_ne hk
    | true =>
      rw [h1] at hk; simp only [cond_true] at hk ⊢
      split at hk
      · rename_i size n d t hg
        cases hb : Nat.ble (Nat.add off l.length) size with
        | false => rw [hb] at hk; exact bad_ne hk
        | true =>
          rw [hb] at hk; simp only [cond_true, setCellsK_eq, putObjK_eq] at hk ⊢
          exact ⟨_, hk, fun k' h => h⟩
      · rename_i es ext n d t hg
        cases hb : Nat.ble (Nat.add off l.length) ext with
        | false => rw [hb] at hk; exact bad_ne hk
        | true =>
          rw [hb] at hk; simp only [cond_true, setCellsK_eq, putObjK_eq] at hk ⊢
          exact ⟨_, hk, fun k' h => h⟩
      · exact bad_ne hk
  obtain ⟨h', hk', hall⟩ := key
  refine ⟨h', hk', fun P m w hr s hs L hl => ?_⟩
  classical
  obtain ⟨h2, w', g1, g2, g3, g4, _⟩ := writeK_sound (P := P) hr hs hl (k := fun x => decide (x = h')) (hall _ (by simp))
  have : h2 = h' := by simpa using g1
  subst this
  exact ⟨w', g2, g3, g4⟩
end Go.Ev
