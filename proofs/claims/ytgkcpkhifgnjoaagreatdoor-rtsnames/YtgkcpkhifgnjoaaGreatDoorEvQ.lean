/- Regions that draw their order: what their operations do to memory, and when two of them may come in either order. -/
import Derived.Test.YtgkcpkhifgnjoaaGreatDoorEvP
namespace Go.Ev
open Go
open Classical in

def GStep : Rec → G → G → Prop
  | .foot _ rd A C, g, g' => (∀ p ∈ rd, ∃ o, g p.1 = some o ∧ p.2 o = true) ∧ Sub A.get g ∧ g' = upd A.get C.get g
  | .ins id key val, g, g' => ∃ ks es, g id = some (.mp ks es) ∧ keyOk ks key = true ∧ mapFind key es = none ∧ g' = fun p => if p = id then some (.mp ks (mapIns key val es)) else g p

theorem isNone'_iff {α : Type} {x : Option α} : isNone' x = true ↔ x = none := by cases x <;> simp [isNone']

theorem disj_get : ∀ {A B : H}, disj A B = true → ∀ id, A.get id = none ∨ B.get id = none
  | .e, _, _, id => .inl (by simp)
  | .n _ _ _, .e, _, id => .inr (by simp)
  | .n (some _) _ _, .n (some _) _ _, h, _ => by simp [disj] at h
  | .n none l r, .n x l' r', h, id => by
    simp only [disj, Bool.and_eq_true] at h
    cases id with
    | one => exact .inl rfl
    | o p => exact disj_get h.1 p
    | i p => exact disj_get h.2 p
  | .n (some y) l r, .n none l' r', h, id => by
    simp only [disj, Bool.and_eq_true] at h
    cases id with
    | one => exact .inr rfl
    | o p => exact disj_get h.1 p
    | i p => exact disj_get h.2 p

theorem rdOk_spec {A C : H} : ∀ {rd : List (Pos × (AObj → Bool))}, rdOk A C rd = true → ∀ p ∈ rd,
    (∃ a c, A.get p.1 = some a ∧ p.2 a = true ∧ C.get p.1 = some c ∧ p.2 c = true) ∨ (A.get p.1 = none ∧ C.get p.1 = none)
  | [], _, p, hp => by simp at hp
  | (id, chk) :: l, h, p, hp => by
    simp only [rdOk, Bool.and_eq_true] at h
    rcases List.mem_cons.1 hp with rfl | hp
    · have h1 := h.1
      split at h1
      · rename_i a ha
        simp only [Bool.and_eq_true] at h1
        have h2 := h1.2
        split at h2
        · rename_i c hc; exact .inl ⟨a, c, ha, h1.1, hc, h2⟩
        · cases h2
      · rename_i ha; exact .inr ⟨ha, isNone'_iff.1 h1⟩
    · exact rdOk_spec h.2 p hp

theorem noRd_spec {id : Pos} : ∀ {rd : List (Pos × (AObj → Bool))}, noRd id rd = true → ∀ p ∈ rd, p.1 ≠ id
  | [], _, p, hp => by simp at hp
  | (id', chk) :: l, h, p, hp => by
    simp only [noRd, Bool.and_eq_true, Bool.not_eq_true'] at h
    rcases List.mem_cons.1 hp with rfl | hp
    · intro e
      have := (Pos.beq_iff id id').2 e.symm
      rw [this] at h; cases h.1
    · exact noRd_spec h.2 p hp

theorem upd_none {A C g : G} {id : Pos} (ha : A id = none) (hc : C id = none) : upd A C g id = g id := by simp [upd, ha, hc]
theorem upd_some {A C g : G} {id : Pos} {o : AObj} (hc : C id = some o) : upd A C g id = some o := by simp [upd, hc]

/-! ### inserts -/
def klt (a b : AV) : Prop := keyLt a b = true

theorem intLt_iff {a b : Int} : intLt a b = true ↔ a < b := by rw [intLt_eq]; simp

theorem nbeq_iff {a b : Nat} : Nat.beq a b = true ↔ a = b := by rw [Nat.beq_eq]

theorem strLt_iff {n v n' v' : Nat} : keyLt (.str n v) (.str n' v') = true ↔ n < n' ∨ (n = n' ∧ v % 256 ^ n < v' % 256 ^ n') := by
  simp only [keyLt, Bool.or_eq_true, Bool.and_eq_true, Nat.blt_eq, nbeq_iff]
  exact Iff.rfl

theorem strEq_iff {n v n' v' : Nat} : keyEq (.str n v) (.str n' v') = true ↔ n = n' ∧ v % 256 ^ n = v' % 256 ^ n' := by
  simp only [keyEq, strEq]
  cases hb : Nat.beq n n' with
  | true =>
    have := nbeq_iff.1 hb
    subst this
    simp only [cond_true, nbeq_iff, true_and]
    exact Iff.rfl
  | false =>
    have : n ≠ n' := fun e => by rw [nbeq_iff.2 e] at hb; cases hb
    simp [this]

theorem keyLt_trans {a b c : AV} (h1 : keyLt a b = true) (h2 : keyLt b c = true) : keyLt a c = true := by
  cases a <;> cases b <;> try (cases h1; done)
  · cases c <;> try (cases h2; done)
    simp only [keyLt, intLt_iff] at *; omega
  · cases c <;> try (cases h2; done)
    rw [strLt_iff] at *
    rcases h1 with h1 | ⟨rfl, h1⟩ <;> rcases h2 with h2 | ⟨rfl, h2⟩
    · exact .inl (by omega)
    · exact .inl h1
    · exact .inl h2
    · exact .inr ⟨rfl, by omega⟩

theorem keyLt_total {ks : Bool} {a b : AV} (ha : keyOk ks a = true) (hb : keyOk ks b = true) (h : keyEq a b = false) : (keyLt a b = true ∧ keyLt b a = false) ∨ (keyLt a b = false ∧ keyLt b a = true) := by
  rcases keyOk_cases ha with ⟨rfl, n, rfl⟩ | ⟨rfl, n, v, rfl⟩ <;> rcases keyOk_cases hb with ⟨e, n', rfl⟩ | ⟨e, n', v', rfl⟩ <;>
    first
    | (cases e; done)
    | skip
  · simp only [keyEq, intEq_eq, decide_eq_false_iff_not] at h
    simp only [keyLt, intLt_eq, decide_eq_true_eq, decide_eq_false_iff_not]
    omega
  · rw [← Bool.not_eq_true, strEq_iff] at h
    rw [← Bool.not_eq_true, ← Bool.not_eq_true, strLt_iff, strLt_iff]
    rcases Nat.lt_trichotomy n n' with hn | rfl | hn
    · left; exact ⟨.inl hn, by omega⟩
    · simp only [true_and] at h
      simp only [Nat.lt_irrefl, true_and, false_or]
      omega
    · right; exact ⟨by omega, .inl hn⟩

theorem mapFind_ins {key k : AV} {val : AV} (h : keyEq key k = false) : ∀ {es : List (AV × AV)}, mapFind key es = none ↔ mapFind key (mapIns k val es) = none
  | [] => by simp [mapIns, mapFind, h]
  | (k', v') :: es => by
    unfold mapIns
    cases hl : keyLt k k' with
    | true => simp [mapFind, h]
    | false =>
      simp only [cond_false, mapFind]
      cases keyEq key k' with
      | true => simp
      | false => simp only [cond_false]; exact mapFind_ins h

theorem mapIns_comm {ks : Bool} {a b : AV} (ha : keyOk ks a = true) (hb : keyOk ks b = true) (h : keyEq a b = false) (u v : AV) :
    ∀ {es : List (AV × AV)}, mapIns b v (mapIns a u es) = mapIns a u (mapIns b v es)
  | [] => by
    rcases keyLt_total ha hb h with ⟨h1, h2⟩ | ⟨h1, h2⟩ <;> simp [mapIns, h1, h2]
  | (k, w) :: es => by
    have ih := mapIns_comm ha hb h u v (es := es)
    simp only [mapIns]
    cases ha' : keyLt a k <;> cases hb' : keyLt b k <;> simp only [cond_true, cond_false]
    · simp only [mapIns, ha', hb', cond_false, ih]
    · have : keyLt a b = false := by
        rw [← Bool.not_eq_true]; intro e
        rw [keyLt_trans e hb'] at ha'; cases ha'
      rcases keyLt_total ha hb h with ⟨h1, h2⟩ | ⟨h1, h2⟩
      · rw [this] at h1; cases h1
      · simp [mapIns, ha', hb', h1]
    · have : keyLt b a = false := by
        rw [← Bool.not_eq_true]; intro e
        rw [keyLt_trans e ha'] at hb'; cases hb'
      rcases keyLt_total ha hb h with ⟨h1, h2⟩ | ⟨h1, h2⟩
      · simp [mapIns, ha', hb', h2]
      · rw [this] at h2; cases h2
    · rcases keyLt_total ha hb h with ⟨h1, h2⟩ | ⟨h1, h2⟩ <;> simp [mapIns, ha', hb', h1, h2]

theorem keyEq_comm {ks : Bool} {a b : AV} (ha : keyOk ks a = true) (hb : keyOk ks b = true) (h : keyEq a b = false) : keyEq b a = false := by
  rw [keyEq_symm hb ha]; exact h

/-! ### two operations -/
theorem upd_upd {A C A' C' : H} {g : G} (d1 : disj A A' = true) (d2 : disj A C' = true) (d3 : disj C A' = true) (d4 : disj C C' = true) : upd A'.get C'.get (upd A.get C.get g) = upd A.get C.get (upd A'.get C'.get g) := by
  funext id
  have e1 := disj_get d1 id
  have e2 := disj_get d2 id
  have e3 := disj_get d3 id
  have e4 := disj_get d4 id
  unfold upd
  cases ha : A.get id <;> cases hc : C.get id <;> cases ha' : A'.get id <;> cases hc' : C'.get id <;> simp_all

open Classical in
theorem upd_set {A C : H} {g : G} {id : Pos} {o : AObj} (ha : A.get id = none) (hc : C.get id = none) :
    upd A.get C.get (fun p => if p = id then some o else g p) = fun p => if p = id then some o else upd A.get C.get g p := by
  funext p
  unfold upd
  by_cases e : p = id
  · subst e; simp [ha, hc]
  · simp [e]

open Classical in
theorem okPair_comm {r s : Rec} (h : okPair r s = true) {g g1 g2 : G} (h1 : GStep r g g1) (h2 : GStep s g1 g2) : ∃ g1', GStep s g g1' ∧ GStep r g1' g2 := by
  cases r with
  | foot mk rd A C =>
    obtain ⟨hr, hs, rfl⟩ := h1
    cases s with
    | foot mk' rd' A' C' =>
      obtain ⟨hr', hs', rfl⟩ := h2
      simp only [okPair, Bool.and_eq_true] at h
      obtain ⟨⟨⟨⟨⟨k1, k2⟩, k3⟩, k4⟩, k5⟩, k6⟩ := h
      refine ⟨upd A'.get C'.get g, ⟨?_, ?_, rfl⟩, ?_, ?_, upd_upd k3 k4 k5 k6⟩
      · intro p hp
        obtain ⟨o, g1, g2⟩ := hr' p hp
        rcases rdOk_spec k2 p hp with ⟨a, c, e1, e2, e3, e4⟩ | ⟨e1, e2⟩
        · exact ⟨a, hs _ _ e1, e2⟩
        · rw [upd_none e1 e2] at g1; exact ⟨o, g1, g2⟩
      · intro id o ho
        have := hs' id o ho
        have e1 := (disj_get k3 id).resolve_right (by rw [ho]; simp)
        have e2 := (disj_get k5 id).resolve_right (by rw [ho]; simp)
        rwa [upd_none e1 e2] at this
      · intro p hp
        obtain ⟨o, g1, g2⟩ := hr p hp
        rcases rdOk_spec k1 p hp with ⟨a, c, e1, e2, e3, e4⟩ | ⟨e1, e2⟩
        · exact ⟨c, upd_some e3, e4⟩
        · exact ⟨o, by rw [upd_none e1 e2]; exact g1, g2⟩
      · intro id o ho
        have := hs id o ho
        have e1 := (disj_get k3 id).resolve_left (by rw [ho]; simp)
        have e2 := (disj_get k4 id).resolve_left (by rw [ho]; simp)
        rwa [upd_none e1 e2]
    | ins id key val =>
      obtain ⟨ks, es, e1, e2, e3, rfl⟩ := h2
      simp only [okPair, Bool.and_eq_true, isNone'_iff] at h
      obtain ⟨⟨k1, k2⟩, k3⟩ := h
      rw [upd_none k1 k2] at e1
      refine ⟨_, ⟨ks, es, e1, e2, e3, rfl⟩, ?_, ?_, (upd_set k1 k2).symm⟩
      · intro p hp
        obtain ⟨o, g1, g2⟩ := hr p hp
        exact ⟨o, by simp [noRd_spec k3 p hp, g1], g2⟩
      · intro id' o ho
        have : id' ≠ id := fun e => by subst e; rw [k1] at ho; cases ho
        simp [this, hs _ _ ho]
  | ins id key val =>
    obtain ⟨ks, es, e1, e2, e3, rfl⟩ := h1
    cases s with
    | foot mk' rd A C =>
      obtain ⟨hr, hs, rfl⟩ := h2
      simp only [okPair, Bool.and_eq_true, isNone'_iff] at h
      obtain ⟨⟨k1, k2⟩, k3⟩ := h
      refine ⟨_, ⟨?_, ?_, rfl⟩, ks, es, by rw [upd_none k1 k2]; exact e1, e2, e3, upd_set k1 k2⟩
      · intro p hp
        obtain ⟨o, g1, g2⟩ := hr p hp
        exact ⟨o, by simpa [noRd_spec k3 p hp] using g1, g2⟩
      · intro id' o ho
        have hne : id' ≠ id := fun e => by subst e; rw [k1] at ho; cases ho
        simpa [hne] using hs _ _ ho
    | ins id' key' val' =>
      obtain ⟨ks', es', e1', e2', e3', rfl⟩ := h2
      simp only [okPair, Bool.or_eq_true, Bool.not_eq_true'] at h
      by_cases hid : id' = id
      · subst hid
        have hk : keyEq key key' = false := by
          rcases h with h | h
          · rw [(Pos.beq_iff id' id').2 rfl] at h; cases h
          · exact h
        simp only [if_true, Option.some.injEq, AObj.mp.injEq] at e1'
        obtain ⟨rfl, rfl⟩ := e1'
        refine ⟨_, ⟨ks, es, e1, e2', (mapFind_ins (keyEq_comm e2 e2' hk)).2 e3', rfl⟩, ks, mapIns key' val' es, by simp, e2, (mapFind_ins hk).1 e3, ?_⟩
        funext p
        by_cases e : p = id' <;> simp [e, mapIns_comm e2 e2' hk]
      · simp only [hid, if_false] at e1'
        refine ⟨_, ⟨ks', es', e1', e2', e3', rfl⟩, ks, es, by simp [Ne.symm hid, e1], e2, e3, ?_⟩
        funext p
        by_cases e : p = id'
        · subst e; simp [hid]
        · by_cases e' : p = id <;> simp [e, e', Ne.symm hid]
end Go.Ev
