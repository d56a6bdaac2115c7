/- The data of a small evaluator for the model's code: abstract values, abstract memory, and what they stand for in a world. Nothing about one program. -/
import Derived.Calls
import Derived.Below
import Derived.MapKept
namespace Go.Ev

/-- Binary numbers from one on, the lowest digit first. -/
inductive Pos where
  | one | o (p : Pos) | i (p : Pos)

def Pos.succ : Pos → Pos
  | .one => .o .one
  | .o p => .i p
  | .i p => .o p.succ

def Pos.toNat : Pos → Nat
  | .one => 1
  | .o p => 2 * p.toNat
  | .i p => 2 * p.toNat + 1

theorem Pos.toNat_succ : ∀ p : Pos, p.succ.toNat = p.toNat + 1
  | .one => rfl
  | .o p => rfl
  | .i p => by simp only [Pos.succ, Pos.toNat, Pos.toNat_succ p]; omega

theorem Pos.toNat_pos : ∀ p : Pos, 0 < p.toNat
  | .one => by simp [Pos.toNat]
  | .o p => by have := Pos.toNat_pos p; simp only [Pos.toNat]; omega
  | .i p => by simp only [Pos.toNat]; omega

theorem Pos.toNat_inj : ∀ p q : Pos, p.toNat = q.toNat → p = q
  | .one, .one, _ => rfl
  | .one, .o q, h => by have := Pos.toNat_pos q; simp only [Pos.toNat] at h; omega
  | .one, .i q, h => by have := Pos.toNat_pos q; simp only [Pos.toNat] at h; omega
  | .o p, .one, h => by have := Pos.toNat_pos p; simp only [Pos.toNat] at h; omega
  | .o p, .o q, h => by rw [Pos.toNat_inj p q (by simp only [Pos.toNat] at h; omega)]
  | .o p, .i q, h => by simp only [Pos.toNat] at h; omega
  | .i p, .one, h => by have := Pos.toNat_pos p; simp only [Pos.toNat] at h; omega
  | .i p, .o q, h => by simp only [Pos.toNat] at h; omega
  | .i p, .i q, h => by rw [Pos.toNat_inj p q (by simp only [Pos.toNat] at h; omega)]

theorem Pos.succ_ne (p : Pos) : p.succ ≠ p := fun h => by have := Pos.toNat_succ p; rw [h] at this; omega

def Pos.beq : Pos → Pos → Bool
  | .one, .one => true
  | .o p, .o q => p.beq q
  | .i p, .i q => p.beq q
  | _, _ => false

theorem Pos.beq_iff : ∀ p q : Pos, p.beq q = true ↔ p = q
  | .one, .one => by simp [Pos.beq]
  | .one, .o q => by simp [Pos.beq]
  | .one, .i q => by simp [Pos.beq]
  | .o p, .one => by simp [Pos.beq]
  | .o p, .o q => by simp [Pos.beq, Pos.beq_iff p q]
  | .o p, .i q => by simp [Pos.beq]
  | .i p, .one => by simp [Pos.beq]
  | .i p, .o q => by simp [Pos.beq]
  | .i p, .i q => by simp [Pos.beq, Pos.beq_iff p q]

/-- A map from such numbers. -/
inductive T (α : Type) where
  | e | n (v : Option α) (l r : T α)

section
variable {α : Type} {R : Type}

def T.get : T α → Pos → Option α
  | .e, _ => none
  | .n v _ _, .one => v
  | .n _ l _, .o p => l.get p
  | .n _ _ r, .i p => r.get p

def T.set (v : Option α) : Pos → T α → T α
  | .one, .e => .n v .e .e
  | .one, .n _ l r => .n v l r
  | .o p, .e => .n none (T.set v p .e) .e
  | .o p, .n x l r => .n x (T.set v p l) r
  | .i p, .e => .n none .e (T.set v p .e)
  | .i p, .n x l r => .n x l (T.set v p r)

/-- The same, handed on once it is worked out. -/
def T.setK (v : Option α) : Pos → T α → (T α → R) → R
  | .one, .e, k => k (.n v .e .e)
  | .one, .n _ l r, k => k (.n v l r)
  | .o p, .e, k => T.setK v p .e fun l => k (.n none l .e)
  | .o p, .n x l r, k => T.setK v p l fun l => k (.n x l r)
  | .i p, .e, k => T.setK v p .e fun r => k (.n none .e r)
  | .i p, .n x l r, k => T.setK v p r fun r => k (.n x l r)

theorem T.setK_eq (v : Option α) : ∀ (p : Pos) (t : T α) (k : T α → R), T.setK v p t k = k (T.set v p t)
  | .one, .e, _ => rfl
  | .one, .n _ _ _, _ => rfl
  | .o p, .e, _ => by rw [T.setK, T.setK_eq v p]; rfl
  | .o p, .n _ l _, _ => by rw [T.setK, T.setK_eq v p]; rfl
  | .i p, .e, _ => by rw [T.setK, T.setK_eq v p]; rfl
  | .i p, .n _ _ r, _ => by rw [T.setK, T.setK_eq v p]; rfl

@[simp] theorem T.get_e (p : Pos) : (T.e : T α).get p = none := by cases p <;> rfl

@[simp] theorem T.get_set_same (v : Option α) : ∀ (p : Pos) (t : T α), (T.set v p t).get p = v
  | .one, .e => rfl
  | .one, .n _ _ _ => rfl
  | .o p, .e => T.get_set_same v p .e
  | .o p, .n _ l _ => T.get_set_same v p l
  | .i p, .e => T.get_set_same v p .e
  | .i p, .n _ _ r => T.get_set_same v p r

theorem T.get_set_other (v : Option α) : ∀ (p q : Pos) (t : T α), p ≠ q → (T.set v p t).get q = t.get q
  | .one, .one, _, h => absurd rfl h
  | .one, .o q, .e, _ => by simp [T.set, T.get]
  | .one, .o q, .n _ _ _, _ => rfl
  | .one, .i q, .e, _ => by simp [T.set, T.get]
  | .one, .i q, .n _ _ _, _ => rfl
  | .o p, .one, .e, _ => by simp [T.set, T.get]
  | .o p, .one, .n _ _ _, _ => rfl
  | .o p, .o q, .e, h => by simp only [T.set, T.get, T.get_set_other v p q .e (fun e => h (by rw [e]))]
  | .o p, .o q, .n _ l _, h => T.get_set_other v p q l (fun e => h (by rw [e]))
  | .o p, .i q, .e, _ => by simp [T.set, T.get]
  | .o p, .i q, .n _ _ _, _ => rfl
  | .i p, .one, .e, _ => by simp [T.set, T.get]
  | .i p, .one, .n _ _ _, _ => rfl
  | .i p, .o q, .e, _ => by simp [T.set, T.get]
  | .i p, .o q, .n _ _ _, _ => rfl
  | .i p, .i q, .e, h => by simp only [T.set, T.get, T.get_set_other v p q .e (fun e => h (by rw [e]))]
  | .i p, .i q, .n _ _ r, h => T.get_set_other v p q r (fun e => h (by rw [e]))
end

/-- A number above 0 as such a one. -/
def natPos : Nat → Nat → Pos
  | 0, _ => .one
  | f + 1, n => bif Nat.ble n 1 then .one else bif Nat.beq (Nat.mod n 2) 0 then .o (natPos f (Nat.div n 2)) else .i (natPos f (Nat.div n 2))

theorem natPos_toNat : ∀ (f n : Nat), 0 < n → n < 2 ^ f → (natPos f n).toNat = n
  | 0, n, h0, h => by simp at h; omega
  | f + 1, n, h0, h => by
    rw [natPos]
    by_cases h1 : n ≤ 1
    · have : n = 1 := by omega
      subst this; rfl
    · have hb : Nat.ble n 1 = false := by rw [← Bool.not_eq_true]; intro e; exact h1 (Nat.le_of_ble_eq_true e)
      rw [hb]; simp only [cond_false]
      have ih := natPos_toNat f (n / 2) (by omega) (by rw [Nat.pow_succ] at h; omega)
      have e2 : Nat.div n 2 = n / 2 := rfl
      have e3 : Nat.mod n 2 = n % 2 := rfl
      by_cases h2 : n % 2 = 0
      · have : Nat.beq (Nat.mod n 2) 0 = true := by rw [e3, h2]; rfl
        rw [this]; simp only [cond_true, Pos.toNat, e2, ih]; omega
      · have : Nat.beq (Nat.mod n 2) 0 = false := by rw [← Bool.not_eq_true]; intro e; exact h2 (by rw [e3] at e; exact Nat.eq_of_beq_eq_true e)
        rw [this]; simp only [cond_false, Pos.toNat, e2, ih]; omega

/-- The place of the n-th cell, or slot. -/
def pos (n : Nat) : Pos := natPos 70 (Nat.succ n)

theorem pos_inj {a b : Nat} (ha : a < 2 ^ 64) (hb : b < 2 ^ 64) (h : pos a = pos b) : a = b := by
  have h1 := natPos_toNat 70 (a + 1) (by omega) (by have : (2 : Nat) ^ 64 < 2 ^ 70 := by decide
                                                    omega)
  have h2 := natPos_toNat 70 (b + 1) (by omega) (by have : (2 : Nat) ^ 64 < 2 ^ 70 := by decide
                                                    omega)
  have h3 : (natPos 70 (a + 1)).toNat = (natPos 70 (b + 1)).toNat := congrArg Pos.toNat h
  omega

/-- Abstract values: blocks have names; a grown slice's capacity is left open. -/
inductive AV where
  | bool (b : Bool)
  | int (k : IntKind) (n : Int)
  | str (n v : Nat)
  | nilPtr | ptr (id : Pos) (off : Nat)
  | nilSl | slice (id : Pos) (off len cap : Nat) | gsl (id : Pos) (es lo len : Nat) | gend (id : Pos)
  | nilMap | map (id : Pos)
  | nilChan | chan (id : Pos)
  | fn (f : Nat) (caps : List AV) | nilFn
  | iface (t : Nat) (v : AV) | nilIface
  | agg (l : List AV) | tup (l : List AV)
  | opq (V : Value)

/-- Where a name's block is: its number, the place of its first cell, its capacity in elements. -/
structure Slot where
  blk : Nat
  off : Nat
  cap : Nat

abbrev PM := Pos → Option Slot

/-- The bytes of a string: its length, and its bytes as the digits of a number, the first one the lowest. -/
def bytesOf : Nat → Nat → List UInt8
  | 0, _ => []
  | n + 1, v => UInt8.ofNat (v % 256) :: bytesOf n (v / 256)

def strOf (n v : Nat) : ByteArray := ⟨(bytesOf n v).toArray⟩

/-- A value that is handed on unseen. -/
def opqOk : Value → Bool
  | .int _ _ => true
  | .string _ => true
  | .slice _ _ _ => true
  | _ => false

mutual
/-- What an abstract value stands for. -/
def VRel (m : PM) : AV → Value → Prop
  | .bool b, V => V = .bool b
  | .int k n, V => V = .int k n
  | .str n v, V => V = .string (strOf n v)
  | .nilPtr, V => V = .pointer none
  | .ptr id off, V => ∃ s, m id = some s ∧ V = .pointer (some ⟨s.blk, s.off + off, none⟩)
  | .nilSl, V => V = .slice none 0 0
  | .slice id off len cap, V => ∃ s, m id = some s ∧ V = .slice (some ⟨s.blk, s.off + off, none⟩) len cap
  | .gsl id es lo len, V => ∃ s, m id = some s ∧ lo + len ≤ s.cap ∧ V = .slice (some ⟨s.blk, s.off + lo * es, none⟩) len (s.cap - lo)
  | .gend id, V => ∃ s, m id = some s ∧ V = .slice (some ⟨s.blk, s.off, none⟩) 0 s.cap
  | .nilMap, V => V = .map none
  | .map id, V => ∃ s, m id = some s ∧ V = .map (some s.blk)
  | .nilChan, V => V = .chan none
  | .chan id, V => ∃ s, m id = some s ∧ V = .chan (some s.blk)
  | .fn f caps, V => ∃ L : List Value, LRel m caps L ∧ V = .func (.func f) #[] L.toArray
  | .nilFn, V => V = .nilFunc
  | .iface t v, V => ∃ U, VRel m v U ∧ V = .iface t U
  | .nilIface, V => V = .nilIface
  | .agg l, V => ∃ L : List Value, LRel m l L ∧ V = .agg L.toArray
  | .tup l, V => ∃ L : List Value, LRel m l L ∧ V = .tuple L.toArray
  | .opq U, V => V = U ∧ opqOk U = true
def LRel (m : PM) : List AV → List Value → Prop
  | [], L => L = []
  | v :: l, L => ∃ V L', VRel m v V ∧ LRel m l L' ∧ L = V :: L'
end

def PLe (m m' : PM) : Prop := ∀ id s, m id = some s → m' id = some s

theorem PLe.refl (m : PM) : PLe m m := fun _ _ h => h
theorem PLe.trans {a b c : PM} (h : PLe a b) (h' : PLe b c) : PLe a c := fun _ _ h₁ => h' _ _ (h _ _ h₁)

mutual
theorem VRel.mono {m m' : PM} (hm : PLe m m') : ∀ {v : AV} {V : Value}, VRel m v V → VRel m' v V
  | .bool _, _, h => h
  | .int _ _, _, h => h
  | .str _ _, _, h => h
  | .nilPtr, _, h => h
  | .ptr _ _, _, ⟨s, h, h'⟩ => ⟨s, hm _ _ h, h'⟩
  | .nilSl, _, h => h
  | .slice _ _ _ _, _, ⟨s, h, h'⟩ => ⟨s, hm _ _ h, h'⟩
  | .gsl _ _ _ _, _, ⟨s, h, h'⟩ => ⟨s, hm _ _ h, h'⟩
  | .gend _, _, ⟨s, h, h'⟩ => ⟨s, hm _ _ h, h'⟩
  | .nilMap, _, h => h
  | .map _, _, ⟨s, h, h'⟩ => ⟨s, hm _ _ h, h'⟩
  | .nilChan, _, h => h
  | .chan _, _, ⟨s, h, h'⟩ => ⟨s, hm _ _ h, h'⟩
  | .fn _ _, _, ⟨L, h, h'⟩ => ⟨L, LRel.mono hm h, h'⟩
  | .nilFn, _, h => h
  | .iface _ _, _, ⟨U, h, h'⟩ => ⟨U, VRel.mono hm h, h'⟩
  | .nilIface, _, h => h
  | .agg _, _, ⟨L, h, h'⟩ => ⟨L, LRel.mono hm h, h'⟩
  | .tup _, _, ⟨L, h, h'⟩ => ⟨L, LRel.mono hm h, h'⟩
  | .opq _, _, h => h
theorem LRel.mono {m m' : PM} (hm : PLe m m') : ∀ {l : List AV} {L : List Value}, LRel m l L → LRel m' l L
  | [], _, h => h
  | _ :: _, _, ⟨V, L', h, h', e⟩ => ⟨V, L', VRel.mono hm h, LRel.mono hm h', e⟩
end

theorem LRel.length {m : PM} : ∀ {l : List AV} {L : List Value}, LRel m l L → L.length = l.length
  | [], L, h => by have h : L = [] := h
                   rw [h]; rfl
  | _ :: l, _, ⟨V, L', _, h, e⟩ => by rw [e]; simp [LRel.length h]

theorem LRel.append {m : PM} : ∀ {a b : List AV} {A B : List Value}, LRel m a A → LRel m b B → LRel m (a ++ b) (A ++ B)
  | [], _, A, _, h, h' => by have h : A = [] := h
                             rw [h]; exact h'
  | _ :: a, _, _, _, ⟨V, L', hv, h, e⟩, h' => ⟨V, L' ++ _, hv, LRel.append h h', by rw [e]; rfl⟩

theorem LRel.get {m : PM} : ∀ {l : List AV} {L : List Value} {i : Nat} {v : AV}, LRel m l L → l[i]? = some v → ∃ V, L[i]? = some V ∧ VRel m v V
  | [], _, _, _, _, h => by simp at h
  | a :: l, _, 0, v, ⟨V, L', hv, _, e⟩, h => by
    simp at h; subst h; exact ⟨V, by rw [e]; rfl, hv⟩
  | a :: l, _, i + 1, v, ⟨V, L', _, hl, e⟩, h => by
    obtain ⟨V', h1, h2⟩ := LRel.get (i := i) hl (by simpa using h)
    exact ⟨V', by rw [e]; simpa using h1, h2⟩

theorem LRel.of_get {m : PM} : ∀ {l : List AV} {L : List Value}, L.length = l.length → (∀ (i : Nat) (v : AV), l[i]? = some v → ∃ V, L[i]? = some V ∧ VRel m v V) → LRel m l L
  | [], [], _, _ => rfl
  | [], _ :: _, h, _ => by simp at h
  | _ :: _, [], h, _ => by simp at h
  | a :: l, A :: L, h, hg => by
    refine ⟨A, L, ?_, LRel.of_get (by simpa using h) fun i v hi => ?_, rfl⟩
    · obtain ⟨V, h1, h2⟩ := hg 0 a rfl
      simp at h1; rw [h1]; exact h2
    · obtain ⟨V, h1, h2⟩ := hg (i + 1) v (by simpa using hi)
      exact ⟨V, by simpa using h1, h2⟩

theorem LRel.take {m : PM} {l : List AV} {L : List Value} (n : Nat) (h : LRel m l L) : LRel m (l.take n) (L.take n) := by
  refine LRel.of_get (by simp [h.length]) fun i v hi => ?_
  rw [List.getElem?_take] at hi
  split at hi
  · rename_i hlt
    obtain ⟨V, h1, h2⟩ := h.get hi
    exact ⟨V, by rw [List.getElem?_take, if_pos hlt]; exact h1, h2⟩
  · simp at hi

theorem LRel.drop {m : PM} {l : List AV} {L : List Value} (n : Nat) (h : LRel m l L) : LRel m (l.drop n) (L.drop n) := by
  refine LRel.of_get (by simp [h.length]) fun i v hi => ?_
  rw [List.getElem?_drop] at hi
  obtain ⟨V, h1, h2⟩ := h.get hi
  exact ⟨V, by rw [List.getElem?_drop]; exact h1, h2⟩

theorem LRel.nil {m : PM} : LRel m [] [] := rfl
theorem LRel.cons {m : PM} {v : AV} {l : List AV} {V : Value} {L : List Value} (h : VRel m v V) (h' : LRel m l L) : LRel m (v :: l) (V :: L) := ⟨V, L, h, h', rfl⟩

def intLt : Int → Int → Bool
  | .ofNat a, .ofNat b => Nat.blt a b
  | .negSucc _, .ofNat _ => true
  | .ofNat _, .negSucc _ => false
  | .negSucc a, .negSucc b => Nat.blt b a
def intEq : Int → Int → Bool
  | .ofNat a, .ofNat b => Nat.beq a b
  | .negSucc a, .negSucc b => Nat.beq a b
  | _, _ => false

def kindEq : IntKind → IntKind → Bool := fun a b => decide (a = b)

def strEq (n1 v1 n2 v2 : Nat) : Bool := bif Nat.beq n1 n2 then Nat.beq (Nat.mod v1 (Nat.pow 256 n1)) (Nat.mod v2 (Nat.pow 256 n1)) else false
/-- Is a key of its map's kind? -/
def keyOk : Bool → AV → Bool
  | false, .int .i64 _ => true
  | true, .str _ _ => true
  | _, _ => false
def keyEq : AV → AV → Bool
  | .int _ a, .int _ b => intEq a b
  | .str n a, .str m b => strEq n a m b
  | _, _ => false
def keyLt : AV → AV → Bool
  | .int _ a, .int _ b => intLt a b
  | .str n a, .str m b => Nat.blt n m || (Nat.beq n m && Nat.blt (Nat.mod a (Nat.pow 256 n)) (Nat.mod b (Nat.pow 256 m)))
  | _, _ => false

/-- What stands in a name's block. -/
inductive AObj where
  | cells (size k : Nat) (d : List AV) (t : T AV)
  | grown (es ext k : Nat) (d : List AV) (t : T AV)
  | mp (ks : Bool) (es : List (AV × AV))
  | ch (cap : Nat) (buf : List AV)

/-- A map's entries, key by key and value by value. -/
def MRel (m : PM) : List (AV × AV) → List MapEntry → Prop
  | [], L => L = []
  | (k, v) :: l, L => ∃ e L', VRel m k e.key ∧ VRel m v e.val ∧ MRel m l L' ∧ L = e :: L'

theorem MRel.mono {m m' : PM} (hm : PLe m m') : ∀ {es : List (AV × AV)} {L : List MapEntry}, MRel m es L → MRel m' es L
  | [], _, h => h
  | (_, _) :: _, _, ⟨e, L', h1, h2, h3, h4⟩ => ⟨e, L', h1.mono hm, h2.mono hm, MRel.mono hm h3, h4⟩

abbrev H := T AObj
abbrev Fr := T AV

def cellGet (size k : Nat) (d : List AV) (t : T AV) (i : Nat) : Option AV :=
  bif Nat.blt i size then match t.get (pos i) with
    | some v => some v
    | none => d[Nat.mod i k]?
  else none

/-- Which of the world's cells may be written: none of the frozen ones. -/
def Soft (c : Array Value) (fz : Nat × Nat) : Prop := fz.1 = fz.2 ∨ c.size ≤ fz.1
theorem Soft.no {c : Array Value} {fz : Nat × Nat} (h : Soft c fz) : ∀ i, i < c.size → ¬ (fz.1 ≤ i ∧ i < fz.2) := fun i hi => by
  rcases h with h | h <;> omega

theorem Soft.of_size {c c' : Array Value} {fz : Nat × Nat} (h : Soft c fz) (e : c'.size = c.size) : Soft c' fz := by
  rcases h with h | h
  · exact .inl h
  · exact .inr (by omega)

def CRep (m : PM) (size k : Nat) (d : List AV) (t : T AV) (off : Nat) (c : Array Value) : Prop :=
  size < 2 ^ 60 ∧ ∀ i, i < size → ∃ v V, cellGet size k d t i = some v ∧ c[off + i]? = some V ∧ VRel m v V

def ORep (m : PM) (w : World) (s : Slot) : AObj → Prop
  | .cells size k d t => ∃ c e fz, w.heap[s.blk]? = some (.cells c e fz) ∧ s.off = 0 ∧ c.size = size ∧ Soft c fz ∧ CRep m size k d t 0 c
  | .grown es ext k d t => ∃ c e fz, w.heap[s.blk]? = some (.cells c e fz) ∧ s.off + s.cap * es = c.size ∧ ext ≤ s.cap * es ∧ 0 < es ∧ Soft c fz ∧ CRep m ext k d t s.off c
  | .mp ks es => ∃ mes clock L, w.heap[s.blk]? = some (.map mes clock) ∧ L.Perm mes.toList ∧ MRel m es L ∧ (∀ p ∈ es, keyOk ks p.1 = true) ∧ (es.Pairwise fun a b => keyEq a.1 b.1 = false) ∧ MapKept.Stamped mes clock
  | .ch cap buf => ∃ b n r, w.heap[s.blk]? = some (.chan cap b false n r false) ∧ LRel m buf b.toList

structure Rep (m : PM) (h : H) (w : World) : Prop where
  obj : ∀ id o, h.get id = some o → ∃ s, m id = some s ∧ s.blk < w.heap.size ∧ ORep m w s o
  inj : ∀ id id' o o' s s', h.get id = some o → h.get id' = some o' → m id = some s → m id' = some s' → s.blk = s'.blk → id = id'

/-- What a stretch of code has done: new names, old blocks that no name of its own had stand as they stood. -/
structure Ext (m : PM) (h : H) (w : World) (m' : PM) (h' : H) (w' : World) : Prop where
  le : PLe m m'
  size : w.heap.size ≤ w'.heap.size
  keep : ∀ b, b < w.heap.size → (∀ id o s, h.get id = some o → m id = some s → s.blk ≠ b) → w'.heap[b]? = w.heap[b]?
  dom : ∀ id o s, h'.get id = some o → m' id = some s → s.blk < w.heap.size → ∃ id0 o0 s0, h.get id0 = some o0 ∧ m id0 = some s0 ∧ s0.blk = s.blk
  tape : w'.tape = w.tape
  os : w'.os = w.os
  out : w'.output = w.output

theorem Ext.refl (m : PM) (h : H) (w : World) : Ext m h w m h w :=
  ⟨PLe.refl m, Nat.le_refl _, fun _ _ _ => rfl, fun id o s h1 h2 _ => ⟨id, o, s, h1, h2, rfl⟩, rfl, rfl, rfl⟩

theorem Ext.trans {m m' m'' : PM} {h h' h'' : H} {w w' w'' : World} (a : Ext m h w m' h' w') (b : Ext m' h' w' m'' h'' w'') : Ext m h w m'' h'' w'' := {
  le := a.le.trans b.le
  size := Nat.le_trans a.size b.size
  keep := fun k hk hn => by
    rw [b.keep k (Nat.lt_of_lt_of_le hk a.size) ?_, a.keep k hk hn]
    intro id o s h1 h2 h3
    obtain ⟨id0, o0, s0, g1, g2, g3⟩ := a.dom id o s h1 h2 (by omega)
    exact hn id0 o0 s0 g1 g2 (by omega)
  dom := fun id o s h1 h2 h3 => by
    obtain ⟨id0, o0, s0, g1, g2, g3⟩ := b.dom id o s h1 h2 (Nat.lt_of_lt_of_le h3 a.size)
    obtain ⟨id1, o1, s1, k1, k2, k3⟩ := a.dom id0 o0 s0 g1 g2 (by omega)
    exact ⟨id1, o1, s1, k1, k2, by omega⟩
  tape := b.tape.trans a.tape
  os := b.os.trans a.os
  out := b.out.trans a.out }

/-- No name from one to before another has a place yet. -/
def Free (m : PM) (nx nx' : Pos) : Prop := ∀ id : Pos, nx.toNat ≤ id.toNat → id.toNat < nx'.toNat → m id = none
/-- Only such names have got a place. -/
def Only (m m' : PM) (nx nx' : Pos) : Prop := ∀ id : Pos, (id.toNat < nx.toNat ∨ nx'.toNat ≤ id.toNat) → m' id = m id

theorem Only.refl (m : PM) (nx nx' : Pos) : Only m m nx nx' := fun _ _ => rfl

/-- What is known behind a stretch of code. -/
structure Done (m : PM) (h : H) (nx : Pos) (w : World) (m' : PM) (h' : H) (nx' : Pos) (w' : World) : Prop where
  rep : Rep m' h' w'
  ext : Ext m h w m' h' w'
  only : Only m m' nx nx'

theorem Done.refl {m : PM} {h : H} {nx : Pos} {w : World} (hr : Rep m h w) : Done m h nx w m h nx w := ⟨hr, Ext.refl m h w, Only.refl m nx nx⟩

theorem Free.left {m : PM} {a b c : Pos} (h : Free m a c) (hbc : b.toNat ≤ c.toNat) : Free m a b := fun id h1 h2 => h id h1 (by omega)
theorem Free.right {m m' : PM} {a b c : Pos} (h : Free m a c) (hab : a.toNat ≤ b.toNat) (ho : Only m m' a b) : Free m' b c := fun id h1 h2 => by
  rw [ho id (.inr h1)]; exact h id (by omega) h2

theorem Done.trans {m m' m'' : PM} {h h' h'' : H} {a b c : Pos} {w w' w'' : World} (x : Done m h a w m' h' b w') (y : Done m' h' b w' m'' h'' c w'') (hab : a.toNat ≤ b.toNat) (hbc : b.toNat ≤ c.toNat) :
    Done m h a w m'' h'' c w'' :=
  ⟨y.rep, x.ext.trans y.ext, fun id hid => by rw [y.only id (by omega), x.only id (by omega)]⟩

end Go.Ev
