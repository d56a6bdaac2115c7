/- Regions that draw their order: any order comes to the same. -/
import Derived.Test.YtgkcpkhifgnjoaaGreatDoorEvQ
namespace Go.Ev
open Go

abbrev F := Nat → AV
def frF (ρ : Fr) : F := fun t => if t < 4294967296 then getF ρ (pos t) else undefA
def FR (m : PM) (f : F) (a : Act) : Prop := ∀ t, t < 4294967296 → VRel m (f t) (a.tmps.getD t undef)
def putF (f : F) (d : Option Nat) (v : AV) : F := match d with | none => f | some d => fun t => if t = d then v else f t

theorem frel_iff {m : PM} {ρ : Fr} {a : Act} : FRel m ρ a ↔ FR m (frF ρ) a := by
  constructor
  · intro h t ht; simp only [frF, ht, if_true]; exact h t ht
  · intro h t ht; have := h t ht; simp only [frF, ht, if_true] at this; exact this

theorem FR.mono {m m' : PM} {f : F} {a : Act} (h : FR m f a) (hm : PLe m m') : FR m' f a := fun t ht => (h t ht).mono hm

theorem FR.put {m : PM} {f : F} {a : Act} (h : FR m f a) {d : Option Nat} {v : AV} {V : Value} (hv : VRel m v V) (hd : ∀ x, d = some x → x < a.tmps.size) : FR m (putF f d v) (a.put d V) := by
  cases d with
  | none => exact h
  | some d =>
    intro t ht
    simp only [putF, Act.put]
    by_cases e : t = d
    · subst e; simp [hd t rfl, hv]
    · simp only [e, if_false, Array.getD_eq_getD_getElem?]
      rw [Array.getElem?_setIfInBounds_ne (Ne.symm e)]
      have := h t ht
      rwa [Array.getD_eq_getD_getElem?] at this

theorem put_size (a : Act) (d : Option Nat) (V : Value) : (a.put d V).tmps.size = a.tmps.size := by cases d <;> simp [Act.put]
theorem put_defers' (a : Act) (d : Option Nat) (V : Value) : (a.put d V).defers = a.defers := by cases d <;> rfl

theorem putK_eq (ρ : Fr) (d : Option Nat) (v : AV) (k : Fr → Bool) (hd : ∀ x, d = some x → x < 4294967296) : ∃ ρ', putK ρ (d.map pos) v k = k ρ' ∧ frF ρ' = putF (frF ρ) d v := by
  cases d with
  | none => exact ⟨ρ, rfl, rfl⟩
  | some d =>
    refine ⟨T.set (some v) (pos d) ρ, by simp only [Option.map_some, putK, T.setK_eq], ?_⟩
    funext t
    have hd := hd d rfl
    by_cases e : t = d
    · subst e; simp [frF, putF, hd, getF]
    · by_cases ht : t < 4294967296
      · have : pos d ≠ pos t := fun h => e (pos_inj (by omega) (by omega) h).symm
        simp [frF, putF, ht, e, getF, T.get_set_other _ _ _ _ this]
      · simp [frF, putF, ht, e]

/-- One operation of a region, with what it asks for, and what it does. -/
structure Stp where
  names : List Nat
  vals : F
  dst : Option Nat
  v : AV
  nx : Pos
  nx' : Pos
  r : Rec

def Stp.go (s : Stp) (f : F) (g : G) (f' : F) (g' : G) : Prop := (∀ t ∈ s.names, f t = s.vals t) ∧ GStep s.r g g' ∧ f' = putF f s.dst s.v

theorem putF_other {f : F} {d : Option Nat} {v : AV} {t : Nat} (h : d ≠ some t) : putF f d v t = f t := by
  cases d with
  | none => rfl
  | some d => have : t ≠ d := fun e => h (by rw [e])
              simp [putF, this]

theorem putF_comm {f : F} {d e : Option Nat} {u v : AV} (h : ∀ x, d = some x → e ≠ some x) : putF (putF f d u) e v = putF (putF f e v) d u := by
  cases d with
  | none => rfl
  | some d =>
    cases e with
    | none => rfl
    | some e =>
      have hne : d ≠ e := fun he => h d rfl (by rw [he])
      funext t
      simp only [putF]
      by_cases h1 : t = e
      · subst h1; simp [Ne.symm hne]
      · simp [h1]

theorem Stp.comm {s t : Stp} (hp : okPair s.r t.r = true) (h1 : ∀ d, s.dst = some d → d ∉ t.names) (h2 : ∀ d, s.dst = some d → t.dst ≠ some d) (h3 : ∀ d, t.dst = some d → d ∉ s.names)
    {f : F} {g : G} {f1 : F} {g1 : G} {f2 : F} {g2 : G} (a : s.go f g f1 g1) (b : t.go f1 g1 f2 g2) : ∃ f1' g1', t.go f g f1' g1' ∧ s.go f1' g1' f2 g2 := by
  obtain ⟨a1, a2, rfl⟩ := a
  obtain ⟨b1, b2, rfl⟩ := b
  obtain ⟨g1', c1, c2⟩ := okPair_comm hp a2 b2
  refine ⟨putF f t.dst t.v, g1', ⟨fun n hn => ?_, c1, rfl⟩, fun n hn => ?_, c2, putF_comm h2⟩
  · have := b1 n hn
    rwa [putF_other fun e => h1 n e hn] at this
  · rw [putF_other fun e => h3 n e hn]; exact a1 n hn

def Chain (S : Nat → Stp) : List Nat → F → G → F → G → Prop
  | [], f, g, f', g' => f = f' ∧ g = g'
  | i :: l, f, g, f'', g'' => ∃ f' g', (S i).go f g f' g' ∧ Chain S l f' g' f'' g''

theorem Chain.front {S : Nat → Stp} {i : Nat} {Y : List Nat} : ∀ {X : List Nat} {f : F} {g : G} {f' : F} {g' : G},
    (∀ j ∈ X, ∀ {f : F} {g : G} {f1 : F} {g1 : G} {f2 : F} {g2 : G}, (S j).go f g f1 g1 → (S i).go f1 g1 f2 g2 → ∃ f1' g1', (S i).go f g f1' g1' ∧ (S j).go f1' g1' f2 g2) →
    Chain S (X ++ i :: Y) f g f' g' → ∃ f1 g1, (S i).go f g f1 g1 ∧ Chain S (X ++ Y) f1 g1 f' g'
  | [], _, _, _, _, _, h => h
  | j :: X, f, g, f', g', hc, ⟨f1, g1, h1, h2⟩ => by
    obtain ⟨f2, g2, k1, k2⟩ := Chain.front (X := X) (fun j hj => hc j (by simp [hj])) h2
    obtain ⟨f3, g3, e1, e2⟩ := hc j (by simp) h1 k1
    exact ⟨f3, g3, e1, f2, g2, e2, k2⟩

section
variable {P : Program} {ops : Array Oper}

/-- What the model does in such a step. -/
def Stp.Sound (P : Program) (ops : Array Oper) (nt i : Nat) (s : Stp) : Prop :=
  ∀ f g f' g' m w a, s.go f g f' g' → FR m f a → nt ≤ a.tmps.size → RepG m g w → Free m s.nx s.nx' → ∀ K Q,
    (∀ m' w' a', FR m' f' a' → a'.tmps.size = a.tmps.size → a'.defers = a.defers → DoneG m g s.nx w m' g' s.nx' w' → K a' w') → wpOp P ops Q i K a w

theorem wpAny_chain {S : Nat → Stp} {nt : Nat} {lo top : Pos} {W : Nat → Nat → Prop}
    (hs : ∀ i, i < ops.size → (S i).Sound P ops nt i)
    (hr : ∀ i, i < ops.size → lo.toNat ≤ (S i).nx.toNat ∧ (S i).nx.toNat ≤ (S i).nx'.toNat ∧ (S i).nx'.toNat ≤ top.toNat)
    (hd : ∀ i j, i < j → j < ops.size → (S i).nx'.toNat ≤ (S j).nx.toNat)
    (he : ∀ i o, ops[i]? = some o → ∀ e ∈ o.after, Region.binds .any e = true → e.on < i)
    (hW : ∀ i j o, ops[i]? = some o → W i j → ∃ e ∈ o.after, Region.binds .any e = true ∧ (e.on = j ∨ W e.on j))
    (hc : ∀ j i, j < i → i < ops.size → ¬ W i j → ∀ {f : F} {g : G} {f1 : F} {g1 : G} {f2 : F} {g2 : G}, (S j).go f g f1 g1 → (S i).go f1 g1 f2 g2 → ∃ f1' g1', (S i).go f g f1' g1' ∧ (S j).go f1' g1' f2 g2)
    {Q : Exit → Act → World → Prop} {f' : F} {g' : G} :
    ∀ (fuel : Nat) (rem : List Nat) (listed : Array Bool) (f : F) (g : G) (m : PM) (w : World) (a : Act), rem.length ≤ fuel → listed.size = ops.size → rem.Pairwise (· < ·) → (∀ i ∈ rem, i < ops.size) →
      (∀ i, i < ops.size → (listed.getD i true = false ↔ i ∈ rem)) →
      (∀ i o, ops[i]? = some o → i ∉ rem → ∀ e ∈ o.after, Region.binds .any e = true → e.on ∉ rem) →
      Chain S rem f g f' g' → FR m f a → nt ≤ a.tmps.size → RepG m g w → (∀ i ∈ rem, Free m (S i).nx (S i).nx') → lo.toNat ≤ top.toNat →
      (∀ m' w' a', FR m' f' a' → a'.tmps.size = a.tmps.size → a'.defers = a.defers → DoneG m g lo w m' g' top w' → Q .normal a' w') →
      wpAny P .any ops Q fuel listed a w := by
  have size_of : ∀ {i : Nat} {o : Oper}, ops[i]? = some o → i < ops.size := fun h => (Array.getElem?_eq_some_iff.1 h).1
  -- what an operation waits for is listed, once what it names itself is
  have closed : ∀ (rem : List Nat), (∀ i o, ops[i]? = some o → i ∉ rem → ∀ e ∈ o.after, Region.binds .any e = true → e.on ∉ rem) →
      ∀ i o, ops[i]? = some o → (∀ e ∈ o.after, Region.binds .any e = true → e.on ∉ rem) → ∀ j, W i j → j ∉ rem := by
    intro rem hcl i
    induction i using Nat.strongRecOn with
    | _ i ih =>
      intro o ho hall j hw
      obtain ⟨e, e1, e2, e3⟩ := hW i j o ho hw
      have hn := hall e e1 e2
      rcases e3 with rfl | e3
      · exact hn
      · have hlt := he i o ho e e1 e2
        have hsz : e.on < ops.size := by have := size_of ho; omega
        exact ih e.on hlt ops[e.on] (Array.getElem?_eq_getElem hsz) (hcl e.on _ (Array.getElem?_eq_getElem hsz) hn) j e3
  intro fuel
  induction fuel with
  | zero =>
    intro rem listed f g m w a hl hsz hsorted hbd hmem hcl hch hf hnt hrep hfree hlh hQ
    have : rem = [] := List.length_eq_zero_iff.1 (by omega)
    subst this
    obtain ⟨rfl, rfl⟩ := hch
    refine ⟨?_, hQ m w a hf rfl rfl ⟨hrep, ExtG.refl m g w, Only.refl m lo top⟩⟩
    rw [List.eq_nil_iff_forall_not_mem]
    intro i hi
    obtain ⟨h1, o, h2, _⟩ := mem_ready.1 hi
    have := (hmem i (size_of h2)).1 h1
    cases this
  | succ fuel ih =>
    intro rem listed f g m w a hl hsz hsorted hbd hmem hcl hch hf hnt hrep hfree hlh hQ
    have listed_of : ∀ i, i < ops.size → i ∉ rem → listed.getD i false = true := by
      intro i hi hn
      have h1 : ¬ listed.getD i true = false := fun h => hn ((hmem i hi).1 h)
      have hi' : i < listed.size := by omega
      simp only [Array.getD_eq_getD_getElem?, Array.getElem?_eq_getElem hi', Option.getD_some] at h1 ⊢
      simpa using h1
    have not_rem : ∀ i, listed.getD i false = true → i ∉ rem := by
      intro i hi hn
      have hlt := hbd i hn
      have h1 := (hmem i hlt).2 hn
      have hi' : i < listed.size := by omega
      simp only [Array.getD_eq_getD_getElem?, Array.getElem?_eq_getElem hi', Option.getD_some] at h1 hi
      rw [h1] at hi; cases hi
    refine ⟨fun hnil => ?_, fun i hi => ?_⟩
    · cases rem with
      | nil =>
        obtain ⟨rfl, rfl⟩ := hch
        exact hQ m w a hf rfl rfl ⟨hrep, ExtG.refl m g w, Only.refl m lo top⟩
      | cons i rem =>
        exfalso
        have hlt := hbd i (by simp)
        have : i ∈ Region.ready .any ops listed := by
          refine mem_ready.2 ⟨(hmem i hlt).2 (by simp), ops[i], Array.getElem?_eq_getElem hlt, fun e he1 he2 => ?_⟩
          have h1 := he i _ (Array.getElem?_eq_getElem hlt) e he1 he2
          refine listed_of e.on (by omega) fun hin => ?_
          rcases List.mem_cons.1 hin with e1 | hin
          · omega
          · have := (List.pairwise_cons.1 hsorted).1 e.on hin; omega
        rw [hnil] at this; cases this
    · obtain ⟨h1, o, ho, hall⟩ := mem_ready.1 hi
      have hlt := size_of ho
      have hin := (hmem i hlt).1 h1
      obtain ⟨X, Y, rfl⟩ := List.append_of_mem hin
      have hall' : ∀ e ∈ o.after, Region.binds .any e = true → e.on ∉ X ++ i :: Y := fun e e1 e2 => not_rem _ (hall e e1 e2)
      have hsort := hsorted
      rw [List.pairwise_append, List.pairwise_cons] at hsort
      have hXi : ∀ j ∈ X, j < i := fun j hj => hsort.2.2 j hj i (by simp)
      have hiY : ∀ j ∈ Y, i < j := hsort.2.1.1
      have hiX' : i ∉ X ++ Y := fun h => by
        rcases List.mem_append.1 h with h | h
        · have := hXi i h; omega
        · have := hiY i h; omega
      obtain ⟨f1, g1, k1, k2⟩ := Chain.front (fun j hj => hc j i (hXi j hj) hlt fun hw => closed _ hcl i o ho hall' j hw (by simp [hj])) hch
      refine hs i hlt f g f1 g1 m w a k1 hf hnt hrep (hfree i (by simp)) _ _ fun m' w' a' q1 q2 q3 q4 => ?_
      refine ih (X ++ Y) (listed.setIfInBounds i true) f1 g1 m' w' a' (by simp at hl ⊢; omega) (by simp [hsz]) ?_ (fun j hj => hbd j (by simp at hj ⊢; rcases hj with h | h <;> simp [h])) ?_ ?_ k2 q1 (by omega) q4.rep ?_ hlh ?_
      · exact hsorted.sublist (List.Sublist.append (List.Sublist.refl X) (List.sublist_cons_self i Y))
      · intro j hj
        by_cases e : j = i
        · subst e
          have : listed.size = ops.size := hsz
          simp [hiX', Array.getD_eq_getD_getElem?, show j < listed.size by omega]
        · rw [getD_set_ne true (Ne.symm e), hmem j hj]
          simp [e]
      · intro j oj hoj hnj e e1 e2
        by_cases hji : j = i
        · subst hji
          rw [ho] at hoj; cases hoj
          have := hall' e e1 e2
          simp at this ⊢; exact ⟨this.1, this.2.2⟩
        · have := hcl j oj hoj (by simp at hnj ⊢; exact ⟨hnj.1, hji, hnj.2⟩) e e1 e2
          simp at this ⊢; exact ⟨this.1, this.2.2⟩
      · intro j hj id hid1 hid2
        have hjr : j ∈ X ++ i :: Y := by simp at hj ⊢; rcases hj with h | h <;> simp [h]
        rw [q4.only id ?_]
        · exact hfree j hjr id hid1 hid2
        · rcases List.mem_append.1 hj with h | h
          · have := hd j i (hXi j h) hlt; left; omega
          · have := hd i j (hiY j h) (hbd j hjr); right; omega
      · intro m'' w'' a'' p1 p2 p3 p4
        refine hQ m'' w'' a'' p1 (by omega) (by rw [p3, q3]) ⟨p4.rep, q4.ext.trans p4.ext, fun id hid => ?_⟩
        have := hr i hlt
        rw [p4.only id hid, q4.only id (by omega)]
end
end Go.Ev
