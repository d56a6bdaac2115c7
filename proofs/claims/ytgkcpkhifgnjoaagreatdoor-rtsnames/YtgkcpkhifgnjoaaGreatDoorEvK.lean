/- Maps; the built-in functions. -/
import Derived.Test.YtgkcpkhifgnjoaaGreatDoorEvJ
namespace Go.Ev
open Go

section
variable {P : Program} {o : Oper} {ρ : Fr} {h : H} {nx : Pos} {K : AV → H → Pos → Bool}

def KeyTy (d : TypeDesc) : Prop := (∃ k, d = .int k) ∨ d = .string

/-- A map's key type, by the flag. -/
def KeyD (ks : Bool) (d : TypeDesc) : Prop := match ks with | false => d = .int .i64 | true => d = .string

theorem KeyD.ty {ks : Bool} {d : TypeDesc} (h : KeyD ks d) : KeyTy d := by cases ks; exact .inl ⟨_, h⟩; exact .inr h

/-- What a key says. -/
def mean : AV → Int × List UInt8
  | .int _ n => (n, [])
  | .str n v => (0, bytesOf n v)
  | _ => (0, [])

theorem keyOk_cases {ks : Bool} {a : AV} (h : keyOk ks a = true) : (ks = false ∧ ∃ n, a = .int .i64 n) ∨ (ks = true ∧ ∃ n v, a = .str n v) := by
  unfold keyOk at h
  split at h
  · exact .inl ⟨rfl, _, rfl⟩
  · exact .inr ⟨rfl, _, _, rfl⟩
  · cases h

theorem keyEq_mean {ks : Bool} {a b : AV} (ha : keyOk ks a = true) (hb : keyOk ks b = true) : keyEq a b = decide (mean a = mean b) := by
  rcases keyOk_cases ha with ⟨rfl, n, rfl⟩ | ⟨rfl, n, v, rfl⟩
  · rcases keyOk_cases hb with ⟨_, m, rfl⟩ | ⟨h, _⟩
    · simp [keyEq, mean, intEq_eq]
    · cases h
  · rcases keyOk_cases hb with ⟨h, _⟩ | ⟨_, m, u, rfl⟩
    · cases h
    · simp [keyEq, mean, strEq_eq]

theorem keyEq_sound {ks : Bool} {d : TypeDesc} {a b : AV} (hd : KeyD ks d) (ha : keyOk ks a = true) (hb : keyOk ks b = true) {m : PM} {A B : Value} (hA : VRel m a A) (hB : VRel m b B) :
    Instr.sameNow d A B = some (keyEq a b) ∧ (keyEq a b = true → Instr.sameBits 10000 B A = true) := by
  rcases keyOk_cases ha with ⟨rfl, n, rfl⟩ | ⟨rfl, n, v, rfl⟩
  · rcases keyOk_cases hb with ⟨_, n', rfl⟩ | ⟨h, _⟩
    · have hd : d = .int .i64 := hd
      subst hd
      simp only [VRel] at hA hB; subst hA hB
      simp only [keyEq, intEq_eq]
      by_cases e : n = n'
      · subst e; simp [Instr.sameNow, Instr.sameBits]
      · simp [Instr.sameNow, e]
    · cases h
  · rcases keyOk_cases hb with ⟨h, _⟩ | ⟨_, n', v', rfl⟩
    · cases h
    · have hd : d = .string := hd
      subst hd
      simp only [VRel] at hA hB; subst hA hB
      simp only [keyEq, strEq_eq]
      have e1 : (strOf n v == strOf n' v') = decide (bytesOf n v = bytesOf n' v') := by
        rw [beq_toListBytes, strOf_toList, strOf_toList, Bool.eq_iff_iff]; simp
      have e2 : (strOf n' v' == strOf n v) = decide (bytesOf n' v' = bytesOf n v) := by
        rw [beq_toListBytes, strOf_toList, strOf_toList, Bool.eq_iff_iff]; simp
      by_cases e : bytesOf n v = bytesOf n' v'
      · simp [e] at e1
        simp [e.symm] at e2
        simp [Instr.sameNow, Instr.sameBits, e1, e2, e]
      · simp [e] at e1
        simp [Instr.sameNow, e1, e]

theorem findNow_none {d : TypeDesc} {A : Value} : ∀ {L : List MapEntry} (i : Nat), (∀ e ∈ L, Instr.sameNow d A e.key = some false) → Instr.findNow d A L i = some none
  | [], _, _ => rfl
  | e :: L, i, h => by
    simp only [Instr.findNow, h e (by simp)]
    exact findNow_none (i + 1) fun e' he => h e' (by simp [he])

theorem findNow_some {d : TypeDesc} {A : Value} {e : MapEntry} {Y : List MapEntry} (he : Instr.sameNow d A e.key = some true) : ∀ {X : List MapEntry} (i : Nat), (∀ x ∈ X, Instr.sameNow d A x.key = some false) →
    Instr.findNow d A (X ++ e :: Y) i = some (some (i + X.length, e.val))
  | [], i, _ => by simp [Instr.findNow, he]
  | x :: X, i, h => by
    simp only [List.cons_append, Instr.findNow, h x (by simp), List.length_cons]
    rw [findNow_some he (i + 1) fun x' hx => h x' (by simp [hx])]
    congr 3; omega

theorem MRel.split {m : PM} : ∀ {es : List (AV × AV)} {L : List MapEntry} {X Y : List (AV × AV)} {p : AV × AV}, MRel m es L → es = X ++ p :: Y →
    ∃ LX e LY, L = LX ++ e :: LY ∧ MRel m X LX ∧ MRel m Y LY ∧ VRel m p.1 e.key ∧ VRel m p.2 e.val
  | _, L, [], Y, (k, v), h, rfl => by
    obtain ⟨e, L', h1, h2, h3, rfl⟩ := h
    exact ⟨[], e, L', rfl, rfl, h3, h1, h2⟩
  | _, L, (k, v) :: X, Y, p, h, rfl => by
    obtain ⟨e, L', h1, h2, h3, rfl⟩ := h
    obtain ⟨LX, e', LY, rfl, g1, g2, g3, g4⟩ := MRel.split (X := X) h3 rfl
    exact ⟨e :: LX, e', LY, rfl, ⟨e, LX, h1, h2, g1, rfl⟩, g2, g3, g4⟩

theorem MRel.join {m : PM} : ∀ {X Y : List (AV × AV)} {LX LY : List MapEntry}, MRel m X LX → MRel m Y LY → MRel m (X ++ Y) (LX ++ LY)
  | [], _, _, _, h, h' => by have h : _ = [] := h
                             subst h; exact h'
  | (_, _) :: _, _, _, _, ⟨e, L', h1, h2, h3, h4⟩, h' => by subst h4; exact ⟨e, L' ++ _, h1, h2, MRel.join h3 h', rfl⟩

theorem MRel.mem {m : PM} : ∀ {es : List (AV × AV)} {L : List MapEntry} {e : MapEntry}, MRel m es L → e ∈ L → ∃ p ∈ es, VRel m p.1 e.key ∧ VRel m p.2 e.val
  | [], L, e, h, he => by have h : L = [] := h
                          subst h; simp at he
  | (k, v) :: es, L, e, ⟨e', L', h1, h2, h3, h4⟩, he => by
    subst h4
    rcases List.mem_cons.1 he with rfl | he
    · exact ⟨(k, v), by simp, h1, h2⟩
    · obtain ⟨p, hp, g⟩ := MRel.mem h3 he
      exact ⟨p, by simp [hp], g⟩

theorem MRel.length {m : PM} : ∀ {es : List (AV × AV)} {L : List MapEntry}, MRel m es L → L.length = es.length
  | [], L, h => by have h : L = [] := h
                   subst h; rfl
  | (_, _) :: es, L, ⟨e, L', h1, h2, h3, h4⟩ => by subst h4; simp [MRel.length h3]

theorem mapFind_none : ∀ {es : List (AV × AV)} {key : AV}, mapFind key es = none ↔ ∀ p ∈ es, keyEq key p.1 = false
  | [], key => by simp [mapFind]
  | (k, v) :: es, key => by
    unfold mapFind
    cases hk : keyEq key k with
    | true => simp [hk]
    | false => simp [hk, mapFind_none (es := es)]

theorem mapFind_some : ∀ {es : List (AV × AV)} {key v : AV}, mapFind key es = some v → ∃ X k Y, es = X ++ (k, v) :: Y ∧ keyEq key k = true ∧
    (∀ val, mapRep key val es = X ++ (key, val) :: Y) ∧ mapDel key es = X ++ Y
  | [], key, v, h => by simp [mapFind] at h
  | (k, v0) :: es, key, v, h => by
    unfold mapFind at h
    cases hk : keyEq key k with
    | true =>
      rw [hk] at h; simp at h; subst h
      exact ⟨[], k, es, rfl, hk, fun val => by simp [mapRep, hk], by simp [mapDel, hk]⟩
    | false =>
      rw [hk] at h; simp only [cond_false] at h
      obtain ⟨X, k', Y, h1, h2, h3, h4⟩ := mapFind_some h
      exact ⟨(k, v0) :: X, k', Y, by rw [h1]; rfl, h2, fun val => by simp [mapRep, hk, h3], by simp [mapDel, hk, h4]⟩

theorem mapIns_split (key val : AV) : ∀ es : List (AV × AV), ∃ X Y, es = X ++ Y ∧ mapIns key val es = X ++ (key, val) :: Y
  | [] => ⟨[], [], rfl, rfl⟩
  | (k, v) :: es => by
    unfold mapIns
    cases keyLt key k with
    | true => exact ⟨[], (k, v) :: es, rfl, rfl⟩
    | false =>
      obtain ⟨X, Y, h1, h2⟩ := mapIns_split key val es
      exact ⟨(k, v) :: X, Y, by rw [h1]; rfl, by simp [h2]⟩

theorem mapDel_none : ∀ {es : List (AV × AV)} {key : AV}, mapFind key es = none → mapDel key es = es
  | [], _, _ => rfl
  | (k, v) :: es, key, h => by
    unfold mapFind at h
    cases hk : keyEq key k with
    | true => rw [hk] at h; simp at h
    | false => rw [hk] at h; simp only [cond_false] at h; simp [mapDel, hk, mapDel_none h]

/-- A map's block, with what is known of its entries. -/
def MapRep (m : PM) (ks : Bool) (es : List (AV × AV)) (mes : List MapEntry) : Prop :=
  ∃ L : List MapEntry, L.Perm mes ∧ MRel m es L ∧ (∀ p ∈ es, keyOk ks p.1 = true) ∧ es.Pairwise fun a b => keyEq a.1 b.1 = false

theorem keyEq_symm {ks : Bool} {a b : AV} (ha : keyOk ks a = true) (hb : keyOk ks b = true) : keyEq a b = keyEq b a := by
  rw [keyEq_mean ha hb, keyEq_mean hb ha]
  by_cases e : mean a = mean b
  · simp [e]
  · simp [e, Ne.symm e]

/-- What the model's search finds in a map. -/
theorem MapRep.find {m : PM} {ks : Bool} {es : List (AV × AV)} {mes : List MapEntry} {d : TypeDesc} {key : AV} {A : Value} (h : MapRep m ks es mes) (hd : KeyD ks d) (hk : keyOk ks key = true) (hA : VRel m key A) :
    match mapFind key es with
      | none => Instr.findNow d A mes 0 = some none ∧ ∀ e ∈ mes, Instr.sameNow d A e.key = some false
      | some v => ∃ X k Y LX LY e MX MY, es = X ++ (k, v) :: Y ∧ keyEq key k = true ∧ MRel m X LX ∧ MRel m Y LY ∧ VRel m k e.key ∧ VRel m v e.val ∧ mes = MX ++ e :: MY ∧ (LX ++ LY).Perm (MX ++ MY) ∧
          Instr.findNow d A mes 0 = some (some (MX.length, e.val)) ∧ Instr.sameBits 10000 e.key A = true ∧ (∀ p ∈ X ++ Y, keyEq key p.1 = false) := by
  obtain ⟨L, hp, hM, hok, hdis⟩ := h
  cases hf : mapFind key es with
  | none =>
    have hall : ∀ e ∈ mes, Instr.sameNow d A e.key = some false := by
      intro e he
      obtain ⟨p, hp1, hp2, _⟩ := hM.mem (hp.mem_iff.2 he)
      rw [(keyEq_sound hd hk (hok p hp1) hA hp2).1, mapFind_none.1 hf p hp1]
    exact ⟨findNow_none 0 hall, hall⟩
  | some v =>
    obtain ⟨X, k, Y, h1, h2, h3, h4⟩ := mapFind_some hf
    obtain ⟨LX, e, LY, g1, g2, g3, g4, g5⟩ := hM.split h1
    have hkk : keyOk ks k = true := hok (k, v) (by rw [h1]; simp)
    have hoth : ∀ p ∈ X ++ Y, keyEq key p.1 = false := by
      intro p hp'
      have hpe : p ∈ es := by rw [h1]; simp at hp' ⊢; rcases hp' with h | h <;> simp [h]
      have hpk := hok p hpe
      have hkp : keyEq k p.1 = false := by
        rw [h1] at hdis
        rw [List.pairwise_append] at hdis
        rcases List.mem_append.1 hp' with hx | hy
        · have := hdis.2.2 p hx (k, v) (by simp)
          rw [keyEq_symm hkk hpk]; exact this
        · have := hdis.2.1
          rw [List.pairwise_cons] at this
          exact this.1 p hy
      rw [keyEq_mean hk hkk] at h2
      rw [keyEq_mean hkk hpk] at hkp
      rw [keyEq_mean hk hpk]
      have h2' : mean key = mean k := by simpa using h2
      rw [h2']; exact hkp
    have he : e ∈ mes := hp.mem_iff.1 (by rw [g1]; simp)
    obtain ⟨MX, MY, hm⟩ := List.append_of_mem he
    have hpm : (LX ++ LY).Perm (MX ++ MY) := by
      have : (e :: (LX ++ LY)).Perm (e :: (MX ++ MY)) := by
        refine (List.perm_middle.symm.trans ?_).trans List.perm_middle
        rw [← g1, ← hm]; exact hp
      exact List.Perm.cons_inv this
    have hs := keyEq_sound hd hk hkk hA g4
    refine ⟨X, k, Y, LX, LY, e, MX, MY, h1, h2, g2, g3, g4, g5, hm, hpm, ?_, hs.2 h2, hoth⟩
    rw [hm]
    have := findNow_some (d := d) (A := A) (e := e) (Y := MY) (by rw [hs.1, h2]) (X := MX) 0 (fun x hx => by
      have hx' : x ∈ LX ++ LY := hpm.mem_iff.2 (by simp [hx])
      obtain ⟨p, q1, q2, _⟩ := (g2.join g3).mem hx'
      have hpe : p ∈ es := by rw [h1]; simp at q1 ⊢; rcases q1 with h | h <;> simp [h]
      rw [(keyEq_sound hd hk (hok p hpe) hA q2).1, hoth p q1])
    rw [Nat.zero_add] at this
    exact this

theorem key_same {ks : Bool} {m : PM} {a b : AV} {A B : Value} (ha : keyOk ks a = true) (hb : keyOk ks b = true) (h : keyEq a b = true) (hA : VRel m a A) (hB : VRel m b B) : B = A := by
  rw [keyEq_mean ha hb] at h
  have h := of_decide_eq_true h
  rcases keyOk_cases ha with ⟨rfl, n, rfl⟩ | ⟨rfl, n, v, rfl⟩ <;> rcases keyOk_cases hb with ⟨e, n', rfl⟩ | ⟨e, n', v', rfl⟩ <;> first | (cases e; done) | skip
  · have hA : A = _ := hA
    have hB : B = _ := hB
    have h : n = n' := congrArg Prod.fst h
    rw [hA, hB, h]
  · have hA : A = _ := hA
    have hB : B = _ := hB
    have h : bytesOf n v = bytesOf n' v' := congrArg Prod.snd h
    rw [hA, hB]
    unfold strOf
    rw [h]

/-- A map written. -/
theorem MapRep.put {m : PM} {ks : Bool} {es : List (AV × AV)} {mes : List MapEntry} {d : TypeDesc} {key val : AV} {A B : Value} (h : MapRep m ks es mes) (hd : KeyD ks d) (hk : keyOk ks key = true) (hA : VRel m key A) (hB : VRel m val B) :
    (Instr.findNow d A mes 0 = some none ∧ (∀ x ∈ mes, x.key ≠ A) ∧ ∀ c, MapRep m ks (mapPut key val es) (mes ++ [⟨A, B, c⟩])) ∨
    (∃ MX e MY V, mes = MX ++ e :: MY ∧ Instr.findNow d A mes 0 = some (some (MX.length, V)) ∧ Instr.sameBits 10000 e.key A = true ∧ e.key = A ∧ MapRep m ks (mapPut key val es) (MX ++ { e with key := A, val := B } :: MY)) := by
  have hf := h.find hd hk hA
  unfold mapPut
  cases hfd : mapFind key es with
  | none =>
    rw [hfd] at hf
    refine .inl ⟨hf.1, fun x hx hxe => ?_, fun c => ?_⟩
    · have h1 := hf.2 x hx
      rw [hxe, (keyEq_sound hd hk hk hA hA).1] at h1
      rw [keyEq_mean hk hk] at h1
      simp at h1
    obtain ⟨L, hp, hM, hok, hdis⟩ := h
    obtain ⟨X, Y, h1, h2⟩ := mapIns_split key val es
    have hno := mapFind_none.1 hfd
    obtain ⟨LX, LY, g1, g2, g3⟩ : ∃ LX LY, L = LX ++ LY ∧ MRel m X LX ∧ MRel m Y LY := by
      clear h2 hp hok hdis hno hf hfd
      subst h1
      induction X generalizing L with
      | nil => exact ⟨[], L, rfl, rfl, hM⟩
      | cons p X ih =>
        obtain ⟨e, L', q1, q2, q3, rfl⟩ := hM
        obtain ⟨LX, LY, rfl, r2, r3⟩ := ih L' q3
        exact ⟨e :: LX, LY, rfl, ⟨e, LX, q1, q2, r2, rfl⟩, r3⟩
    refine ⟨LX ++ ⟨A, B, c⟩ :: LY, ?_, ?_, ?_, ?_⟩
    · refine List.perm_middle.trans ?_
      rw [← g1]
      exact (List.Perm.cons _ hp).trans (List.perm_append_singleton _ _).symm
    · simp only [h2]
      exact g2.join ⟨⟨A, B, c⟩, LY, hA, hB, g3, rfl⟩
    · intro p hp'
      simp only [h2] at hp'
      have : p = (key, val) ∨ p ∈ es := by rw [h1]; simp at hp' ⊢; rcases hp' with h | h | h <;> simp [h]
      rcases this with rfl | hpe
      · exact hk
      · exact hok p hpe
    · simp only [h2]
      rw [h1] at hdis hno hok
      rw [List.pairwise_append] at hdis ⊢
      refine ⟨hdis.1, List.pairwise_cons.2 ⟨fun p hp' => hno p (by simp [hp']), hdis.2.1⟩, fun a ha b hb => ?_⟩
      rcases List.mem_cons.1 hb with rfl | hb
      · rw [keyEq_symm (hok a (by simp [ha])) hk]; exact hno a (by simp [ha])
      · exact hdis.2.2 a ha b hb
  | some v =>
    rw [hfd] at hf
    obtain ⟨X, k, Y, LX, LY, e, MX, MY, h1, h2, g2, g3, g4, g5, hm, hpm, hfn, hsb, hoth⟩ := hf
    obtain ⟨X', k', Y', h1', h2', h3', _⟩ := mapFind_some hfd
    have hkk : keyOk ks k = true := by
      obtain ⟨_, _, _, hok, _⟩ := h
      exact hok (k, v) (by rw [h1]; simp)
    refine .inr ⟨MX, e, MY, e.val, hm, hfn, hsb, key_same hk hkk h2 hA g4, ?_⟩
    obtain ⟨L, hp, hM, hok, hdis⟩ := h
    -- the two splits are one
    have hXX : mapRep key val es = X ++ (key, val) :: Y := by
      have : ∀ (X : List (AV × AV)) (k v : AV) (Y : List (AV × AV)), (∀ p ∈ X, keyEq key p.1 = false) → keyEq key k = true → mapRep key val (X ++ (k, v) :: Y) = X ++ (key, val) :: Y := by
        intro X k v Y hX hk'
        induction X with
        | nil => simp [mapRep, hk']
        | cons p X ih => simp [mapRep, hX p (by simp), ih fun q hq => hX q (by simp [hq])]
      rw [h1]; exact this X k v Y (fun p hp' => hoth p (by simp [hp'])) h2
    refine ⟨LX ++ { e with key := A, val := B } :: LY, ?_, ?_, ?_, ?_⟩
    · exact (List.perm_middle.trans (List.Perm.cons _ hpm)).trans List.perm_middle.symm
    · simp only [hXX]
      exact g2.join ⟨{ e with key := A, val := B }, LY, hA, hB, g3, rfl⟩
    · intro p hp'
      simp only [hXX] at hp'
      have : p = (key, val) ∨ p ∈ es := by rw [h1]; simp at hp' ⊢; rcases hp' with h | h | h <;> simp [h]
      rcases this with rfl | hpe
      · exact hk
      · exact hok p hpe
    · simp only [hXX]
      rw [h1] at hdis hok
      rw [List.pairwise_append] at hdis ⊢
      refine ⟨hdis.1, List.pairwise_cons.2 ⟨fun p hp' => hoth p (by simp [hp']), (List.pairwise_cons.1 hdis.2.1).2⟩, fun a ha b hb => ?_⟩
      rcases List.mem_cons.1 hb with rfl | hb
      · rw [keyEq_symm (hok a (by simp [ha])) hk]; exact hoth a (by simp [ha])
      · exact hdis.2.2 a ha b (by simp [hb])

theorem MapRep.del {m : PM} {ks : Bool} {es : List (AV × AV)} {mes : List MapEntry} {d : TypeDesc} {key : AV} {A : Value} (h : MapRep m ks es mes) (hd : KeyD ks d) (hk : keyOk ks key = true) (hA : VRel m key A) :
    (Instr.findNow d A mes 0 = some none ∧ MapRep m ks (mapDel key es) mes) ∨
    (∃ MX e MY V, mes = MX ++ e :: MY ∧ Instr.findNow d A mes 0 = some (some (MX.length, V)) ∧ MapRep m ks (mapDel key es) (MX ++ MY)) := by
  have hf := h.find hd hk hA
  cases hfd : mapFind key es with
  | none =>
    rw [hfd] at hf
    exact .inl ⟨hf.1, by rw [mapDel_none hfd]; exact h⟩
  | some v =>
    rw [hfd] at hf
    obtain ⟨X, k, Y, LX, LY, e, MX, MY, h1, h2, g2, g3, g4, g5, hm, hpm, hfn, hsb, hoth⟩ := hf
    refine .inr ⟨MX, e, MY, e.val, hm, hfn, ?_⟩
    obtain ⟨L, hp, hM, hok, hdis⟩ := h
    have hXX : mapDel key es = X ++ Y := by
      have : ∀ (X : List (AV × AV)) (k v : AV) (Y : List (AV × AV)), (∀ p ∈ X, keyEq key p.1 = false) → keyEq key k = true → mapDel key (X ++ (k, v) :: Y) = X ++ Y := by
        intro X k v Y hX hk'
        induction X with
        | nil => simp [mapDel, hk']
        | cons p X ih => simp [mapDel, hX p (by simp), ih fun q hq => hX q (by simp [hq])]
      rw [h1]; exact this X k v Y (fun p hp' => hoth p (by simp [hp'])) h2
    rw [hXX]
    rw [h1] at hdis hok
    rw [List.pairwise_append] at hdis
    refine ⟨LX ++ LY, hpm, g2.join g3, fun p hp' => hok p (by simp at hp' ⊢; rcases hp' with h | h <;> simp [h]), ?_⟩
    rw [List.pairwise_append]
    exact ⟨hdis.1, (List.pairwise_cons.1 hdis.2.1).2, fun a ha b hb => hdis.2.2 a ha b (by simp [hb])⟩

theorem run_checkKey' {kt : TypeId} {d : TypeDesc} (hu : P.underlying kt = some d) (hd : KeyTy d) (b : Bool) (n : Nat) (v : Value) (w : World) : (Instr.checkKey b (n + 1) kt v).run P w = .ok () w := by
  rcases hd with ⟨k, rfl⟩ | rfl <;> simp [Instr.checkKey, run_underlying hu]

theorem run_findKey' {kt : TypeId} {d : TypeDesc} (hu : P.underlying kt = some d) {A : Value} {L : List MapEntry} {r : Option (Nat × Value)} (hf : Instr.findNow d A L 0 = some r) (w : World) :
    (Instr.findKey kt A L).run P w = .ok r w := by
  simp [Instr.findKey, run_underlying hu, hf]

theorem run_getObj_map {w : World} {r : Nat} {es : Array MapEntry} {c : Nat} (hb : w.heap[r]? = some (.map es c)) : (getObj r).run P w = .ok (.map es c) w := by
  simp [getObj, Sem.run, hb]

theorem run_setObj_map {w : World} {r : Nat} {es : Array MapEntry} {c : Nat} (O : Obj) (hb : w.heap[r]? = some (.map es c)) : (Go.setObj r O).run P w = .ok () (World.setObj w r O) := by
  simp [Go.setObj, Sem.run, hb, World.setObj]

theorem boolEq_iff {a b : Bool} : boolEq a b = true ↔ a = b := by cases a <;> cases b <;> simp [boolEq]

theorem lookup_sound {ks : Bool} {t kt e : TypeId} {d : TypeDesc} {mx kx : Operand} {ok : Bool} {m' k' : Opd} {z : AV} (ho : o.op = .lookup t mx kx ok) (hm : opd mx = some m') (hkx : opd kx = some k') (hu : P.underlying t = some (.map kt e))
    (hd : P.underlying kt = some d) (hks : KeyD ks d) (hz : zerosOf P e = some z) (hk : simple ρ h nx (.lookup ks z m' k' ok) K = true) : R P o ρ h nx K := by
  obtain ⟨Z, hZ, hzr⟩ := zerosOf_sound hz
  have hkt := hks.ty
  simp only [simple] at hk
  cases hko : keyOk ks (ev ρ k') with
  | false => rw [hko] at hk; exact bad_ne hk
  | true =>
  rw [hko] at hk; simp only [Bool.not_true, cond_false] at hk
  split at hk
  · rename_i hev
    refine R.pure hk fun m w a hf hr => ?_
    have g1 := opd_sound hm hf; rw [hev] at g1
    have g1 : a.eval mx = .map none := g1
    refine ⟨if ok then .tuple #[Z, .bool false] else Z, ?_, ?_⟩
    · simp [execOp, ho, Instr.lookup, run_underlying hu, g1, run_checkKey' hd hkt, run_findKey' hd (show Instr.findNow d (a.eval kx) [] 0 = some none from rfl), hZ]
    · cases ok
      · exact hzr m
      · exact ⟨[Z, .bool false], (LRel.nil.cons (show VRel m (.bool false) (.bool false) from rfl)).cons (hzr m), rfl⟩
  · rename_i id hev
    split at hk
    · rename_i ks' es hg
      cases hke : boolEq ks ks' with
      | false => rw [hke] at hk; exact bad_ne hk
      | true =>
      have := boolEq_iff.1 hke; subst this
      rw [hke] at hk; simp only [Bool.not_true, cond_false] at hk
      have fin : ∀ r : Option AV, mapFind (ev ρ k') es = r → K (match r with | some v => bif ok then .tup [v, .bool true] else v | none => bif ok then .tup [z, .bool false] else z) h nx = true → R P o ρ h nx K := by
        intro r hr hk
        refine R.pure hk fun m w a hf hrep => ?_
        have g1 := opd_sound hm hf; rw [hev] at g1
        have g2 := opd_sound hkx hf
        obtain ⟨s, k1, k2⟩ := g1
        obtain ⟨s', j1, j2, mes, clock, L, j3, j4, j5, j6, j7, j8⟩ := hrep.obj id _ hg
        rw [k1] at j1; cases j1
        have hM : MapRep m ks es mes.toList := ⟨L, j4, j5, j6, j7⟩
        have hfnd := hM.find hks hko g2
        rw [hr] at hfnd
        cases r with
        | none =>
          refine ⟨if ok then .tuple #[Z, .bool false] else Z, ?_, ?_⟩
          · simp [execOp, ho, Instr.lookup, run_underlying hu, k2, run_getObj_map j3, run_checkKey' hd hkt, run_findKey' hd hfnd.1, hZ]
          · cases ok
            · exact hzr m
            · exact ⟨[Z, .bool false], (LRel.nil.cons (show VRel m (.bool false) (.bool false) from rfl)).cons (hzr m), rfl⟩
        | some v =>
          obtain ⟨X, k, Y, LX, LY, e, MX, MY, _, _, _, _, _, k4, _, _, k3, _, _⟩ := hfnd
          refine ⟨if ok then .tuple #[e.val, .bool true] else e.val, ?_, ?_⟩
          · simp [execOp, ho, Instr.lookup, run_underlying hu, k2, run_getObj_map j3, run_checkKey' hd hkt, run_findKey' hd k3]
          · cases ok
            · exact k4
            · exact ⟨[e.val, .bool true], (LRel.nil.cons (show VRel m (.bool true) (.bool true) from rfl)).cons k4, rfl⟩
      split at hk
      · rename_i v hr
        exact fin (some v) hr hk
      · rename_i hr
        exact fin none hr hk
    · exact bad_ne hk
  · exact bad_ne hk

theorem s_lookup {t : TypeId} {mx kx : Operand} {ok : Bool} (ho : o.op = .lookup t mx kx ok) (hk : simple ρ h nx (conv P o) K = true) : R P o ρ h nx K := by
  simp only [conv, ho] at hk
  split at hk
  · rename_i m' k' kt e hm hkx hu
    split at hk
    · rename_i z hd hz
      exact lookup_sound (ks := false) ho hm hkx hu hd rfl hz hk
    · rename_i z hd hz
      exact lookup_sound (ks := true) ho hm hkx hu hd rfl hz hk
    · exact bad_ne hk
  · exact bad_ne hk

theorem mapSet_sound {ks : Bool} {t kt e : TypeId} {d : TypeDesc} {mx kx vx : Operand} {m' k' v' : Opd} (ho : o.op = .mapUpdate t mx kx vx ∨ o.op = .insert t mx kx vx) (hm : opd mx = some m') (hkx : opd kx = some k') (hvx : opd vx = some v')
    (hu : P.underlying t = some (.map kt e)) (hd : P.underlying kt = some d) (hks : KeyD ks d) (hk : simple ρ h nx (.mapSet ks m' k' v') K = true) : R P o ρ h nx K := by
  have hkt := hks.ty
  simp only [simple] at hk
  cases hko : keyOk ks (ev ρ k') with
  | false => rw [hko] at hk; exact bad_ne hk
  | true =>
  rw [hko] at hk; simp only [Bool.not_true, cond_false] at hk
  split at hk
  · rename_i id hev
    split at hk
    · rename_i ks' es hg
      cases hke : boolEq ks ks' with
      | false => rw [hke] at hk; exact bad_ne hk
      | true =>
      have := boolEq_iff.1 hke; subst this
      rw [hke] at hk; simp only [Bool.not_true, cond_false] at hk
      rw [putObjK_eq] at hk
      refine R.write hk fun m w a hf hrep => ?_
      have g1 := opd_sound hm hf; rw [hev] at g1
      have g2 := opd_sound hkx hf
      have g3 := opd_sound hvx hf
      obtain ⟨s, k1, k2⟩ := g1
      obtain ⟨s', j1, j2, mes, clock, L, j3, j4, j5, j6, j7, j8⟩ := hrep.obj id _ hg
      rw [k1] at j1; cases j1
      have hM : MapRep m ks es mes.toList := ⟨L, j4, j5, j6, j7⟩
      have key : ∃ mes' clock', (Instr.mapUpdate t (a.eval mx) (a.eval kx) (a.eval vx)).run P w = .ok () (World.setObj w s.blk (.map mes' clock')) ∧ MapKept.Stamped mes' clock' ∧ MapRep m ks (mapPut (ev ρ k') (ev ρ v') es) mes'.toList := by
        rcases hM.put hks hko g2 g3 with ⟨q1, qn, q2⟩ | ⟨MX, en, MY, V, q0, q1, q3, qk, q4⟩
        · refine ⟨mes.push ⟨a.eval kx, a.eval vx, clock⟩, clock + 1, ?_, MapKept.stamped_push j8 qn, by simpa using q2 clock⟩
          simp [Instr.mapUpdate, run_underlying hu, k2, run_getObj_map j3, run_checkKey' hd hkt, run_findKey' hd q1, run_setObj_map _ j3]
        · have hj : MX.length < mes.size := by
            have := congrArg List.length q0; simp at this; omega
          have hget : mes.toList[MX.length]? = some en := by rw [q0]; simp
          have hjv : mes[MX.length] = en := by
            rw [Array.getElem?_toList, Array.getElem?_eq_getElem hj] at hget; simpa using hget
          have hkey : ((mes[MX.length]?).map (·.key)).getD (a.eval kx) = en.key := by
            rw [Array.getElem?_eq_getElem hj, hjv]; rfl
          refine ⟨mes.modify MX.length fun e => { e with key := a.eval kx, val := a.eval vx }, clock, ?_, MapKept.stamped_modify j8 _ _ (fun _ _ => rfl) (fun e he hi => ?_), ?_⟩
          · simp [Instr.mapUpdate, run_underlying hu, k2, run_getObj_map j3, run_checkKey' hd hkt, run_findKey' hd q1, run_setObj_map _ j3, Instr.keyThatStays, hkey, q3]
          · rw [Array.getElem?_eq_getElem hj, hjv] at hi
            simp only [Option.some.injEq] at hi
            subst hi; exact qk.symm
          · have e1 : (mes.modify MX.length fun e => { e with key := a.eval kx, val := a.eval vx }).toList = MX ++ { en with key := a.eval kx, val := a.eval vx } :: MY := by
              have e2 : (mes.modify MX.length fun e => { e with key := a.eval kx, val := a.eval vx }).toList = mes.toList.set MX.length { en with key := a.eval kx, val := a.eval vx } := by
                apply List.ext_getElem?
                intro i
                rw [Array.getElem?_toList, Array.getElem?_modify, List.getElem?_set, Array.getElem?_toList]
                by_cases e : MX.length = i
                · subst e; simp [hj, hjv]
                · simp [e]
              rw [e2, q0]; simp
            rw [e1]; exact q4
      obtain ⟨mes', clock', r1, r6, L', r2, r3, r4, r5⟩ := key
      have hO : ORep m (World.setObj w s.blk (.map mes' clock')) s (.mp ks (mapPut (ev ρ k') (ev ρ v') es)) :=
        ⟨mes', clock', L', by simp [World.setObj, j2], r2, r3, r4, r5, r6⟩
      obtain ⟨b1, b2⟩ := hrep.setObj hg k1 hO
      refine ⟨_, .skip, ?_, rfl, b1, b2⟩
      rcases ho with ho | ho <;> simp [execOp, ho, r1]
    · exact bad_ne hk
  · exact bad_ne hk

theorem s_mapUpdate {t : TypeId} {mx kx vx : Operand} (ho : o.op = .mapUpdate t mx kx vx) (hk : simple ρ h nx (conv P o) K = true) : R P o ρ h nx K := by
  simp only [conv, ho] at hk
  split at hk
  · rename_i m' k' v' kt e hm hkx hvx hu
    split at hk
    · rename_i hd
      exact mapSet_sound (ks := false) (.inl ho) hm hkx hvx hu hd rfl hk
    · rename_i hd
      exact mapSet_sound (ks := true) (.inl ho) hm hkx hvx hu hd rfl hk
    · exact bad_ne hk
  · exact bad_ne hk

theorem s_insert {t : TypeId} {mx kx vx : Operand} (ho : o.op = .insert t mx kx vx) (hk : simple ρ h nx (conv P o) K = true) : R P o ρ h nx K := by
  simp only [conv, ho] at hk
  split at hk
  · rename_i m' k' v' kt e hm hkx hvx hu
    split at hk
    · rename_i hd
      exact mapSet_sound (ks := false) (.inr ho) hm hkx hvx hu hd rfl hk
    · rename_i hd
      exact mapSet_sound (ks := true) (.inr ho) hm hkx hvx hu hd rfl hk
    · exact bad_ne hk
  · exact bad_ne hk

end
end Go.Ev
