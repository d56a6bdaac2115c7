/- A region that draws its order. -/
import Derived.Test.YtgkcpkhifgnjoaaGreatDoorEvT
namespace Go.Ev
open Go

theorem befs_eq : ∀ (l : List Oper) (bs : List Nat), ∃ t, befs l bs = bs ++ t ∧ t.length = l.length
  | [], bs => ⟨[], by simp [befs], rfl⟩
  | o :: l, bs => by
    obtain ⟨t, h1, h2⟩ := befs_eq l (bs ++ [afterMask bs o])
    exact ⟨afterMask bs o :: t, by rw [befs, h1]; simp, by simp [h2]⟩

theorem befs_get : ∀ (l : List Oper) (bs : List Nat) (j : Nat) (o : Oper), l[j]? = some o → (befs l bs)[bs.length + j]? = some (afterMask ((befs l bs).take (bs.length + j)) o)
  | [], _, _, _, h => by simp at h
  | o' :: l, bs, 0, o, h => by
    simp at h; subst h
    obtain ⟨t, h1, h2⟩ := befs_eq l (bs ++ [afterMask bs o'])
    rw [befs, h1]
    simp
  | o' :: l, bs, j + 1, o, h => by
    have := befs_get l (bs ++ [afterMask bs o']) j o (by simpa using h)
    have e : (bs ++ [afterMask bs o']).length + j = bs.length + (j + 1) := by simp; omega
    rw [e] at this
    exact this

theorem afterMask_spec {bs : List Nat} {o : Oper} {j : Nat} (h : Nat.testBit (afterMask bs o) j = true) : ∃ e ∈ o.after, Region.binds .any e = true ∧ (e.on = j ∨ Nat.testBit (bs.getD e.on 0) j = true) := by
  unfold afterMask at h
  have key : ∀ (l : List Edge) (m : Nat), Nat.testBit (l.foldl (fun m e => bif Region.binds .any e then m ||| (1 <<< e.on) ||| bs.getD e.on 0 else m) m) j = true →
      Nat.testBit m j = true ∨ ∃ e ∈ l, Region.binds .any e = true ∧ (e.on = j ∨ Nat.testBit (bs.getD e.on 0) j = true) := by
    intro l
    induction l with
    | nil => intro m h; exact .inl h
    | cons e l ih =>
      intro m h
      simp only [List.foldl_cons] at h
      rcases ih _ h with h | ⟨e', h1, h2⟩
      · cases hb : Region.binds .any e with
        | false => rw [hb] at h; exact .inl h
        | true =>
          rw [hb] at h
          simp only [cond_true, Nat.testBit_or, Bool.or_eq_true] at h
          rcases h with (h | h) | h
          · exact .inl h
          · refine .inr ⟨e, by simp, hb, .inl ?_⟩
            rw [Nat.testBit_shiftLeft] at h
            simp only [Bool.and_eq_true, decide_eq_true_eq] at h
            have h2 := h.2
            rw [Nat.testBit_one_eq_true_iff_self_eq_zero] at h2
            omega
          · exact .inr ⟨e, by simp, hb, .inr h⟩
      · exact .inr ⟨e', by simp [h1], h2⟩
  rcases key _ _ h with h | ⟨e, h1, h2⟩
  · simp at h
  · exact ⟨e, by simpa using h1, h2⟩

theorem convDs_get {P : Program} {nt : Nat} {ops : Array Oper} {bs : List Nat} {un : List (Nat × Nat)} : ∀ (os : List Oper) (i j : Nat) (o : Oper), os[j]? = some o → (convDs P nt ops bs un i os)[j]? = some (convDOp P nt ops bs un (i + j) o)
  | [], _, _, _, h => by simp at h
  | o' :: os, i, 0, o, h => by simp at h; subst h; simp [convDs]
  | o' :: os, i, j + 1, o, h => by
    have := convDs_get (P := P) (nt := nt) (ops := ops) (bs := bs) (un := un) os (i + 1) j o (by simpa using h)
    have e : i + 1 + j = i + (j + 1) := by omega
    rw [e] at this
    simpa [convDs] using this

theorem unordered_mem {bs : List Nat} {i j : Nat} (hj : j < i) (hi : i < bs.length) (h : Nat.testBit (bs.getD i 0) j = false) : (j, i) ∈ unordered bs := by
  unfold unordered
  refine List.mem_flatMap.2 ⟨i, List.mem_range.2 hi, List.mem_filterMap.2 ⟨j, List.mem_range.2 hj, ?_⟩⟩
  rw [h]; rfl

theorem okPairs_mem : ∀ {ps : List (Nat × Nat)} {rs : List Rec}, okPairs rs ps = true → ∀ p ∈ ps, ∃ a b, rs[p.1]? = some a ∧ rs[p.2]? = some b ∧ okPair a b = true
  | [], _, _, p, hp => by simp at hp
  | (i, j) :: l, rs, h, p, hp => by
    simp only [okPairs, Bool.and_eq_true] at h
    rcases List.mem_cons.1 hp with rfl | hp
    · have h1 := h.1
      split at h1
      · rename_i a b ha hb; exact ⟨a, b, ha, hb, h1⟩
      · cases h1
    · exact okPairs_mem h.2 p hp

theorem rdOk_e : ∀ (rd : List (Pos × (AObj → Bool))), rdOk .e .e rd = true
  | [] => rfl
  | (id, c) :: l => by simp [rdOk, rdOk_e l, isNone']
theorem disj_e' : ∀ (A : H), disj A .e = true
  | .e => rfl
  | .n (some _) _ _ => rfl
  | .n none _ _ => rfl
theorem okPair_idle_left (r : Rec) : okPair .idle r = true := by
  cases r with
  | foot m rd A C => simp [Rec.idle, okPair, rdOk, rdOk_e, disj]
  | ins id k v => simp [Rec.idle, okPair, isNone', noRd]
theorem okPair_idle_right (r : Rec) : okPair r .idle = true := by
  cases r with
  | foot m rd A C => simp [Rec.idle, okPair, rdOk, rdOk_e, disj_e']
  | ins id k v => simp [Rec.idle, okPair, isNone', noRd]

theorem edges_spec {ops : Array Oper} : ∀ (os : List Oper) (i : Nat), edgesOk ops i os = true → ∀ j o, os[j]? = some o → ∀ e ∈ o.after, Region.binds .any e = true → e.on < i + j
  | [], _, _, _, _, h => by simp at h
  | o' :: os, i, h, 0, o, ho => by
    simp at ho; subst ho
    simp only [edgesOk, Bool.and_eq_true] at h
    intro e he hb
    have := List.all_eq_true.1 h.1.1.1 e (by simpa using he)
    simp only [hb, Bool.not_true, Bool.false_or] at this
    exact Nat.le_of_ble_eq_true this
  | o' :: os, i, h, j + 1, o, ho => by
    simp only [edgesOk, Bool.and_eq_true] at h
    intro e he hb
    have := edges_spec os (i + 1) h.2 j o (by simpa using ho) e he hb
    omega

theorem RangeL.le : ∀ {l : List Stp} {a b : Pos}, RangeL a l b → a.toNat ≤ b.toNat
  | [], _, _, h => by have h : _ = _ := h; rw [h]; exact Nat.le_refl _
  | s :: l, a, b, ⟨h1, h2, h3⟩ => by have := RangeL.le h3; rw [← h1]; omega
theorem RangeL.get : ∀ {l : List Stp} {a b : Pos} {j : Nat} {s : Stp}, RangeL a l b → l[j]? = some s → a.toNat ≤ s.nx.toNat ∧ s.nx.toNat ≤ s.nx'.toNat ∧ s.nx'.toNat ≤ b.toNat
  | [], _, _, _, _, _, h => by simp at h
  | s' :: l, a, b, 0, s, ⟨h1, h2, h3⟩, h => by
    simp at h; subst h
    exact ⟨by rw [h1]; exact Nat.le_refl _, h2, RangeL.le h3⟩
  | s' :: l, a, b, j + 1, s, ⟨h1, h2, h3⟩, h => by
    have := RangeL.get h3 (j := j) (by simpa using h)
    rw [h1] at h2
    exact ⟨by omega, this.2⟩
theorem RangeL.two : ∀ {l : List Stp} {a b : Pos} {i j : Nat} {s t : Stp}, RangeL a l b → i < j → l[i]? = some s → l[j]? = some t → s.nx'.toNat ≤ t.nx.toNat
  | [], _, _, _, _, _, _, _, _, h, _ => by simp at h
  | s' :: l, a, b, 0, j + 1, s, t, ⟨h1, h2, h3⟩, _, hs, ht => by
    simp at hs; subst hs
    exact (RangeL.get h3 (j := j) (by simpa using ht)).1
  | s' :: l, a, b, i + 1, j + 1, s, t, ⟨h1, h2, h3⟩, hij, hs, ht => RangeL.two h3 (i := i) (j := j) (by omega) (by simpa using hs) (by simpa using ht)
  | _ :: _, _, _, _, 0, _, _, _, h, _, _ => by omega

theorem chainL_chain : ∀ {L : List Stp} {S : Nat → Stp} {i : Nat} (_ : ∀ j s, L[j]? = some s → S (i + j) = s) {f : F} {g : G} {f' : F} {g' : G}, ChainL L f g f' g' → Chain S (List.range' i L.length) f g f' g'
  | [], _, _, _, _, _, _, _, h => h
  | s :: L, S, i, hS, f, g, f', g', ⟨f1, g1, h1, h2⟩ => by
    rw [List.length_cons, List.range'_succ]
    refine ⟨f1, g1, ?_, chainL_chain (fun j t ht => ?_) h2⟩
    · have := hS 0 s rfl; simp at this; rw [this]; exact h1
    · have := hS (j + 1) t (by simpa using ht)
      rw [← this]; congr 1; omega

instance : Inhabited Stp := ⟨⟨[], fun _ => undefA, none, undefA, .one, .one, .idle⟩⟩

theorem regD_sound {P : Program} {call : CallK} (hcall : CallSound P call) (hP : P.follows .mixedOrders = true) {nt : Nat} {ops : Array Oper} {l : List DOp} {ps : List (Nat × Nat)} (hcv : convD P nt ops = some (l, ps)) {ρ : Fr} {h : H} {nx : Pos} {kn : KN}
    (hk : (evD call l 0 ρ h nx [] fun ρ h nx rs => bif okPairs rs.reverse ps then kn ρ h nx else bad "order") = true) :
    ∃ ρ' h' nx', kn ρ' h' nx' = true ∧ nx.toNat ≤ nx'.toNat ∧ ∀ m w a, RepG m h.get w → FRel m ρ a → nt ≤ a.tmps.size → Free m nx nx' → ∀ (id : Nat) (Q : Exit → Act → World → Prop),
      (∀ m' w' a', FRel m' ρ' a' → a'.tmps.size = a.tmps.size → a'.defers = a.defers → DoneG m h.get nx w m' h'.get nx' w' → Q .normal a' w') → (Code.region id ops true).wp P Q a w := by
  unfold convD at hcv
  dsimp only at hcv
  generalize hbs : befs ops.toList [] = bs at hcv
  generalize hun : unordered bs = un at hcv
  rw [Bool.cond_eq_ite] at hcv
  split at hcv
  · rename_i hcond
    simp only [Bool.and_eq_true] at hcond
    obtain ⟨hap, hed⟩ := hcond
    simp only [Option.some.injEq, Prod.mk.injEq] at hcv
    obtain ⟨rfl, rfl⟩ := hcv
    obtain ⟨L, ρ', h', nx', e1, e2, e3, e4, e5⟩ := evD_sound hcall ops.toList 0 (fun j => by simp) hed ρ h nx [] _ hk
    simp only [List.append_nil, List.reverse_reverse] at e2
    rw [Bool.cond_eq_ite] at e2
    split at e2
    case isFalse => exact bad_ne e2
    case isTrue hok =>
    have hlen : L.length = ops.size := by rw [e1]; simp
    refine ⟨ρ', h', nx', e2, RangeL.le e4, fun m w a hrep hf hnt hfree id Q hQ => ?_⟩
    have hget : ∀ i, i < ops.size → L[i]? = some (L.getD i default) := fun i hi => by
      rw [List.getD_eq_getElem?_getD, List.getElem?_eq_getElem (by omega)]; rfl
    have hopsL : ∀ i o, ops[i]? = some o → ops.toList[i]? = some o := fun i o ho => by rw [Array.getElem?_toList]; exact ho
    have hbslen : bs.length = ops.size := by
      obtain ⟨t, h1, h2⟩ := befs_eq ops.toList []
      rw [← hbs, h1]; simp [h2]
    refine wp_region_any hP ?_
    refine wpAny_chain (S := fun i => L.getD i default) (nt := nt) (lo := nx) (top := nx') (W := fun i j => Nat.testBit (bs.getD i 0) j = true)
      ?_ ?_ ?_ ?_ ?_ ?_ (f' := frF ρ') (g' := h'.get) ops.size (List.range' 0 L.length) _ (frF ρ) h.get m { w with drawn := w.drawn + 1 } a (by simp [hlen]) (by simp) (List.pairwise_lt_range') ?_ ?_ ?_ (chainL_chain (fun j s hs => ?_) e3) (frel_iff.1 hf) hnt ⟨hrep.obj, hrep.inj⟩ ?_ (RangeL.le e4) ?_
    · intro i hi
      have := (e5 i _ (hget i hi)).1
      simpa using this
    · intro i hi
      exact RangeL.get e4 (hget i hi)
    · intro i j hij hj
      exact RangeL.two e4 hij (hget i (by omega)) (hget j hj)
    · intro i o ho e he hb
      have := edges_spec ops.toList 0 hed i o (hopsL i o ho) e he hb
      simpa using this
    · intro i j o ho hw
      have hi : i < ops.size := (Array.getElem?_eq_some_iff.1 ho).1
      have h1 := befs_get ops.toList [] i o (hopsL i o ho)
      rw [hbs] at h1
      simp only [List.length_nil, Nat.zero_add] at h1
      simp only [List.getD_eq_getElem?_getD, h1, Option.getD_some] at hw
      obtain ⟨e, h2, h3, h4⟩ := afterMask_spec hw
      refine ⟨e, h2, h3, h4.imp (fun x => x) fun h4 => ?_⟩
      have hlt := edges_spec ops.toList 0 hed i o (hopsL i o ho) e h2 h3
      simp only [List.getD_eq_getElem?_getD] at h4 ⊢
      rw [List.getElem?_take, if_pos (by omega)] at h4
      exact h4
    · intro j i hji hi hnw f g f1 g1 f2 g2 ha hb
      have hnw : Nat.testBit (bs.getD i 0) j = false := by simpa using hnw
      have hmem : (j, i) ∈ un := by rw [← hun]; exact unordered_mem hji (by omega) hnw
      have hj : j < ops.size := by omega
      obtain ⟨_, oj, hoj, hn1, hd1, hp1⟩ := e5 j _ (hget j hj)
      obtain ⟨_, oi, hoi, hn2, hd2, hp2⟩ := e5 i _ (hget i hi)
      have hoj' : ops[j]? = some oj := by simpa using hoj
      have hoi' : ops[i]? = some oi := by simpa using hoi
      have hap' := List.all_eq_true.1 hap (j, i) hmem
      simp only [hoj', hoi'] at hap'
      obtain ⟨a1, a2, a3⟩ := Oper.apart_spec hap'
      simp only [Nat.zero_add] at hp1 hp2
      have hpair : okPair (L.getD j default).r (L.getD i default).r = true := by
        by_cases h1 : clsOf P ops un j oj = .pure
        · rw [hp1 h1]; exact okPair_idle_left _
        · by_cases h2 : clsOf P ops un i oi = .pure
          · rw [hp2 h2]; exact okPair_idle_right _
          · have np : ∀ c : Cls, c ≠ .pure → isPureC c = false := by intro c hc; cases c <;> first | rfl | exact absurd rfl hc
            obtain ⟨x, y, x1, y1, hxy⟩ := okPairs_mem hok (j, i) (List.mem_filter.2 ⟨hmem, by
              simp only [convDs_get ops.toList 0 j oj hoj, convDs_get ops.toList 0 i oi hoi, convDOp, Nat.zero_add, np _ h1, np _ h2]; rfl⟩)
            simp only [List.getElem?_map, hget j hj, hget i hi, Option.map_some, Option.some.injEq] at x1 y1
            rw [x1, y1]; exact hxy
      exact Stp.comm hpair (fun d hd => by rw [hn2]; exact a1 d (by rw [← hd1]; exact hd)) (fun d hd => by rw [hd2]; exact a2 d (by rw [← hd1]; exact hd)) (fun d hd => by rw [hn1]; exact a3 d (by rw [← hd2]; exact hd)) ha hb
    · intro i hi
      have := List.mem_range'.1 hi
      omega
    · intro i hi
      have e : (Array.replicate ops.size false).getD i true = false := by simp [Array.getD_eq_getD_getElem?, hi]
      simp only [e, true_iff]
      exact List.mem_range'.2 ⟨i, by omega, by omega⟩
    · intro i o ho hn
      exfalso; apply hn
      have hi : i < ops.size := (Array.getElem?_eq_some_iff.1 ho).1
      exact List.mem_range'.2 ⟨i, by omega, by omega⟩
    · have hj : j < ops.size := by have := (List.getElem?_eq_some_iff.1 hs).1; omega
      have := hget j hj
      rw [hs] at this
      simp only [Option.some.injEq] at this
      simp only [Nat.zero_add]; exact this.symm
    · intro i hi id' hid1 hid2
      have hi' : i < ops.size := by
        have := List.mem_range'.1 hi
        omega
      have := RangeL.get e4 (hget i hi')
      exact hfree id' (by omega) (by omega)
    · intro m' w' a' q1 q2 q3 q4
      exact hQ m' w' a' (frel_iff.2 q1) q2 q3 ⟨q4.rep, ⟨q4.ext.le, q4.ext.size, q4.ext.keep, q4.ext.dom, q4.ext.tape, q4.ext.os, q4.ext.out⟩, q4.only⟩
  · cases hcv
end Go.Ev
