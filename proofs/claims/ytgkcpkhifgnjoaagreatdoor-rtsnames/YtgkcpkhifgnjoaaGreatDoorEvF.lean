/- Strings, numbers, comparisons. -/
import Derived.Test.YtgkcpkhifgnjoaaGreatDoorEvE
import Derived.Laws.StructEq
namespace Go.Ev
open Go

theorem blt_lt {a b : Nat} (h : Nat.blt a b = true) : a < b := Nat.le_of_ble_eq_true h

theorem wrap_small {n : Int} (h1 : -9223372036854775808 ≤ n) (h2 : n < 9223372036854775808) : IntKind.i64.wrap n = n := by
  unfold IntKind.wrap
  simp only [IntKind.bits, IntKind.signed]
  simp
  split <;> omega

theorem wrapF_i64_nat (a : Nat) (hb : Nat.blt a 9223372036854775808 = true) : IntKind.i64.wrap (.ofNat a) = .ofNat a := by
  have h := blt_lt hb
  exact wrap_small (by show _ ≤ (a : Int); omega) (Int.ofNat_lt.2 h)

theorem wrapF_i64_neg (a : Nat) (hb : Nat.blt a 9223372036854775808 = true) : IntKind.i64.wrap (.negSucc a) = .negSucc a := by
  have h := blt_lt hb
  have h' : (a : Int) < 9223372036854775808 := Int.ofNat_lt.2 h
  have h0 : 0 ≤ (a : Int) := Int.natCast_nonneg a
  have e := Int.negSucc_eq a
  generalize Int.negSucc a = y at *
  exact wrap_small (by omega) (by omega)

theorem wrapF_eq (k : IntKind) (n : Int) : wrapF k n = k.wrap n := by
  cases k <;> try (cases n <;> rfl)
  cases n with
  | ofNat a =>
    show (bif Nat.blt a 9223372036854775808 then Int.ofNat a else IntKind.i64.wrap (.ofNat a)) = _
    cases hb : Nat.blt a 9223372036854775808 with
    | false => rfl
    | true => exact (wrapF_i64_nat a hb).symm
  | negSucc a =>
    show (bif Nat.blt a 9223372036854775808 then Int.negSucc a else IntKind.i64.wrap (.negSucc a)) = _
    cases hb : Nat.blt a 9223372036854775808 with
    | false => rw [cond_false]
    | true => exact (wrapF_i64_neg a hb).symm

theorem intLt_eq (a b : Int) : intLt a b = decide (a < b) := by
  cases a <;> cases b <;> rw [Bool.eq_iff_iff] <;> simp only [intLt, decide_eq_true_eq]
  · rename_i a b; constructor
    · intro h; have : a < b := Nat.le_of_ble_eq_true h
      simp; omega
    · intro h; exact Nat.ble_eq_true_of_le (by simp at h; omega)
  · rename_i a b; simp; omega
  · rename_i a b; simp; omega
  · rename_i a b; constructor
    · intro h; have : b < a := Nat.le_of_ble_eq_true h
      omega
    · intro h; exact Nat.ble_eq_true_of_le (by omega)

theorem intEq_eq (a b : Int) : intEq a b = decide (a = b) := by
  cases a <;> cases b <;> rw [Bool.eq_iff_iff] <;> simp only [intEq, decide_eq_true_eq]
  · rename_i a b; constructor
    · intro h; rw [Nat.eq_of_beq_eq_true h]
    · intro h; cases h; exact Nat.beq_refl a
  · simp
  · simp
  · rename_i a b; constructor
    · intro h; rw [Nat.eq_of_beq_eq_true h]
    · intro h; cases h; exact Nat.beq_refl a

/-! ### strings -/
theorem bytesOf_mod : ∀ n v : Nat, bytesOf n (v % 256 ^ n) = bytesOf n v
  | 0, _ => rfl
  | n + 1, v => by
    rw [bytesOf, bytesOf, Nat.pow_succ, Nat.mul_comm, Nat.mod_mul]
    have e1 : (v % 256 + 256 * (v / 256 % 256 ^ n)) % 256 = v % 256 := by omega
    have e2 : (v % 256 + 256 * (v / 256 % 256 ^ n)) / 256 = v / 256 % 256 ^ n := by omega
    rw [e1, e2, bytesOf_mod n]

theorem bytesOf_inj : ∀ {n v u : Nat}, bytesOf n v = bytesOf n u → v % 256 ^ n = u % 256 ^ n
  | 0, v, u, _ => by simp [Nat.mod_one]
  | n + 1, v, u, h => by
    simp only [bytesOf, List.cons.injEq] at h
    have h1 := bytesOf_inj h.2
    have h2 : v % 256 = u % 256 := by
      have := congrArg UInt8.toNat h.1
      simpa using this
    rw [Nat.pow_succ, Nat.mul_comm, Nat.mod_mul, Nat.mod_mul, h1, h2]

theorem strEq_eq (n v m u : Nat) : strEq n v m u = decide (bytesOf n v = bytesOf m u) := by
  unfold strEq
  cases hb : Nat.beq n m with
  | false =>
    simp only [cond_false]
    symm; rw [decide_eq_false_iff_not]
    intro h
    have := congrArg List.length h
    rw [bytesOf_length, bytesOf_length] at this
    rw [this, Nat.beq_refl] at hb; cases hb
  | true =>
    have := Nat.eq_of_beq_eq_true hb
    subst this
    simp only [cond_true]
    rw [Bool.eq_iff_iff, decide_eq_true_eq]
    constructor
    · intro h
      have h : v % 256 ^ n = u % 256 ^ n := Nat.eq_of_beq_eq_true h
      rw [← bytesOf_mod n v, ← bytesOf_mod n u, h]
    · intro h
      have := bytesOf_inj h
      exact by show Nat.beq (v % 256 ^ n) (u % 256 ^ n) = true
               rw [this, Nat.beq_refl]

theorem strLess_eq : ∀ n v m u : Nat, strLess n v m u = Op.bytesLess (bytesOf n v) (bytesOf m u)
  | 0, _, 0, _ => rfl
  | n + 1, _, 0, _ => rfl
  | 0, _, m + 1, _ => rfl
  | n + 1, v, m + 1, u => by
    have ih := strLess_eq n (v / 256) m (u / 256)
    have h1 : v % 256 < 256 := Nat.mod_lt _ (by decide)
    have h2 : u % 256 < 256 := Nat.mod_lt _ (by decide)
    have hlt : (UInt8.ofNat (v % 256) < UInt8.ofNat (u % 256)) ↔ v % 256 < u % 256 := by
      rw [UInt8.lt_iff_toNat_lt]; simp
    have heq : (UInt8.ofNat (v % 256) = UInt8.ofNat (u % 256)) ↔ v % 256 = u % 256 := by
      rw [← UInt8.toNat_inj]; simp
    rw [strLess, bytesOf, bytesOf, Op.bytesLess]
    show (bif Nat.blt (v % 256) (u % 256) then true else bif Nat.beq (v % 256) (u % 256) then strLess n (v / 256) m (u / 256) else false) = _
    rw [ih]
    by_cases c1 : v % 256 < u % 256
    · have : Nat.blt (v % 256) (u % 256) = true := Nat.ble_eq_true_of_le c1
      rw [this, cond_true]
      simp [hlt.2 c1]
    · have : Nat.blt (v % 256) (u % 256) = false := by
        rw [← Bool.not_eq_true]; intro e; exact c1 (Nat.le_of_ble_eq_true e)
      rw [this, cond_false]
      have c1' : ¬ (UInt8.ofNat (v % 256) < UInt8.ofNat (u % 256)) := fun e => c1 (hlt.1 e)
      by_cases c2 : v % 256 = u % 256
      · have : Nat.beq (v % 256) (u % 256) = true := by rw [c2, Nat.beq_refl]
        rw [this, cond_true]
        simp [c2]
      · have : Nat.beq (v % 256) (u % 256) = false := by
          rw [← Bool.not_eq_true]; intro e; exact c2 (Nat.eq_of_beq_eq_true e)
        rw [this, cond_false]
        have c2' : (UInt8.ofNat (v % 256) == UInt8.ofNat (u % 256)) = false := by
          rw [beq_eq_false_iff_ne]; exact fun e => c2 (heq.1 e)
        simp [c1', c2']

theorem bytesOf_append : ∀ n v m u : Nat, bytesOf (n + m) (v % 256 ^ n + u * 256 ^ n) = bytesOf n v ++ bytesOf m u
  | 0, v, m, u => by simp [bytesOf, Nat.mod_one]
  | n + 1, v, m, u => by
    have ih := bytesOf_append n (v / 256) m u
    rw [show n + 1 + m = (n + m) + 1 by omega, bytesOf, bytesOf, List.cons_append, ← ih]
    rw [Nat.pow_succ, Nat.mul_comm (256 ^ n) 256, Nat.mod_mul]
    have e0 : u * (256 * 256 ^ n) = 256 * (u * 256 ^ n) := by rw [← Nat.mul_assoc, Nat.mul_comm u 256, Nat.mul_assoc]
    rw [e0]
    have e1 : (v % 256 + 256 * (v / 256 % 256 ^ n) + 256 * (u * 256 ^ n)) % 256 = v % 256 := by omega
    have e2 : (v % 256 + 256 * (v / 256 % 256 ^ n) + 256 * (u * 256 ^ n)) / 256 = v / 256 % 256 ^ n + u * 256 ^ n := by omega
    rw [e1, e2]

theorem bytesOf_drop : ∀ k n v : Nat, k ≤ n → (bytesOf n v).drop k = bytesOf (n - k) (v / 256 ^ k)
  | 0, n, v, _ => by simp
  | k + 1, 0, v, h => by omega
  | k + 1, n + 1, v, h => by
    rw [bytesOf, List.drop_succ_cons, bytesOf_drop k n (v / 256) (by omega), Nat.div_div_eq_div_mul, Nat.pow_succ, Nat.mul_comm 256]
    congr 1; omega

theorem bytesOf_take : ∀ k n v : Nat, k ≤ n → (bytesOf n v).take k = bytesOf k v
  | 0, n, v, _ => by simp [bytesOf]
  | k + 1, 0, v, h => by omega
  | k + 1, n + 1, v, h => by
    rw [bytesOf, bytesOf, List.take_succ_cons, bytesOf_take k n (v / 256) (by omega)]

theorem bytesOf_get (n v i : Nat) (h : i < n) : (bytesOf n v)[i]? = some (UInt8.ofNat (byteAt v i)) := by
  have : (bytesOf n v)[i]? = ((bytesOf n v).drop i)[0]? := by rw [List.getElem?_drop]; simp
  rw [this, bytesOf_drop i n v (by omega)]
  obtain ⟨d, hd⟩ : ∃ d, n - i = d + 1 := ⟨n - i - 1, by omega⟩
  rw [hd, bytesOf]; rfl

theorem strOf_toList (n v : Nat) : (strOf n v).toList = bytesOf n v := by
  rw [ByteArray.toList_eq]; simp [strOf]

theorem strOf_append (n v m u : Nat) : strOf (n + m) (v % 256 ^ n + u * 256 ^ n) = strOf n v ++ strOf m u := by
  apply ByteArray.ext
  rw [ByteArray.data_append]
  simp [strOf, bytesOf_append]

theorem strOf_extract (n v lo hi : Nat) (h1 : lo ≤ hi) (h2 : hi ≤ n) : (strOf n v).extract lo hi = strOf (hi - lo) (v / 256 ^ lo) := by
  apply ByteArray.ext
  rw [ByteArray.data_extract]
  simp only [strOf, List.extract_toArray]
  congr 1
  rw [List.extract_eq_take_drop, bytesOf_drop lo n v (by omega), bytesOf_take _ _ _ (by omega)]

section
variable {P : Program} {o : Oper} {ρ : Fr} {h : H} {nx : Pos} {K : AV → H → Pos → Bool}

theorem VRel.int_inv {m : PM} {k : IntKind} {n : Int} {V : Value} (h : VRel m (.int k n) V) : V = .int k n := h
theorem VRel.str_inv {m : PM} {n v : Nat} {V : Value} (h : VRel m (.str n v) V) : V = .string (strOf n v) := h

theorem eqGuard_int {op : BinOp} {t : TypeId} {x y : Operand} {k k' : IntKind} {a b : Int} (w : World) : (eqGuard op t x y (.int k a) (.int k' b)).run P w = .ok () w := by
  cases op <;> simp [eqGuard]
theorem eqGuard_str {op : BinOp} {t : TypeId} {x y : Operand} {a b : ByteArray} (w : World) : (eqGuard op t x y (.string a) (.string b)).run P w = .ok () w := by
  cases op <;> simp [eqGuard]

theorem binI_sound {op : BinOp} {k : IntKind} {a b : Int} {K : AV → Bool} (t : TypeId) (hk : binI op k a b K = true) :
    ∃ v V, K v = true ∧ (∀ m, VRel m v V) ∧ ∀ w, (binOp op t (.int k a) (.int k b)).run P w = .ok V w := by
  unfold binI at hk
  split at hk
  · rw [fI_eq, wrapF_eq] at hk; exact ⟨_, _, hk, fun _ => rfl, fun w => by simp [binOp, Op.intArith] <;> rfl⟩
  · rw [fI_eq, wrapF_eq] at hk; exact ⟨_, _, hk, fun _ => rfl, fun w => by simp [binOp, Op.intArith] <;> rfl⟩
  · rw [fI_eq, wrapF_eq] at hk; exact ⟨_, _, hk, fun _ => rfl, fun w => by simp [binOp, Op.intArith] <;> rfl⟩
  · rw [intEq_eq] at hk
    by_cases hb : b = 0
    · simp [hb] at hk; exact bad_ne hk
    · simp [hb] at hk; rw [fI_eq] at hk; exact ⟨_, _, hk, fun _ => rfl, fun w => by simp [binOp, Op.intDiv, hb]⟩
  · rw [intEq_eq] at hk
    by_cases hb : b = 0
    · simp [hb] at hk; exact bad_ne hk
    · simp [hb] at hk; rw [fI_eq] at hk; exact ⟨_, _, hk, fun _ => rfl, fun w => by simp [binOp, Op.intDiv, hb]⟩
  · rw [fI_eq] at hk; exact ⟨_, _, hk, fun _ => rfl, fun w => by simp [binOp, Op.intBits]⟩
  · rw [fI_eq] at hk; exact ⟨_, _, hk, fun _ => rfl, fun w => by simp [binOp, Op.intBits]⟩
  · rw [intEq_eq] at hk; exact ⟨_, _, hk, fun _ => rfl, fun w => by by_cases e : a = b <;> simp [binOp, Op.intCmp, e]⟩
  · rw [intEq_eq] at hk; exact ⟨_, _, hk, fun _ => rfl, fun w => by by_cases e : a = b <;> simp [binOp, Op.intCmp, e]⟩
  · rw [intLt_eq] at hk; exact ⟨_, _, hk, fun _ => rfl, fun w => by simp [binOp, Op.intCmp]⟩
  · rw [intLt_eq] at hk; exact ⟨_, _, hk, fun _ => rfl, fun w => by simp [binOp, Op.intCmp]; by_cases e : b < a <;> simp [e] <;> try omega⟩
  · rw [intLt_eq] at hk; exact ⟨_, _, hk, fun _ => rfl, fun w => by simp [binOp, Op.intCmp]⟩
  · rw [intLt_eq] at hk; exact ⟨_, _, hk, fun _ => rfl, fun w => by simp [binOp, Op.intCmp]; by_cases e : a < b <;> simp [e] <;> try omega⟩
  · exact bad_ne hk

theorem shiftI_sound {op : BinOp} {k k' : IntKind} {a b : Int} {K : AV → Bool} (t : TypeId) (hop : op = .shl ∨ op = .shr) (hk : shiftI op k a b K = true) :
    ∃ v V, K v = true ∧ (∀ m, VRel m v V) ∧ ∀ w, (binOp op t (.int k a) (.int k' b)).run P w = .ok V w := by
  unfold shiftI at hk
  rw [intLt_eq] at hk
  by_cases hb : b < 0
  · simp [hb] at hk; exact bad_ne hk
  · simp [hb] at hk
    rcases hop with e | e <;> subst e <;> simp only [] at hk <;> rw [fI_eq] at hk
    · exact ⟨_, _, hk, fun _ => rfl, fun w => by simp [binOp, Op.shift, hb]⟩
    · exact ⟨_, _, hk, fun _ => rfl, fun w => by simp [binOp, Op.shift, hb]⟩

theorem binS_sound {op : BinOp} {n1 v1 n2 v2 : Nat} {K : AV → Bool} (t : TypeId) (hk : binS op n1 v1 n2 v2 K = true) :
    ∃ v V, K v = true ∧ (∀ m, VRel m v V) ∧ ∀ w, (binOp op t (.string (strOf n1 v1)) (.string (strOf n2 v2))).run P w = .ok V w := by
  unfold binS at hk
  have he : ((bytesOf n1 v1 == bytesOf n2 v2) : Bool) = strEq n1 v1 n2 v2 := by rw [strEq_eq, Bool.eq_iff_iff]; simp
  have hl : Op.bytesLess (bytesOf n1 v1) (bytesOf n2 v2) = strLess n1 v1 n2 v2 := (strLess_eq _ _ _ _).symm
  split at hk
  · cases hb : Nat.blt (Nat.add n1 n2) 9223372036854775808 with
    | false => rw [hb] at hk; exact bad_ne hk
    | true =>
      rw [hb] at hk
      simp only [cond_true, fN_eq] at hk
      have hb : n1 + n2 < 9223372036854775808 := Nat.le_of_ble_eq_true hb
      refine ⟨_, .string (strOf n1 v1 ++ strOf n2 v2), hk, fun m => ?_, fun w => ?_⟩
      · show Value.string (strOf n1 v1 ++ strOf n2 v2) = Value.string (strOf (n1 + n2) (v1 % 256 ^ n1 + v2 * 256 ^ n1))
        rw [strOf_append]
      · have : ¬ (((n1 + n2 : Nat) : Int) > IntKind.i64.max) := by
          simp [IntKind.max, IntKind.signed, IntKind.bits]; omega
        simp only [binOp, Op.stringOp, strOf_size]
        rw [if_neg this]; rfl
  all_goals first
    | exact bad_ne hk
    | exact ⟨_, _, hk, fun _ => rfl, fun w => by simp [binOp, Op.stringOp, strOf_toList, he, hl]⟩

end
end Go.Ev
