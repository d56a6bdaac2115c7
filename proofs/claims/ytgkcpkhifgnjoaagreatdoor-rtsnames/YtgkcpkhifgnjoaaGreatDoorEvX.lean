/- What three functions answer. -/
import Derived.Test.YtgkcpkhifgnjoaaGreatDoorEvO
namespace Go.Ev
def namesL : List AV := [.str 3 6579297, .str 4 1684957538, .str 3 7431523, .str 3 7497827, .str 3 7629923, .str 3 6713189, .str 2 29029, .str 5 491496043109, .str 4 1953069157, .str 2 25959, .str 4 1668572519, .str 2 29799, .str 2 25964, .str 2 29804, .str 3 7107949, .str 2 25966, .str 3 6582895, .str 4 1668576624, .str 4 1953461617, .str 3 7169394, .str 3 7628146, .str 3 7431539, .str 4 2003789939, .str 3 6452595]
def namesX : List AV → H → Pos → (AV → H → Pos → Bool) → Bool := fun args h nx k => match args with
  | [] => newK h nx (.grown 1 24 24 namesL .e) fun id h nx => k (.gsl id 1 0 24) h nx
  | _ => bad ""
/-- The constructors that a row of cells holds. -/
def con4 : List AV → Option (List (AV × AV))
  | [] => some []
  | .str a b :: .int .i64 c :: .str d e :: .int .i64 f :: l => match con4 l with
    | some r => some ((.str a b, .agg [.str a b, .int .i64 c, .str d e, .int .i64 f]) :: r)
    | none => none
  | _ => none
def putAll : List (AV × AV) → List (AV × AV) → List (AV × AV)
  | [], m => m
  | (k, v) :: l, m => putAll l (mapPut k v m)
def ofX : List AV → H → Pos → (AV → H → Pos → Bool) → Bool := fun args h nx k => match args with
  | [.agg (c :: _)] => match lenOf c with
    | some n => bif !Nat.blt n 1048576 then bad "" else cellsOfK h 4 n c fun l => match con4 l with
      | some cs => newK h nx (.mp true (putAll cs.reverse [])) fun id h nx => newK h nx (.cells 2 2 [.map id, .int .i64 0] .e) fun id h nx => k (.ptr id 0) h nx
      | none => bad ""
    | none => bad ""
  | _ => bad ""
def findB : Nat → Nat → Nat → Nat → Option Nat
  | 0, _, _, _ => none
  | n + 1, v, b, i => bif Nat.beq (Nat.mod v 256) b then some i else findB n (Nat.div v 256) b (Nat.succ i)
def idxX : List AV → H → Pos → (AV → H → Pos → Bool) → Bool := fun args h nx k => match args with
  | [.str n v, .int .u8 (.ofNat b)] => bif !Nat.blt b 256 then bad "" else match findB n v b 0 with
    | some i => k (.int .i64 (.ofNat i)) h nx
    | none => k (.int .i64 (.negSucc 0)) h nx
  | _ => bad ""
end Go.Ev
