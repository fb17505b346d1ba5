/- What the functions come to, printed by a program of the prover's own. -/
import Derived.Test.YtfcldjomdbepjaaFwZg
set_option linter.all false
namespace Go.Proofs
open Go Fw
set_option maxRecDepth 100000
noncomputable def R.L_spec_l11Take_0 (K : Nat) : Nat → ((List UInt8) × ((Int) × ((Int) × ((Int) × ((Bool) × ((Int) × ((Int) × ((Int) × Unit)))))))) → Option (((Int) × ((Int) × ((Bool) × Unit))) ⊕ ((Int) × ((Int) × ((Bool) × Unit))))
  | 0, _ => none
  | n + 1, (q0, (q1, (q2, (q3, (q4, (q5, (q6, (q7, ())))))))) =>
    bif Decidable.decide (q7 < (↑(List.length q0) : Int)) then
     bif Decidable.decide (q7 < Go.IntKind.wrap Go.IntKind.i64 (q1 + 4)) then
      bif Decidable.decide (0 ≤ q7) && Decidable.decide (q7 < (↑(List.length q0) : Int)) then
       bif Decidable.decide (Go.IntKind.wrap Go.IntKind.i64 (↑(UInt8.toNat (List.getD q0 (Int.toNat q7) 0)) : Int) < 128) then
        bif Decidable.decide (Go.IntKind.wrap Go.IntKind.i64 (q5 + Go.IntKind.wrap Go.IntKind.i64 (Int.tmod (Go.IntKind.wrap Go.IntKind.i64 (↑(UInt8.toNat (List.getD q0 (Int.toNat q7) 0)) : Int)) 128 * q6)) ≤ 4000000) then
         bif Decidable.decide (Go.IntKind.wrap Go.IntKind.i64 (↑(UInt8.toNat (List.getD q0 (Int.toNat q7) 0)) : Int) > 0) then
          some (Sum.inr (Go.IntKind.wrap Go.IntKind.i64 (q5 + Go.IntKind.wrap Go.IntKind.i64 (Int.tmod (Go.IntKind.wrap Go.IntKind.i64 (↑(UInt8.toNat (List.getD q0 (Int.toNat q7) 0)) : Int)) 128 * q6)), Go.IntKind.wrap Go.IntKind.i64 (q7 + 1), Bool.true, ()))
         else
          some (Sum.inr (Go.IntKind.wrap Go.IntKind.i64 (q5 + Go.IntKind.wrap Go.IntKind.i64 (Int.tmod (Go.IntKind.wrap Go.IntKind.i64 (↑(UInt8.toNat (List.getD q0 (Int.toNat q7) 0)) : Int)) 128 * q6)), Go.IntKind.wrap Go.IntKind.i64 (q7 + 1), q7 == q1, ()))
        else
         some (Sum.inr (Go.IntKind.wrap Go.IntKind.i64 (q5 + Go.IntKind.wrap Go.IntKind.i64 (Int.tmod (Go.IntKind.wrap Go.IntKind.i64 (↑(UInt8.toNat (List.getD q0 (Int.toNat q7) 0)) : Int)) 128 * q6)), Go.IntKind.wrap Go.IntKind.i64 (q7 + 1), Bool.false, ()))
       else
        R.L_spec_l11Take_0 K n (q0, q1, q2, q3, q4, Go.IntKind.wrap Go.IntKind.i64 (q5 + Go.IntKind.wrap Go.IntKind.i64 (Int.tmod (Go.IntKind.wrap Go.IntKind.i64 (↑(UInt8.toNat (List.getD q0 (Int.toNat q7) 0)) : Int)) 128 * q6)), Go.IntKind.wrap Go.IntKind.i64 (q6 * 128), Go.IntKind.wrap Go.IntKind.i64 (q7 + 1), ())
      else
       none
     else
      some (Sum.inl (q2, q3, q4, ()))
    else
     some (Sum.inl (q2, q3, q4, ()))

noncomputable def R.spec_l11Take (K : Nat) (p0 : List UInt8) (p1 : Int) : Option (((Int) × ((Int) × ((Bool) × Unit))) × Unit) :=
  obind (R.L_spec_l11Take_0 K K (p0, p1, 0, 0, Bool.false, 0, 1, p1, ())) fun v2 =>
   (match v2 with
   | .inl v3 =>
    some (((0, 0, Bool.false, ()), ()))
   | .inr v3 =>
    some (((Prod.fst v3, Prod.fst (Prod.snd v3), Prod.fst (Prod.snd (Prod.snd v3)), ()), ()))
   )

noncomputable def R.spec_l11Reader_number (K : Nat) (p0 : (List UInt8) × ((Int) × (Bool))) : Option (((Int) × Unit) × (((List UInt8) × ((Int) × (Bool))) × Unit)) :=
  obind (R.spec_l11Take K (Prod.fst p0) (Prod.fst (Prod.snd p0))) fun v2 =>
   bif Prod.snd (Prod.snd p0) then
    some (((0, ()), (Prod.fst p0, Prod.fst (Prod.snd p0), Bool.true), ()))
   else
    bif !Prod.fst (Prod.snd (Prod.snd (Prod.fst v2))) then
     some (((0, ()), (Prod.fst p0, Prod.fst (Prod.snd p0), Bool.true), ()))
    else
     some (((Prod.fst (Prod.fst v2), ()), (Prod.fst p0, Prod.fst (Prod.snd (Prod.fst v2)), Prod.snd (Prod.snd p0)), ()))

noncomputable def R.spec_l11Reader_count (K : Nat) (p0 : (List UInt8) × ((Int) × (Bool))) (p1 : Int) : Option (((Int) × Unit) × (((List UInt8) × ((Int) × (Bool))) × Unit)) :=
  obind (R.spec_l11Reader_number K p0) fun v2 =>
   bif Decidable.decide (Prod.fst (Prod.fst v2) > p1) then
    some (((0, ()), (Prod.fst (Prod.fst (Prod.snd v2)), Prod.fst (Prod.snd (Prod.fst (Prod.snd v2))), Bool.true), ()))
   else
    some (((Prod.fst (Prod.fst v2), ()), Prod.fst (Prod.snd v2), ()))

noncomputable def R.spec_l11Reader_word (K : Nat) (p0 : (List UInt8) × ((Int) × (Bool))) : Option (((List UInt8) × Unit) × (((List UInt8) × ((Int) × (Bool))) × Unit)) :=
  obind (R.spec_l11Reader_count K p0 12) fun v2 =>
   bif Prod.snd (Prod.snd (Prod.fst (Prod.snd v2))) then
    some (((Array.toList (ByteArray.data (ByteArray.mk #[])), ()), (Prod.fst (Prod.fst (Prod.snd v2)), Prod.fst (Prod.snd (Prod.fst (Prod.snd v2))), Bool.true), ()))
   else
    bif Decidable.decide (Go.IntKind.wrap Go.IntKind.i64 (Prod.fst (Prod.snd (Prod.fst (Prod.snd v2))) + Prod.fst (Prod.fst v2)) > (↑(List.length (Prod.fst (Prod.fst (Prod.snd v2)))) : Int)) then
     some (((Array.toList (ByteArray.data (ByteArray.mk #[])), ()), (Prod.fst (Prod.fst (Prod.snd v2)), Prod.fst (Prod.snd (Prod.fst (Prod.snd v2))), Bool.true), ()))
    else
     bif Decidable.decide (0 ≤ Go.IntKind.wrap Go.IntKind.i64 (Prod.fst (Prod.snd (Prod.fst (Prod.snd v2))) + Prod.fst (Prod.fst v2))) && Decidable.decide (Go.IntKind.wrap Go.IntKind.i64 (Prod.fst (Prod.snd (Prod.fst (Prod.snd v2))) + Prod.fst (Prod.fst v2)) ≤ (↑(List.length (Prod.fst (Prod.fst (Prod.snd v2)))) : Int)) then
      bif Decidable.decide (0 ≤ Go.IntKind.wrap Go.IntKind.i64 (Go.IntKind.wrap Go.IntKind.i64 (Prod.fst (Prod.snd (Prod.fst (Prod.snd v2))) + Prod.fst (Prod.fst v2)) - Prod.fst (Prod.fst v2))) && Decidable.decide (Go.IntKind.wrap Go.IntKind.i64 (Go.IntKind.wrap Go.IntKind.i64 (Prod.fst (Prod.snd (Prod.fst (Prod.snd v2))) + Prod.fst (Prod.fst v2)) - Prod.fst (Prod.fst v2)) ≤ (↑(Int.toNat (Go.IntKind.wrap Go.IntKind.i64 (Prod.fst (Prod.snd (Prod.fst (Prod.snd v2))) + Prod.fst (Prod.fst v2)))) : Int)) then
       some (((List.drop (Int.toNat (Go.IntKind.wrap Go.IntKind.i64 (Go.IntKind.wrap Go.IntKind.i64 (Prod.fst (Prod.snd (Prod.fst (Prod.snd v2))) + Prod.fst (Prod.fst v2)) - Prod.fst (Prod.fst v2)))) (List.take (Int.toNat (Go.IntKind.wrap Go.IntKind.i64 (Prod.fst (Prod.snd (Prod.fst (Prod.snd v2))) + Prod.fst (Prod.fst v2)))) (Prod.fst (Prod.fst (Prod.snd v2)))), ()), (Prod.fst (Prod.fst (Prod.snd v2)), Go.IntKind.wrap Go.IntKind.i64 (Prod.fst (Prod.snd (Prod.fst (Prod.snd v2))) + Prod.fst (Prod.fst v2)), Prod.snd (Prod.snd (Prod.fst (Prod.snd v2)))), ()))
      else
       none
     else
      none

noncomputable def R.spec_l11Reader_signed (K : Nat) (p0 : (List UInt8) × ((Int) × (Bool))) : Option (((Int) × Unit) × (((List UInt8) × ((Int) × (Bool))) × Unit)) :=
  obind (R.spec_l11Reader_number K p0) fun v2 =>
   bif Int.tmod (Prod.fst (Prod.fst v2)) 2 == 1 then
    some (((Go.IntKind.wrap Go.IntKind.i64 (Int.tdiv (Go.IntKind.wrap Go.IntKind.i64 (0 - Go.IntKind.wrap Go.IntKind.i64 (Prod.fst (Prod.fst v2) + 1))) 2), ()), Prod.fst (Prod.snd v2), ()))
   else
    some (((Go.IntKind.wrap Go.IntKind.i64 (Int.tdiv (Prod.fst (Prod.fst v2)) 2), ()), Prod.fst (Prod.snd v2), ()))

noncomputable def R.L_spec_l11Reader_commit_0 (K : Nat) : Nat → ((Int) × ((List UInt8) × ((Int) × ((Bool) × ((List (Int)) × ((List ((List UInt8) × (Int))) × ((List (Int)) × ((List ((List UInt8) × (Int))) × Unit)))))))) → Option (((List UInt8) × ((Int) × ((Bool) × ((List (Int)) × ((List ((List UInt8) × (Int))) × ((List (Int)) × ((List ((List UInt8) × (Int))) × Unit))))))) ⊕ Unit)
  | 0, _ => none
  | n + 1, (q0, (q1, (q2, (q3, (q4, (q5, (q6, (q7, ())))))))) =>
    bif Decidable.decide (q0 > 0) then
     obind (R.spec_l11Reader_number K (q1, q2, q3)) fun v5 =>
      bif Nat.ble (List.length q6 + List.length [Prod.fst (Prod.fst v5)]) 268435456 then
       R.L_spec_l11Reader_commit_0 K n (Go.IntKind.wrap Go.IntKind.i64 (q0 - 1), Prod.fst (Prod.fst (Prod.snd v5)), Prod.fst (Prod.snd (Prod.fst (Prod.snd v5))), Prod.snd (Prod.snd (Prod.fst (Prod.snd v5))), q4, q5, q6 ++ [Prod.fst (Prod.fst v5)], q7, ())
      else
       none
    else
     some (Sum.inl (q1, q2, q3, q4, q5, q6, q7, ()))

noncomputable def R.L_spec_l11Reader_commit_1 (K : Nat) : Nat → ((Int) × ((List UInt8) × ((Int) × ((Bool) × ((List (Int)) × ((List ((List UInt8) × (Int))) × ((List (Int)) × ((List ((List UInt8) × (Int))) × Unit)))))))) → Option (((List UInt8) × ((Int) × ((Bool) × ((List (Int)) × ((List ((List UInt8) × (Int))) × ((List (Int)) × ((List ((List UInt8) × (Int))) × Unit))))))) ⊕ Unit)
  | 0, _ => none
  | n + 1, (q0, (q1, (q2, (q3, (q4, (q5, (q6, (q7, ())))))))) =>
    bif Decidable.decide (q0 > 0) then
     obind (R.spec_l11Reader_word K (q1, q2, q3)) fun v5 =>
      obind (R.spec_l11Reader_signed K (Prod.fst (Prod.snd v5))) fun v6 =>
       bif Nat.ble (List.length q7 + List.length [(Prod.fst (Prod.fst v5), Prod.fst (Prod.fst v6))]) 268435456 then
        R.L_spec_l11Reader_commit_1 K n (Go.IntKind.wrap Go.IntKind.i64 (q0 - 1), Prod.fst (Prod.fst (Prod.snd v6)), Prod.fst (Prod.snd (Prod.fst (Prod.snd v6))), Prod.snd (Prod.snd (Prod.fst (Prod.snd v6))), q4, q5, q6, q7 ++ [(Prod.fst (Prod.fst v5), Prod.fst (Prod.fst v6))], ())
       else
        none
    else
     some (Sum.inl (q1, q2, q3, q4, q5, q6, q7, ()))

noncomputable def R.spec_l11Reader_commit (K : Nat) (p0 : (List UInt8) × ((Int) × (Bool))) : Option ((((List (Int)) × (List ((List UInt8) × (Int)))) × Unit) × (((List UInt8) × ((Int) × (Bool))) × Unit)) :=
  obind (R.spec_l11Reader_count K p0 2) fun v2 =>
   obind (R.L_spec_l11Reader_commit_0 K K (Prod.fst (Prod.fst v2), Prod.fst (Prod.fst (Prod.snd v2)), Prod.fst (Prod.snd (Prod.fst (Prod.snd v2))), Prod.snd (Prod.snd (Prod.fst (Prod.snd v2))), [], [], [], [], ())) fun v3 =>
    (match v3 with
    | .inl v4 =>
     obind (R.spec_l11Reader_count K (Prod.fst v4, Prod.fst (Prod.snd v4), Prod.fst (Prod.snd (Prod.snd v4))) 12) fun v5 =>
      obind (R.L_spec_l11Reader_commit_1 K K (Prod.fst (Prod.fst v5), Prod.fst (Prod.fst (Prod.snd v5)), Prod.fst (Prod.snd (Prod.fst (Prod.snd v5))), Prod.snd (Prod.snd (Prod.fst (Prod.snd v5))), Prod.fst (Prod.snd (Prod.snd (Prod.snd v4))), Prod.fst (Prod.snd (Prod.snd (Prod.snd (Prod.snd v4)))), Prod.fst (Prod.snd (Prod.snd (Prod.snd (Prod.snd (Prod.snd v4))))), Prod.fst (Prod.snd (Prod.snd (Prod.snd (Prod.snd (Prod.snd (Prod.snd v4)))))), ())) fun v6 =>
       (match v6 with
       | .inl v7 =>
        some ((((Prod.fst (Prod.snd (Prod.snd (Prod.snd (Prod.snd (Prod.snd v7))))), Prod.fst (Prod.snd (Prod.snd (Prod.snd (Prod.snd (Prod.snd (Prod.snd v7))))))), ()), (Prod.fst v7, Prod.fst (Prod.snd v7), Prod.fst (Prod.snd (Prod.snd v7))), ()))
       | .inr v7 =>
        none
       )
    | .inr v4 =>
     none
    )

noncomputable def R.L_spec_l11Sum_0 (K : Nat) : Nat → ((List UInt8) × ((Int) × ((Int) × ((Int) × Unit)))) → Option (((Int) × ((Int) × Unit)) ⊕ Unit)
  | 0, _ => none
  | n + 1, (q0, (q1, (q2, (q3, ())))) =>
    bif Decidable.decide (q3 < (↑(List.length q0) : Int)) then
     bif Decidable.decide (0 ≤ q3) && Decidable.decide (q3 < (↑(List.length q0) : Int)) then
      R.L_spec_l11Sum_0 K n (q0, q1, Int.tmod (Go.IntKind.wrap Go.IntKind.i64 (Go.IntKind.wrap Go.IntKind.i64 (Go.IntKind.wrap Go.IntKind.i64 (q2 * 31) + Go.IntKind.wrap Go.IntKind.i64 (↑(UInt8.toNat (List.getD q0 (Int.toNat q3) 0)) : Int)) + 1)) 1000003, Go.IntKind.wrap Go.IntKind.i64 (q3 + 1), ())
     else
      none
    else
     some (Sum.inl (q1, q2, ()))

noncomputable def R.spec_l11Sum (K : Nat) (p0 : List UInt8) : Option (((Int) × Unit) × Unit) :=
  obind (R.L_spec_l11Sum_0 K K (p0, 0, 1, 0, ())) fun v2 =>
   (match v2 with
   | .inl v3 =>
    some (((Prod.fst (Prod.snd v3), ()), ()))
   | .inr v3 =>
    none
   )

noncomputable def R.spec_l01In (K : Nat) (p0 : Int) (p1 : Int) (p2 : Int) : Option (((Bool) × Unit) × Unit) :=
  bif Decidable.decide (p0 ≥ p1) then
   some (((Decidable.decide (p0 ≤ p2), ()), ()))
  else
   some (((Bool.false, ()), ()))

noncomputable def R.spec_l00Letter (K : Nat) (p0 : Int) : Option (((Bool) × Unit) × Unit) :=
  bif Decidable.decide (p0 ≥ 97) then
   bif Decidable.decide (p0 ≤ 122) then
    some (((Bool.true, ()), ()))
   else
    bif Decidable.decide (p0 ≥ 65) then
     bif Decidable.decide (p0 ≤ 90) then
      some (((Bool.true, ()), ()))
     else
      some (((p0 == 95, ()), ()))
    else
     some (((p0 == 95, ()), ()))
  else
   bif Decidable.decide (p0 ≥ 65) then
    bif Decidable.decide (p0 ≤ 90) then
     some (((Bool.true, ()), ()))
    else
     some (((p0 == 95, ()), ()))
   else
    some (((p0 == 95, ()), ()))

noncomputable def R.spec_l00Digit (K : Nat) (p0 : Int) : Option (((Bool) × Unit) × Unit) :=
  bif Decidable.decide (p0 ≥ 48) then
   some (((Decidable.decide (p0 ≤ 57), ()), ()))
  else
   some (((Bool.false, ()), ()))

noncomputable def R.L_spec_l00Word_0 (K : Nat) : Nat → ((List UInt8) × ((Bool) × ((Int) × Unit))) → Option (((Bool) × Unit) ⊕ ((Bool) × Unit))
  | 0, _ => none
  | n + 1, (q0, (q1, (q2, ()))) =>
    bif Decidable.decide (q2 < (↑(List.length q0) : Int)) then
     bif Decidable.decide (0 ≤ q2) && Decidable.decide (q2 < (↑(List.length q0) : Int)) then
      obind (R.spec_l00Letter K (↑(UInt8.toNat (List.getD q0 (Int.toNat q2) 0)) : Int)) fun v6 =>
       bif !Prod.fst (Prod.fst v6) then
        bif Decidable.decide (0 ≤ q2) && Decidable.decide (q2 < (↑(List.length q0) : Int)) then
         obind (R.spec_l00Digit K (↑(UInt8.toNat (List.getD q0 (Int.toNat q2) 0)) : Int)) fun v9 =>
          bif !Prod.fst (Prod.fst v9) then
           some (Sum.inr (Bool.false, ()))
          else
           R.L_spec_l00Word_0 K n (q0, q1, Go.IntKind.wrap Go.IntKind.i64 (q2 + 1), ())
        else
         none
       else
        R.L_spec_l00Word_0 K n (q0, q1, Go.IntKind.wrap Go.IntKind.i64 (q2 + 1), ())
     else
      none
    else
     some (Sum.inl (q1, ()))

noncomputable def R.spec_l00Word (K : Nat) (p0 : List UInt8) : Option (((Bool) × Unit) × Unit) :=
  bif Decidable.decide ((↑(List.length p0) : Int) < 1) then
   some (((Bool.false, ()), ()))
  else
   bif Decidable.decide ((↑(List.length p0) : Int) > 12) then
    some (((Bool.false, ()), ()))
   else
    bif Decidable.decide (0 ≤ 0) && Decidable.decide (0 < (↑(List.length p0) : Int)) then
     obind (R.spec_l00Letter K (↑(UInt8.toNat (List.getD p0 (Int.toNat 0) 0)) : Int)) fun v5 =>
      bif !Prod.fst (Prod.fst v5) then
       some (((Bool.false, ()), ()))
      else
       obind (R.L_spec_l00Word_0 K K (p0, Bool.false, 1, ())) fun v7 =>
        (match v7 with
        | .inl v8 =>
         some (((Bool.true, ()), ()))
        | .inr v8 =>
         some (((Prod.fst v8, ()), ()))
        )
    else
     none

noncomputable def R.L_spec_l01OK_0 (K : Nat) : Nat → ((List ((List UInt8) × (Int))) × ((Bool) × ((Int) × Unit))) → Option (((Bool) × Unit) ⊕ ((Bool) × Unit))
  | 0, _ => none
  | n + 1, (q0, (q1, (q2, ()))) =>
    bif Decidable.decide (q2 < (↑(List.length q0) : Int)) then
     bif Decidable.decide (0 ≤ q2) && Decidable.decide (q2 < (↑(List.length q0) : Int)) then
      obind (R.spec_l00Word K (Prod.fst (List.getD q0 (Int.toNat q2) ([], 0)))) fun v6 =>
       bif !Prod.fst (Prod.fst v6) then
        some (Sum.inr (Bool.false, ()))
       else
        bif Decidable.decide (0 ≤ q2) && Decidable.decide (q2 < (↑(List.length q0) : Int)) then
         obind (R.spec_l01In K (Prod.snd (List.getD q0 (Int.toNat q2) ([], 0))) (-1000000) 1000000) fun v9 =>
          bif !Prod.fst (Prod.fst v9) then
           some (Sum.inr (Bool.false, ()))
          else
           bif Decidable.decide (q2 > 0) then
            bif Decidable.decide (0 ≤ q2) && Decidable.decide (q2 < (↑(List.length q0) : Int)) then
             bif Decidable.decide (0 ≤ Go.IntKind.wrap Go.IntKind.i64 (q2 - 1)) && Decidable.decide (Go.IntKind.wrap Go.IntKind.i64 (q2 - 1) < (↑(List.length q0) : Int)) then
              bif Fw.sless (Prod.fst (List.getD q0 (Int.toNat q2) ([], 0))) (Prod.fst (List.getD q0 (Int.toNat (Go.IntKind.wrap Go.IntKind.i64 (q2 - 1))) ([], 0))) || Prod.fst (List.getD q0 (Int.toNat q2) ([], 0)) == Prod.fst (List.getD q0 (Int.toNat (Go.IntKind.wrap Go.IntKind.i64 (q2 - 1))) ([], 0)) then
               some (Sum.inr (Bool.false, ()))
              else
               R.L_spec_l01OK_0 K n (q0, q1, Go.IntKind.wrap Go.IntKind.i64 (q2 + 1), ())
             else
              none
            else
             none
           else
            R.L_spec_l01OK_0 K n (q0, q1, Go.IntKind.wrap Go.IntKind.i64 (q2 + 1), ())
        else
         none
     else
      none
    else
     some (Sum.inl (q1, ()))

noncomputable def R.spec_l01OK (K : Nat) (p0 : List ((List UInt8) × (Int))) : Option (((Bool) × Unit) × Unit) :=
  bif Decidable.decide ((↑(List.length p0) : Int) > 12) then
   some (((Bool.false, ()), ()))
  else
   obind (R.L_spec_l01OK_0 K K (p0, Bool.false, 0, ())) fun v3 =>
    (match v3 with
    | .inl v4 =>
     some (((Bool.true, ()), ()))
    | .inr v4 =>
     some (((Prod.fst v4, ()), ()))
    )

noncomputable def R.L_spec_l03Commit_0 (K : Nat) : Nat → ((List ((List (Int)) × (List ((List UInt8) × (Int))))) × ((Bool) × ((Int) × ((Int) × ((List (Int)) × ((List ((List UInt8) × (Int))) × Unit)))))) → Option (((Bool) × Unit) ⊕ ((Bool) × Unit))
  | 0, _ => none
  | n + 1, (q0, (q1, (q2, (q3, (q4, (q5, ())))))) =>
    bif Decidable.decide (q3 < q2) then
     bif Decidable.decide (0 ≤ q3) && Decidable.decide (q3 < (↑(List.length q4) : Int)) then
      obind (R.spec_l01In K (List.getD q4 (Int.toNat q3) 0) 1 (↑(List.length q0) : Int)) fun v6 =>
       bif !Prod.fst (Prod.fst v6) then
        some (Sum.inr (Bool.false, ()))
       else
        bif Decidable.decide (q3 > 0) then
         bif Decidable.decide (0 ≤ q3) && Decidable.decide (q3 < (↑(List.length q4) : Int)) then
          bif Decidable.decide (0 ≤ 0) && Decidable.decide (0 < (↑(List.length q4) : Int)) then
           bif List.getD q4 (Int.toNat q3) 0 == List.getD q4 (Int.toNat 0) 0 then
            some (Sum.inr (Bool.false, ()))
           else
            R.L_spec_l03Commit_0 K n (q0, q1, q2, Go.IntKind.wrap Go.IntKind.i64 (q3 + 1), q4, q5, ())
          else
           none
         else
          none
        else
         R.L_spec_l03Commit_0 K n (q0, q1, q2, Go.IntKind.wrap Go.IntKind.i64 (q3 + 1), q4, q5, ())
     else
      none
    else
     some (Sum.inl (q1, ()))

noncomputable def R.spec_l03Commit (K : Nat) (p0 : List ((List (Int)) × (List ((List UInt8) × (Int))))) (p1 : (List (Int)) × (List ((List UInt8) × (Int)))) : Option (((Bool) × Unit) × Unit) :=
  obind (R.spec_l01OK K (Prod.snd p1)) fun v2 =>
   bif !Prod.fst (Prod.fst v2) then
    some (((Bool.false, ()), ()))
   else
    bif Decidable.decide ((↑(List.length (Prod.fst p1)) : Int) > 2) then
     some (((Bool.false, ()), ()))
    else
     bif !((↑(List.length (Prod.fst p1)) : Int) == 0) == ((↑(List.length p0) : Int) == 0) then
      some (((Bool.false, ()), ()))
     else
      obind (R.L_spec_l03Commit_0 K K (p0, Bool.false, (↑(List.length (Prod.fst p1)) : Int), 0, Prod.fst p1, Prod.snd p1, ())) fun v6 =>
       (match v6 with
       | .inl v7 =>
        some (((Bool.true, ()), ()))
       | .inr v7 =>
        some (((Prod.fst v7, ()), ()))
       )

noncomputable def R.L_spec_l03OK_0 (K : Nat) : Nat → ((List ((List (Int)) × (List ((List UInt8) × (Int))))) × ((Bool) × ((Int) × Unit))) → Option (((Bool) × Unit) ⊕ ((Bool) × Unit))
  | 0, _ => none
  | n + 1, (q0, (q1, (q2, ()))) =>
    bif Decidable.decide (q2 < (↑(List.length q0) : Int)) then
     bif Decidable.decide (0 ≤ q2) && Decidable.decide (q2 ≤ (↑(List.length q0) : Int)) then
      bif Decidable.decide (0 ≤ q2) && Decidable.decide (q2 < (↑(List.length q0) : Int)) then
       obind (R.spec_l03Commit K (List.drop 0 (List.take (Int.toNat q2) q0)) (List.getD q0 (Int.toNat q2) ([], []))) fun v7 =>
        bif !Prod.fst (Prod.fst v7) then
         some (Sum.inr (Bool.false, ()))
        else
         R.L_spec_l03OK_0 K n (q0, q1, Go.IntKind.wrap Go.IntKind.i64 (q2 + 1), ())
      else
       none
     else
      none
    else
     some (Sum.inl (q1, ()))

noncomputable def R.spec_l03OK (K : Nat) (p0 : List ((List (Int)) × (List ((List UInt8) × (Int))))) : Option (((Bool) × Unit) × Unit) :=
  obind (R.spec_l01In K (↑(List.length p0) : Int) 1 60) fun v2 =>
   bif !Prod.fst (Prod.fst v2) then
    some (((Bool.false, ()), ()))
   else
    obind (R.L_spec_l03OK_0 K K (p0, Bool.false, 0, ())) fun v4 =>
     (match v4 with
     | .inl v5 =>
      some (((Bool.true, ()), ()))
     | .inr v5 =>
      some (((Prod.fst v5, ()), ()))
     )

noncomputable def R.L_spec_l04At_0 (K : Nat) : Nat → ((List ((List UInt8) × ((Int) × ((Int) × (Bool))))) × ((List UInt8) × ((Int) × ((Int) × Unit)))) → Option (((Int) × Unit) ⊕ ((Int) × Unit))
  | 0, _ => none
  | n + 1, (q0, (q1, (q2, (q3, ())))) =>
    bif Decidable.decide (q3 < (↑(List.length q0) : Int)) then
     bif Decidable.decide (0 ≤ q3) && Decidable.decide (q3 < (↑(List.length q0) : Int)) then
      bif Prod.fst (List.getD q0 (Int.toNat q3) ([], 0, 0, Bool.false)) == q1 then
       some (Sum.inr (q3, ()))
      else
       R.L_spec_l04At_0 K n (q0, q1, q2, Go.IntKind.wrap Go.IntKind.i64 (q3 + 1), ())
     else
      none
    else
     some (Sum.inl (q2, ()))

noncomputable def R.spec_l04At (K : Nat) (p0 : List ((List UInt8) × ((Int) × ((Int) × (Bool))))) (p1 : List UInt8) : Option (((Int) × Unit) × Unit) :=
  obind (R.L_spec_l04At_0 K K (p0, p1, 0, 0, ())) fun v2 =>
   (match v2 with
   | .inl v3 =>
    some (((-1, ()), ()))
   | .inr v3 =>
    some (((Prod.fst v3, ()), ()))
   )

noncomputable def R.L_spec_l04OK_0 (K : Nat) : Nat → ((List ((List UInt8) × ((Int) × ((Int) × (Bool))))) × ((Bool) × ((Int) × Unit))) → Option (((Bool) × Unit) ⊕ ((Bool) × Unit))
  | 0, _ => none
  | n + 1, (q0, (q1, (q2, ()))) =>
    bif Decidable.decide (q2 < (↑(List.length q0) : Int)) then
     bif Decidable.decide (0 ≤ q2) && Decidable.decide (q2 < (↑(List.length q0) : Int)) then
      obind (R.spec_l00Word K (Prod.fst (List.getD q0 (Int.toNat q2) ([], 0, 0, Bool.false)))) fun v6 =>
       bif !Prod.fst (Prod.fst v6) then
        some (Sum.inr (Bool.false, ()))
       else
        obind (R.spec_l01In K (Prod.fst (Prod.snd (Prod.snd (List.getD q0 (Int.toNat q2) ([], 0, 0, Bool.false))))) 1 1000000) fun v8 =>
         bif !Prod.fst (Prod.fst v8) then
          some (Sum.inr (Bool.false, ()))
         else
          obind (R.spec_l04At K q0 (Prod.fst (List.getD q0 (Int.toNat q2) ([], 0, 0, Bool.false)))) fun v10 =>
           bif Prod.fst (Prod.fst v10) != q2 then
            some (Sum.inr (Bool.false, ()))
           else
            bif Prod.snd (Prod.snd (Prod.snd (List.getD q0 (Int.toNat q2) ([], 0, 0, Bool.false)))) then
             bif Prod.fst (Prod.snd (List.getD q0 (Int.toNat q2) ([], 0, 0, Bool.false))) != 0 then
              some (Sum.inr (Bool.false, ()))
             else
              bif !Prod.snd (Prod.snd (Prod.snd (List.getD q0 (Int.toNat q2) ([], 0, 0, Bool.false)))) then
               obind (R.spec_l01In K (Prod.fst (Prod.snd (List.getD q0 (Int.toNat q2) ([], 0, 0, Bool.false)))) 1 60) fun v15 =>
                bif !Prod.fst (Prod.fst v15) then
                 some (Sum.inr (Bool.false, ()))
                else
                 R.L_spec_l04OK_0 K n (q0, q1, Go.IntKind.wrap Go.IntKind.i64 (q2 + 1), ())
              else
               R.L_spec_l04OK_0 K n (q0, q1, Go.IntKind.wrap Go.IntKind.i64 (q2 + 1), ())
            else
             bif !Prod.snd (Prod.snd (Prod.snd (List.getD q0 (Int.toNat q2) ([], 0, 0, Bool.false)))) then
              obind (R.spec_l01In K (Prod.fst (Prod.snd (List.getD q0 (Int.toNat q2) ([], 0, 0, Bool.false)))) 1 60) fun v14 =>
               bif !Prod.fst (Prod.fst v14) then
                some (Sum.inr (Bool.false, ()))
               else
                R.L_spec_l04OK_0 K n (q0, q1, Go.IntKind.wrap Go.IntKind.i64 (q2 + 1), ())
             else
              R.L_spec_l04OK_0 K n (q0, q1, Go.IntKind.wrap Go.IntKind.i64 (q2 + 1), ())
     else
      none
    else
     some (Sum.inl (q1, ()))

noncomputable def R.spec_l04OK (K : Nat) (p0 : List ((List UInt8) × ((Int) × ((Int) × (Bool))))) : Option (((Bool) × Unit) × Unit) :=
  bif Decidable.decide ((↑(List.length p0) : Int) > 8) then
   some (((Bool.false, ()), ()))
  else
   obind (R.L_spec_l04OK_0 K K (p0, Bool.false, 0, ())) fun v3 =>
    (match v3 with
    | .inl v4 =>
     some (((Bool.true, ()), ()))
    | .inr v4 =>
     some (((Prod.fst v4, ()), ()))
    )

noncomputable def R.L_spec_l05OK_0 (K : Nat) : Nat → ((Bool) × ((Int) × ((List ((List (Int)) × (List ((List UInt8) × (Int))))) × ((List ((List UInt8) × ((Int) × ((Int) × (Bool))))) × Unit)))) → Option (((Bool) × Unit) ⊕ ((Bool) × Unit))
  | 0, _ => none
  | n + 1, (q0, (q1, (q2, (q3, ())))) =>
    bif Decidable.decide (q1 < (↑(List.length q3) : Int)) then
     bif Decidable.decide (0 ≤ q1) && Decidable.decide (q1 < (↑(List.length q3) : Int)) then
      bif Decidable.decide (Prod.fst (Prod.snd (List.getD q3 (Int.toNat q1) ([], 0, 0, Bool.false))) > (↑(List.length q2) : Int)) then
       some (Sum.inr (Bool.false, ()))
      else
       R.L_spec_l05OK_0 K n (q0, Go.IntKind.wrap Go.IntKind.i64 (q1 + 1), q2, q3, ())
     else
      none
    else
     some (Sum.inl (q0, ()))

noncomputable def R.spec_l05OK (K : Nat) (p0 : (List ((List (Int)) × (List ((List UInt8) × (Int))))) × (List ((List UInt8) × ((Int) × ((Int) × (Bool)))))) : Option (((Bool) × Unit) × Unit) :=
  obind (R.spec_l03OK K (Prod.fst p0)) fun v2 =>
   bif !Prod.fst (Prod.fst v2) then
    some (((Bool.false, ()), ()))
   else
    obind (R.spec_l04OK K (Prod.snd p0)) fun v4 =>
     bif !Prod.fst (Prod.fst v4) then
      some (((Bool.false, ()), ()))
     else
      obind (R.L_spec_l05OK_0 K K (Bool.false, 0, Prod.fst p0, Prod.snd p0, ())) fun v6 =>
       (match v6 with
       | .inl v7 =>
        some (((Bool.true, ()), ()))
       | .inr v7 =>
        some (((Prod.fst v7, ()), ()))
       )

noncomputable def R.L_spec_l11Read_0 (K : Nat) : Nat → ((List UInt8) × ((Int) × ((Int) × ((List UInt8) × ((Int) × ((Bool) × ((List ((List (Int)) × (List ((List UInt8) × (Int))))) × ((List ((List UInt8) × ((Int) × ((Int) × (Bool))))) × ((List ((List (Int)) × (List ((List UInt8) × (Int))))) × ((List ((List UInt8) × ((Int) × ((Int) × (Bool))))) × Unit)))))))))) → Option (((List UInt8) × ((Int) × ((List UInt8) × ((Int) × ((Bool) × ((List ((List (Int)) × (List ((List UInt8) × (Int))))) × ((List ((List UInt8) × ((Int) × ((Int) × (Bool))))) × ((List ((List (Int)) × (List ((List UInt8) × (Int))))) × ((List ((List UInt8) × ((Int) × ((Int) × (Bool))))) × Unit))))))))) ⊕ Unit)
  | 0, _ => none
  | n + 1, (q0, (q1, (q2, (q3, (q4, (q5, (q6, (q7, (q8, (q9, ())))))))))) =>
    bif Decidable.decide (q2 > 0) then
     bif !q5 then
      obind (R.spec_l11Reader_commit K (q3, q4, q5)) fun v6 =>
       bif Nat.ble (List.length q8 + List.length [Prod.fst (Prod.fst v6)]) 268435456 then
        R.L_spec_l11Read_0 K n (q0, q1, Go.IntKind.wrap Go.IntKind.i64 (q2 - 1), Prod.fst (Prod.fst (Prod.snd v6)), Prod.fst (Prod.snd (Prod.fst (Prod.snd v6))), Prod.snd (Prod.snd (Prod.fst (Prod.snd v6))), q6, q7, q8 ++ [Prod.fst (Prod.fst v6)], q9, ())
       else
        none
     else
      some (Sum.inl (q0, q1, q3, q4, q5, q6, q7, q8, q9, ()))
    else
     some (Sum.inl (q0, q1, q3, q4, q5, q6, q7, q8, q9, ()))

noncomputable def R.L_spec_l11Read_1 (K : Nat) : Nat → ((List UInt8) × ((Int) × ((Int) × ((List UInt8) × ((Int) × ((Bool) × ((List ((List (Int)) × (List ((List UInt8) × (Int))))) × ((List ((List UInt8) × ((Int) × ((Int) × (Bool))))) × ((List ((List (Int)) × (List ((List UInt8) × (Int))))) × ((List ((List UInt8) × ((Int) × ((Int) × (Bool))))) × Unit)))))))))) → Option (((List UInt8) × ((Int) × ((List UInt8) × ((Int) × ((Bool) × ((List ((List (Int)) × (List ((List UInt8) × (Int))))) × ((List ((List UInt8) × ((Int) × ((Int) × (Bool))))) × ((List ((List (Int)) × (List ((List UInt8) × (Int))))) × ((List ((List UInt8) × ((Int) × ((Int) × (Bool))))) × Unit))))))))) ⊕ Unit)
  | 0, _ => none
  | n + 1, (q0, (q1, (q2, (q3, (q4, (q5, (q6, (q7, (q8, (q9, ())))))))))) =>
    bif Decidable.decide (q2 > 0) then
     bif !q5 then
      obind (R.spec_l11Reader_word K (q3, q4, q5)) fun v6 =>
       obind (R.spec_l11Reader_number K (Prod.fst (Prod.snd v6))) fun v7 =>
        obind (R.spec_l11Reader_number K (Prod.fst (Prod.snd v7))) fun v8 =>
         bif Nat.ble (List.length q9 + List.length [(Prod.fst (Prod.fst v6), Prod.fst (Prod.fst v8), Prod.fst (Prod.fst v7), Prod.fst (Prod.fst v8) == 0)]) 268435456 then
          R.L_spec_l11Read_1 K n (q0, q1, Go.IntKind.wrap Go.IntKind.i64 (q2 - 1), Prod.fst (Prod.fst (Prod.snd v8)), Prod.fst (Prod.snd (Prod.fst (Prod.snd v8))), Prod.snd (Prod.snd (Prod.fst (Prod.snd v8))), q6, q7, q8, q9 ++ [(Prod.fst (Prod.fst v6), Prod.fst (Prod.fst v8), Prod.fst (Prod.fst v7), Prod.fst (Prod.fst v8) == 0)], ())
         else
          none
     else
      some (Sum.inl (q0, q1, q3, q4, q5, q6, q7, q8, q9, ()))
    else
     some (Sum.inl (q0, q1, q3, q4, q5, q6, q7, q8, q9, ()))

noncomputable def R.spec_l11Read (K : Nat) (p0 : List UInt8) : Option ((((List ((List (Int)) × (List ((List UInt8) × (Int))))) × (List ((List UInt8) × ((Int) × ((Int) × (Bool)))))) × ((Int) × Unit)) × Unit) :=
  bif Decidable.decide ((↑(List.length p0) : Int) < 3) then
   some (((([], []), 3, ()), ()))
  else
   bif Decidable.decide (0 ≤ 3) && Decidable.decide (3 ≤ (↑(List.length p0) : Int)) then
    bif !List.drop 0 (List.take (Int.toNat 3) p0) == Array.toList (ByteArray.data (ByteArray.mk #[66, 82, 49])) then
     some (((([], []), 3, ()), ()))
    else
     obind (R.spec_l11Reader_count K (p0, 3, Bool.false) 60) fun v5 =>
      obind (R.L_spec_l11Read_0 K K (p0, 0, Prod.fst (Prod.fst v5), Prod.fst (Prod.fst (Prod.snd v5)), Prod.fst (Prod.snd (Prod.fst (Prod.snd v5))), Prod.snd (Prod.snd (Prod.fst (Prod.snd v5))), [], [], [], [], ())) fun v6 =>
       (match v6 with
       | .inl v7 =>
        obind (R.spec_l11Reader_count K (Prod.fst (Prod.snd (Prod.snd v7)), Prod.fst (Prod.snd (Prod.snd (Prod.snd v7))), Prod.fst (Prod.snd (Prod.snd (Prod.snd (Prod.snd v7))))) 8) fun v8 =>
         obind (R.L_spec_l11Read_1 K K (Prod.fst v7, Prod.fst (Prod.snd v7), Prod.fst (Prod.fst v8), Prod.fst (Prod.fst (Prod.snd v8)), Prod.fst (Prod.snd (Prod.fst (Prod.snd v8))), Prod.snd (Prod.snd (Prod.fst (Prod.snd v8))), Prod.fst (Prod.snd (Prod.snd (Prod.snd (Prod.snd (Prod.snd v7))))), Prod.fst (Prod.snd (Prod.snd (Prod.snd (Prod.snd (Prod.snd (Prod.snd v7)))))), Prod.fst (Prod.snd (Prod.snd (Prod.snd (Prod.snd (Prod.snd (Prod.snd (Prod.snd v7))))))), Prod.fst (Prod.snd (Prod.snd (Prod.snd (Prod.snd (Prod.snd (Prod.snd (Prod.snd (Prod.snd v7)))))))), ())) fun v9 =>
          (match v9 with
          | .inl v10 =>
           obind (R.spec_l11Reader_number K (Prod.fst (Prod.snd (Prod.snd v10)), Prod.fst (Prod.snd (Prod.snd (Prod.snd v10))), Prod.fst (Prod.snd (Prod.snd (Prod.snd (Prod.snd v10)))))) fun v11 =>
            bif Prod.snd (Prod.snd (Prod.fst (Prod.snd v11))) then
             some (((([], []), 3, ()), ()))
            else
             bif Prod.fst (Prod.snd (Prod.fst (Prod.snd v11))) != (↑(List.length (Prod.fst v10)) : Int) then
              some (((([], []), 3, ()), ()))
             else
              bif Decidable.decide (0 ≤ Prod.fst (Prod.snd (Prod.snd (Prod.snd v10)))) && Decidable.decide (Prod.fst (Prod.snd (Prod.snd (Prod.snd v10))) ≤ (↑(List.length (Prod.fst v10)) : Int)) then
               obind (R.spec_l11Sum K (List.drop 0 (List.take (Int.toNat (Prod.fst (Prod.snd (Prod.snd (Prod.snd v10))))) (Prod.fst v10)))) fun v15 =>
                bif Prod.fst (Prod.fst v11) != Prod.fst (Prod.fst v15) then
                 some (((([], []), 13, ()), ()))
                else
                 obind (R.spec_l05OK K (Prod.fst (Prod.snd (Prod.snd (Prod.snd (Prod.snd (Prod.snd (Prod.snd (Prod.snd v10))))))), Prod.fst (Prod.snd (Prod.snd (Prod.snd (Prod.snd (Prod.snd (Prod.snd (Prod.snd (Prod.snd v10)))))))))) fun v17 =>
                  bif !Prod.fst (Prod.fst v17) then
                   some (((([], []), 1, ()), ()))
                  else
                   some ((((Prod.fst (Prod.snd (Prod.snd (Prod.snd (Prod.snd (Prod.snd (Prod.snd (Prod.snd v10))))))), Prod.fst (Prod.snd (Prod.snd (Prod.snd (Prod.snd (Prod.snd (Prod.snd (Prod.snd (Prod.snd v10))))))))), 0, ()), ()))
              else
               none
          | .inr v10 =>
           none
          )
       | .inr v7 =>
        none
       )
   else
    none

noncomputable def R.spec_DecodeBase (K : Nat) (p0 : List UInt8) : Option ((((List ((List (Int)) × (List ((List UInt8) × (Int))))) × (List ((List UInt8) × ((Int) × ((Int) × (Bool)))))) × ((Int) × Unit)) × Unit) :=
  bif Decidable.decide ((↑(List.length p0) : Int) > 65536) then
   some (((([], []), 2, ()), ()))
  else
   obind (R.spec_l11Read K p0) fun v3 =>
    some (((Prod.fst (Prod.fst v3), Prod.fst (Prod.snd (Prod.fst v3)), ()), ()))

noncomputable def R.impl_isText (K : Nat) (p0 : List UInt8) : Option (((Bool) × Unit) × Unit) :=
  some (((Decidable.decide ((↑(List.length p0) : Int) ≤ 65536), ()), ()))

noncomputable def R.internal_stringslite_HasPrefix (K : Nat) (p0 : List UInt8) (p1 : List UInt8) : Option (((Bool) × Unit) × Unit) :=
  bif Decidable.decide ((↑(List.length p0) : Int) ≥ (↑(List.length p1) : Int)) then
   bif Decidable.decide (0 ≤ (↑(List.length p1) : Int)) && Decidable.decide ((↑(List.length p1) : Int) ≤ (↑(List.length p0) : Int)) then
    some (((List.drop 0 (List.take (Int.toNat (↑(List.length p1) : Int)) p0) == p1, ()), ()))
   else
    none
  else
   some (((Bool.false, ()), ()))

noncomputable def R.strings_HasPrefix (K : Nat) (p0 : List UInt8) (p1 : List UInt8) : Option (((Bool) × Unit) × Unit) :=
  obind (R.internal_stringslite_HasPrefix K p0 p1) fun v2 =>
   some (((Prod.fst (Prod.fst v2), ()), ()))

noncomputable def R.L_impl_reader_number_0 (K : Nat) : Nat → ((Int) × ((Int) × ((Int) × ((List UInt8) × ((Int) × ((Bool) × Unit)))))) → Option (((Int) × ((List UInt8) × ((Int) × ((Bool) × Unit)))) ⊕ ((Int) × ((List UInt8) × ((Int) × ((Bool) × Unit)))))
  | 0, _ => none
  | n + 1, (q0, (q1, (q2, (q3, (q4, (q5, ())))))) =>
    bif Decidable.decide (q2 < 4) then
     bif q5 then
      some (Sum.inl (q0, q3, q4, q5, ()))
     else
      bif Decidable.decide (Go.IntKind.wrap Go.IntKind.i64 (q4 + q2) ≥ (↑(List.length q3) : Int)) then
       some (Sum.inl (q0, q3, q4, q5, ()))
      else
       bif Decidable.decide (0 ≤ Go.IntKind.wrap Go.IntKind.i64 (q4 + q2)) && Decidable.decide (Go.IntKind.wrap Go.IntKind.i64 (q4 + q2) < (↑(List.length q3) : Int)) then
        bif Decidable.decide (0 ≤ Go.IntKind.wrap Go.IntKind.i64 (7 * q2)) then
         bif Decidable.decide (Go.IntKind.wrap Go.IntKind.i64 (↑(UInt8.toNat (List.getD q3 (Int.toNat (Go.IntKind.wrap Go.IntKind.i64 (q4 + q2))) 0)) : Int) < 128) then
          bif Go.IntKind.wrap Go.IntKind.i64 (↑(UInt8.toNat (List.getD q3 (Int.toNat (Go.IntKind.wrap Go.IntKind.i64 (q4 + q2))) 0)) : Int) == 0 then
           bif Decidable.decide (q2 > 0) then
            some (Sum.inl (q0, q3, q4, q5, ()))
           else
            bif Decidable.decide (Fw.bitsOf Go.BinOp.or Go.IntKind.i64 q1 (Fw.shlOf Go.IntKind.i64 (Fw.bitsOf Go.BinOp.and Go.IntKind.i64 (Go.IntKind.wrap Go.IntKind.i64 (↑(UInt8.toNat (List.getD q3 (Int.toNat (Go.IntKind.wrap Go.IntKind.i64 (q4 + q2))) 0)) : Int)) 127) (Min.min (Int.toNat (Go.IntKind.wrap Go.IntKind.i64 (7 * q2))) (Go.IntKind.bits Go.IntKind.i64))) > 4000000) then
             some (Sum.inl (q0, q3, q4, q5, ()))
            else
             some (Sum.inr (Fw.bitsOf Go.BinOp.or Go.IntKind.i64 q1 (Fw.shlOf Go.IntKind.i64 (Fw.bitsOf Go.BinOp.and Go.IntKind.i64 (Go.IntKind.wrap Go.IntKind.i64 (↑(UInt8.toNat (List.getD q3 (Int.toNat (Go.IntKind.wrap Go.IntKind.i64 (q4 + q2))) 0)) : Int)) 127) (Min.min (Int.toNat (Go.IntKind.wrap Go.IntKind.i64 (7 * q2))) (Go.IntKind.bits Go.IntKind.i64))), q3, Go.IntKind.wrap Go.IntKind.i64 (q4 + Go.IntKind.wrap Go.IntKind.i64 (q2 + 1)), q5, ()))
          else
           bif Decidable.decide (Fw.bitsOf Go.BinOp.or Go.IntKind.i64 q1 (Fw.shlOf Go.IntKind.i64 (Fw.bitsOf Go.BinOp.and Go.IntKind.i64 (Go.IntKind.wrap Go.IntKind.i64 (↑(UInt8.toNat (List.getD q3 (Int.toNat (Go.IntKind.wrap Go.IntKind.i64 (q4 + q2))) 0)) : Int)) 127) (Min.min (Int.toNat (Go.IntKind.wrap Go.IntKind.i64 (7 * q2))) (Go.IntKind.bits Go.IntKind.i64))) > 4000000) then
            some (Sum.inl (q0, q3, q4, q5, ()))
           else
            some (Sum.inr (Fw.bitsOf Go.BinOp.or Go.IntKind.i64 q1 (Fw.shlOf Go.IntKind.i64 (Fw.bitsOf Go.BinOp.and Go.IntKind.i64 (Go.IntKind.wrap Go.IntKind.i64 (↑(UInt8.toNat (List.getD q3 (Int.toNat (Go.IntKind.wrap Go.IntKind.i64 (q4 + q2))) 0)) : Int)) 127) (Min.min (Int.toNat (Go.IntKind.wrap Go.IntKind.i64 (7 * q2))) (Go.IntKind.bits Go.IntKind.i64))), q3, Go.IntKind.wrap Go.IntKind.i64 (q4 + Go.IntKind.wrap Go.IntKind.i64 (q2 + 1)), q5, ()))
         else
          R.L_impl_reader_number_0 K n (q0, Fw.bitsOf Go.BinOp.or Go.IntKind.i64 q1 (Fw.shlOf Go.IntKind.i64 (Fw.bitsOf Go.BinOp.and Go.IntKind.i64 (Go.IntKind.wrap Go.IntKind.i64 (↑(UInt8.toNat (List.getD q3 (Int.toNat (Go.IntKind.wrap Go.IntKind.i64 (q4 + q2))) 0)) : Int)) 127) (Min.min (Int.toNat (Go.IntKind.wrap Go.IntKind.i64 (7 * q2))) (Go.IntKind.bits Go.IntKind.i64))), Go.IntKind.wrap Go.IntKind.i64 (q2 + 1), q3, q4, q5, ())
        else
         none
       else
        none
    else
     some (Sum.inl (q0, q3, q4, q5, ()))

noncomputable def R.impl_reader_number (K : Nat) (p0 : (List UInt8) × ((Int) × (Bool))) : Option (((Int) × Unit) × (((List UInt8) × ((Int) × (Bool))) × Unit)) :=
  obind (R.L_impl_reader_number_0 K K (0, 0, 0, Prod.fst p0, Prod.fst (Prod.snd p0), Prod.snd (Prod.snd p0), ())) fun v2 =>
   (match v2 with
   | .inl v3 =>
    some (((0, ()), (Prod.fst (Prod.snd v3), Prod.fst (Prod.snd (Prod.snd v3)), Bool.true), ()))
   | .inr v3 =>
    some (((Prod.fst v3, ()), (Prod.fst (Prod.snd v3), Prod.fst (Prod.snd (Prod.snd v3)), Prod.fst (Prod.snd (Prod.snd (Prod.snd v3)))), ()))
   )

noncomputable def R.impl_reader_few (K : Nat) (p0 : (List UInt8) × ((Int) × (Bool))) (p1 : Int) : Option (((Int) × Unit) × (((List UInt8) × ((Int) × (Bool))) × Unit)) :=
  obind (R.impl_reader_number K p0) fun v2 =>
   bif Decidable.decide (Prod.fst (Prod.fst v2) > p1) then
    some (((0, ()), (Prod.fst (Prod.fst (Prod.snd v2)), Prod.fst (Prod.snd (Prod.fst (Prod.snd v2))), Bool.true), ()))
   else
    some (((Prod.fst (Prod.fst v2), ()), Prod.fst (Prod.snd v2), ()))

noncomputable def R.impl_reader_text (K : Nat) (p0 : (List UInt8) × ((Int) × (Bool))) (p1 : Int) : Option (((List UInt8) × Unit) × (((List UInt8) × ((Int) × (Bool))) × Unit)) :=
  obind (R.impl_reader_few K p0 p1) fun v2 =>
   bif Prod.snd (Prod.snd (Prod.fst (Prod.snd v2))) then
    some (((Array.toList (ByteArray.data (ByteArray.mk #[])), ()), (Prod.fst (Prod.fst (Prod.snd v2)), Prod.fst (Prod.snd (Prod.fst (Prod.snd v2))), Bool.true), ()))
   else
    bif Decidable.decide (Go.IntKind.wrap Go.IntKind.i64 (Prod.fst (Prod.snd (Prod.fst (Prod.snd v2))) + Prod.fst (Prod.fst v2)) > (↑(List.length (Prod.fst (Prod.fst (Prod.snd v2)))) : Int)) then
     some (((Array.toList (ByteArray.data (ByteArray.mk #[])), ()), (Prod.fst (Prod.fst (Prod.snd v2)), Prod.fst (Prod.snd (Prod.fst (Prod.snd v2))), Bool.true), ()))
    else
     bif Decidable.decide (0 ≤ Go.IntKind.wrap Go.IntKind.i64 (Prod.fst (Prod.snd (Prod.fst (Prod.snd v2))) + Prod.fst (Prod.fst v2))) && Decidable.decide (Go.IntKind.wrap Go.IntKind.i64 (Prod.fst (Prod.snd (Prod.fst (Prod.snd v2))) + Prod.fst (Prod.fst v2)) ≤ (↑(List.length (Prod.fst (Prod.fst (Prod.snd v2)))) : Int)) then
      bif Decidable.decide (0 ≤ Go.IntKind.wrap Go.IntKind.i64 (Go.IntKind.wrap Go.IntKind.i64 (Prod.fst (Prod.snd (Prod.fst (Prod.snd v2))) + Prod.fst (Prod.fst v2)) - Prod.fst (Prod.fst v2))) && Decidable.decide (Go.IntKind.wrap Go.IntKind.i64 (Go.IntKind.wrap Go.IntKind.i64 (Prod.fst (Prod.snd (Prod.fst (Prod.snd v2))) + Prod.fst (Prod.fst v2)) - Prod.fst (Prod.fst v2)) ≤ (↑(Int.toNat (Go.IntKind.wrap Go.IntKind.i64 (Prod.fst (Prod.snd (Prod.fst (Prod.snd v2))) + Prod.fst (Prod.fst v2)))) : Int)) then
       some (((List.drop (Int.toNat (Go.IntKind.wrap Go.IntKind.i64 (Go.IntKind.wrap Go.IntKind.i64 (Prod.fst (Prod.snd (Prod.fst (Prod.snd v2))) + Prod.fst (Prod.fst v2)) - Prod.fst (Prod.fst v2)))) (List.take (Int.toNat (Go.IntKind.wrap Go.IntKind.i64 (Prod.fst (Prod.snd (Prod.fst (Prod.snd v2))) + Prod.fst (Prod.fst v2)))) (Prod.fst (Prod.fst (Prod.snd v2)))), ()), (Prod.fst (Prod.fst (Prod.snd v2)), Go.IntKind.wrap Go.IntKind.i64 (Prod.fst (Prod.snd (Prod.fst (Prod.snd v2))) + Prod.fst (Prod.fst v2)), Prod.snd (Prod.snd (Prod.fst (Prod.snd v2)))), ()))
      else
       none
     else
      none

noncomputable def R.impl_reader_value (K : Nat) (p0 : (List UInt8) × ((Int) × (Bool))) : Option (((Int) × Unit) × (((List UInt8) × ((Int) × (Bool))) × Unit)) :=
  obind (R.impl_reader_number K p0) fun v2 =>
   bif Int.tmod (Prod.fst (Prod.fst v2)) 2 == 1 then
    some (((Go.IntKind.wrap Go.IntKind.i64 (Int.tdiv (Go.IntKind.wrap Go.IntKind.i64 (0 - Go.IntKind.wrap Go.IntKind.i64 (Prod.fst (Prod.fst v2) + 1))) 2), ()), Prod.fst (Prod.snd v2), ()))
   else
    some (((Go.IntKind.wrap Go.IntKind.i64 (Int.tdiv (Prod.fst (Prod.fst v2)) 2), ()), Prod.fst (Prod.snd v2), ()))

noncomputable def R.L_impl_reader_commit_0 (K : Nat) : Nat → ((Int) × ((Int) × ((List UInt8) × ((Int) × ((Bool) × ((List (Int)) × ((List ((List UInt8) × (Int))) × ((List (Int)) × ((List ((List UInt8) × (Int))) × Unit))))))))) → Option (((List UInt8) × ((Int) × ((Bool) × ((List (Int)) × ((List ((List UInt8) × (Int))) × ((List (Int)) × ((List ((List UInt8) × (Int))) × Unit))))))) ⊕ Unit)
  | 0, _ => none
  | n + 1, (q0, (q1, (q2, (q3, (q4, (q5, (q6, (q7, (q8, ()))))))))) =>
    bif Decidable.decide (q1 < q0) then
     obind (R.impl_reader_number K (q2, q3, q4)) fun v5 =>
      bif Nat.ble (List.length q7 + List.length [Prod.fst (Prod.fst v5)]) 268435456 then
       R.L_impl_reader_commit_0 K n (q0, Go.IntKind.wrap Go.IntKind.i64 (q1 + 1), Prod.fst (Prod.fst (Prod.snd v5)), Prod.fst (Prod.snd (Prod.fst (Prod.snd v5))), Prod.snd (Prod.snd (Prod.fst (Prod.snd v5))), q5, q6, q7 ++ [Prod.fst (Prod.fst v5)], q8, ())
      else
       none
    else
     some (Sum.inl (q2, q3, q4, q5, q6, q7, q8, ()))

noncomputable def R.L_impl_reader_commit_1 (K : Nat) : Nat → ((Int) × ((Int) × ((List UInt8) × ((Int) × ((Bool) × ((List (Int)) × ((List ((List UInt8) × (Int))) × ((List (Int)) × ((List ((List UInt8) × (Int))) × Unit))))))))) → Option (((List UInt8) × ((Int) × ((Bool) × ((List (Int)) × ((List ((List UInt8) × (Int))) × ((List (Int)) × ((List ((List UInt8) × (Int))) × Unit))))))) ⊕ Unit)
  | 0, _ => none
  | n + 1, (q0, (q1, (q2, (q3, (q4, (q5, (q6, (q7, (q8, ()))))))))) =>
    bif Decidable.decide (q1 < q0) then
     obind (R.impl_reader_text K (q2, q3, q4) 12) fun v5 =>
      obind (R.impl_reader_value K (Prod.fst (Prod.snd v5))) fun v6 =>
       bif Nat.ble (List.length q8 + List.length [(Prod.fst (Prod.fst v5), Prod.fst (Prod.fst v6))]) 268435456 then
        R.L_impl_reader_commit_1 K n (q0, Go.IntKind.wrap Go.IntKind.i64 (q1 + 1), Prod.fst (Prod.fst (Prod.snd v6)), Prod.fst (Prod.snd (Prod.fst (Prod.snd v6))), Prod.snd (Prod.snd (Prod.fst (Prod.snd v6))), q5, q6, q7, q8 ++ [(Prod.fst (Prod.fst v5), Prod.fst (Prod.fst v6))], ())
       else
        none
    else
     some (Sum.inl (q2, q3, q4, q5, q6, q7, q8, ()))

noncomputable def R.impl_reader_commit (K : Nat) (p0 : (List UInt8) × ((Int) × (Bool))) : Option ((((List (Int)) × (List ((List UInt8) × (Int)))) × Unit) × (((List UInt8) × ((Int) × (Bool))) × Unit)) :=
  obind (R.impl_reader_few K p0 2) fun v2 =>
   obind (R.L_impl_reader_commit_0 K K (Prod.fst (Prod.fst v2), 0, Prod.fst (Prod.fst (Prod.snd v2)), Prod.fst (Prod.snd (Prod.fst (Prod.snd v2))), Prod.snd (Prod.snd (Prod.fst (Prod.snd v2))), [], [], [], [], ())) fun v3 =>
    (match v3 with
    | .inl v4 =>
     obind (R.impl_reader_few K (Prod.fst v4, Prod.fst (Prod.snd v4), Prod.fst (Prod.snd (Prod.snd v4))) 12) fun v5 =>
      obind (R.L_impl_reader_commit_1 K K (Prod.fst (Prod.fst v5), 0, Prod.fst (Prod.fst (Prod.snd v5)), Prod.fst (Prod.snd (Prod.fst (Prod.snd v5))), Prod.snd (Prod.snd (Prod.fst (Prod.snd v5))), Prod.fst (Prod.snd (Prod.snd (Prod.snd v4))), Prod.fst (Prod.snd (Prod.snd (Prod.snd (Prod.snd v4)))), Prod.fst (Prod.snd (Prod.snd (Prod.snd (Prod.snd (Prod.snd v4))))), Prod.fst (Prod.snd (Prod.snd (Prod.snd (Prod.snd (Prod.snd (Prod.snd v4)))))), ())) fun v6 =>
       (match v6 with
       | .inl v7 =>
        some ((((Prod.fst (Prod.snd (Prod.snd (Prod.snd (Prod.snd (Prod.snd v7))))), Prod.fst (Prod.snd (Prod.snd (Prod.snd (Prod.snd (Prod.snd (Prod.snd v7))))))), ()), (Prod.fst v7, Prod.fst (Prod.snd v7), Prod.fst (Prod.snd (Prod.snd v7))), ()))
       | .inr v7 =>
        none
       )
    | .inr v4 =>
     none
    )

noncomputable def R.impl_reader_ends (K : Nat) (p0 : (List UInt8) × ((Int) × (Bool))) : Option (((Bool) × Unit) × (((List UInt8) × ((Int) × (Bool))) × Unit)) :=
  bif !Prod.snd (Prod.snd p0) then
   some (((Prod.fst (Prod.snd p0) == (↑(List.length (Prod.fst p0)) : Int), ()), p0, ()))
  else
   some (((Bool.false, ()), p0, ()))

noncomputable def R.L_impl_sumOf_0 (K : Nat) : Nat → ((Int) × ((Int) × ((Int) × ((Int) × ((List (Int)) × Unit))))) → Option (((Int) × ((Int) × Unit)) ⊕ Unit)
  | 0, _ => none
  | n + 1, (q0, (q1, (q2, (q3, (q4, ()))))) =>
    bif Decidable.decide (q3 < q2) then
     bif Decidable.decide (0 ≤ q3) && Decidable.decide (q3 < (↑(List.length q4) : Int)) then
      R.L_impl_sumOf_0 K n (q0, Int.tmod (Go.IntKind.wrap Go.IntKind.i64 (Go.IntKind.wrap Go.IntKind.i64 (Go.IntKind.wrap Go.IntKind.i64 (31 * q1) + Go.IntKind.wrap Go.IntKind.i64 (List.getD q4 (Int.toNat q3) 0)) + 1)) 1000003, q2, Go.IntKind.wrap Go.IntKind.i64 (q3 + 1), q4, ())
     else
      none
    else
     some (Sum.inl (q0, q1, ()))

noncomputable def R.impl_sumOf (K : Nat) (p0 : List UInt8) : Option (((Int) × Unit) × Unit) :=
  obind (R.L_impl_sumOf_0 K K (0, 1, (↑(List.length (Fw.bytesIn p0)) : Int), 0, Fw.bytesIn p0, ())) fun v2 =>
   (match v2 with
   | .inl v3 =>
    some (((Prod.fst (Prod.snd v3), ()), ()))
   | .inr v3 =>
    none
   )

noncomputable def R.impl_isList_impl_Commit (K : Nat) (p0 : List ((List (Int)) × (List ((List UInt8) × (Int))))) : Option (((Bool) × Unit) × Unit) :=
  some (((Decidable.decide ((↑(List.length p0) : Int) ≤ 4096), ()), ()))

noncomputable def R.impl_within (K : Nat) (p0 : Int) (p1 : Int) (p2 : Int) : Option (((Bool) × Unit) × Unit) :=
  bif Decidable.decide (p1 ≤ p0) then
   some (((Decidable.decide (p0 ≤ p2), ()), ()))
  else
   some (((Bool.false, ()), ()))

noncomputable def R.impl_isLetter (K : Nat) (p0 : Int) : Option (((Bool) × Unit) × Unit) :=
  bif Decidable.decide (p0 ≥ 97) then
   bif Decidable.decide (p0 ≤ 122) then
    some (((Bool.true, ()), ()))
   else
    bif Decidable.decide (p0 ≥ 65) then
     bif Decidable.decide (p0 ≤ 90) then
      some (((Bool.true, ()), ()))
     else
      some (((p0 == 95, ()), ()))
    else
     some (((p0 == 95, ()), ()))
  else
   bif Decidable.decide (p0 ≥ 65) then
    bif Decidable.decide (p0 ≤ 90) then
     some (((Bool.true, ()), ()))
    else
     some (((p0 == 95, ()), ()))
   else
    some (((p0 == 95, ()), ()))

noncomputable def R.impl_isDigit (K : Nat) (p0 : Int) : Option (((Bool) × Unit) × Unit) :=
  bif Decidable.decide (p0 ≥ 48) then
   some (((Decidable.decide (p0 ≤ 57), ()), ()))
  else
   some (((Bool.false, ()), ()))

noncomputable def R.impl_NameOK_1 (K : Nat) (p0 : Int) : Option (((Bool) × Unit) × Unit) :=
  obind (R.impl_isLetter K p0) fun v2 =>
   bif Prod.fst (Prod.fst v2) then
    some (((Bool.true, ()), ()))
   else
    obind (R.impl_isDigit K p0) fun v4 =>
     some (((Prod.fst (Prod.fst v4), ()), ()))

noncomputable def R.L_impl_areAll_byte__impl_NameOK_1_0 (K : Nat) : Nat → ((List (Int)) × ((Bool) × ((List (Int)) × ((List (Int)) × ((Bool) × ((List (Int)) × ((List (Int)) × ((Int) × ((Int) × ((Int) × Unit)))))))))) → Option (((List (Int)) × ((Bool) × ((List (Int)) × ((List (Int)) × ((Bool) × ((List (Int)) × ((Int) × Unit))))))) ⊕ ((List (Int)) × ((Bool) × ((List (Int)) × ((List (Int)) × ((Bool) × ((List (Int)) × ((Int) × Unit))))))))
  | 0, _ => none
  | n + 1, (q0, (q1, (q2, (q3, (q4, (q5, (q6, (q7, (q8, (q9, ())))))))))) =>
    bif Decidable.decide (q9 < q8) then
     bif Decidable.decide (0 ≤ q9) && Decidable.decide (q9 < (↑(List.length q6) : Int)) then
      obind (R.impl_NameOK_1 K (List.getD q6 (Int.toNat q9) 0)) fun v6 =>
       bif !Prod.fst (Prod.fst v6) then
        some (Sum.inr (q0, q1, q2, q3, q4, q5, q9, ()))
       else
        R.L_impl_areAll_byte__impl_NameOK_1_0 K n (q0, q1, q2, q3, q4, q5, q6, q7, q8, Go.IntKind.wrap Go.IntKind.i64 (q9 + 1), ())
     else
      none
    else
     some (Sum.inl (q0, q1, q2, q3, q4, q5, q7, ()))

noncomputable def R.impl_areAll_byte__impl_NameOK_1 (K : Nat) (p0 : List (Int)) : Option (((Bool) × Unit) × Unit) :=
  obind (R.L_impl_areAll_byte__impl_NameOK_1_0 K K (p0, Bool.false, p0, p0, Bool.false, p0, p0, 0, (↑(List.length p0) : Int), 0, ())) fun v2 =>
   (match v2 with
   | .inl v3 =>
    some (((!Decidable.decide (-1 ≥ 0), ()), ()))
   | .inr v3 =>
    some (((!Decidable.decide (Prod.fst (Prod.snd (Prod.snd (Prod.snd (Prod.snd (Prod.snd (Prod.snd v3)))))) ≥ 0), ()), ()))
   )

noncomputable def R.impl_NameOK (K : Nat) (p0 : List UInt8) : Option (((Bool) × Unit) × Unit) :=
  obind (R.impl_within K (↑(List.length p0) : Int) 1 12) fun v2 =>
   bif Prod.fst (Prod.fst v2) then
    bif Decidable.decide (0 ≤ 0) && Decidable.decide (0 < (↑(List.length p0) : Int)) then
     obind (R.impl_isLetter K (↑(UInt8.toNat (List.getD p0 (Int.toNat 0) 0)) : Int)) fun v5 =>
      bif Prod.fst (Prod.fst v5) then
       obind (R.impl_areAll_byte__impl_NameOK_1 K (Fw.bytesIn p0)) fun v7 =>
        some (((Prod.fst (Prod.fst v7), ()), ()))
      else
       some (((Bool.false, ()), ()))
    else
     none
   else
    some (((Bool.false, ()), ()))

noncomputable def R.impl_isValue (K : Nat) (p0 : Int) : Option (((Bool) × Unit) × Unit) :=
  obind (R.impl_within K p0 (-1000000) 1000000) fun v2 =>
   some (((Prod.fst (Prod.fst v2), ()), ()))

noncomputable def R.L_impl_MapOK_0 (K : Nat) : Nat → ((List ((List UInt8) × (Int))) × ((Bool) × ((List ((List UInt8) × (Int))) × ((Int) × ((Int) × Unit))))) → Option (((List ((List UInt8) × (Int))) × ((Bool) × Unit)) ⊕ ((Bool) × Unit))
  | 0, _ => none
  | n + 1, (q0, (q1, (q2, (q3, (q4, ()))))) =>
    bif Decidable.decide (q4 < q3) then
     bif Decidable.decide (0 ≤ q4) && Decidable.decide (q4 < (↑(List.length q2) : Int)) then
      obind (R.impl_NameOK K (Prod.fst (List.getD q2 (Int.toNat q4) ([], 0)))) fun v6 =>
       bif !Prod.fst (Prod.fst v6) then
        some (Sum.inr (Bool.false, ()))
       else
        obind (R.impl_isValue K (Prod.snd (List.getD q2 (Int.toNat q4) ([], 0)))) fun v8 =>
         bif !Prod.fst (Prod.fst v8) then
          some (Sum.inr (Bool.false, ()))
         else
          bif Decidable.decide (q4 > 0) then
           bif Decidable.decide (0 ≤ Go.IntKind.wrap Go.IntKind.i64 (q4 - 1)) && Decidable.decide (Go.IntKind.wrap Go.IntKind.i64 (q4 - 1) < (↑(List.length q0) : Int)) then
            bif !Fw.sless (Prod.fst (List.getD q0 (Int.toNat (Go.IntKind.wrap Go.IntKind.i64 (q4 - 1))) ([], 0))) (Prod.fst (List.getD q2 (Int.toNat q4) ([], 0))) then
             some (Sum.inr (Bool.false, ()))
            else
             R.L_impl_MapOK_0 K n (q0, q1, q2, q3, Go.IntKind.wrap Go.IntKind.i64 (q4 + 1), ())
           else
            none
          else
           R.L_impl_MapOK_0 K n (q0, q1, q2, q3, Go.IntKind.wrap Go.IntKind.i64 (q4 + 1), ())
     else
      none
    else
     some (Sum.inl (q0, q1, ()))

noncomputable def R.impl_MapOK (K : Nat) (p0 : List ((List UInt8) × (Int))) : Option (((Bool) × Unit) × Unit) :=
  obind (R.L_impl_MapOK_0 K K (p0, Bool.false, p0, (↑(List.length p0) : Int), 0, ())) fun v2 =>
   (match v2 with
   | .inl v3 =>
    some (((Decidable.decide ((↑(List.length (Prod.fst v3)) : Int) ≤ 12), ()), ()))
   | .inr v3 =>
    some (((Prod.fst v3, ()), ()))
   )

noncomputable def R.L_impl_areAll_int__impl_Commit_isAt_1_0 (K : Nat) : Nat → ((List (Int)) × ((Int) × ((Bool) × ((List (Int)) × ((List (Int)) × ((Bool) × ((List (Int)) × ((List (Int)) × ((Int) × ((Int) × ((Int) × ((Int) × Unit)))))))))))) → Option (((List (Int)) × ((Int) × ((Bool) × ((List (Int)) × ((List (Int)) × ((Bool) × ((List (Int)) × ((Int) × ((Int) × Unit))))))))) ⊕ ((List (Int)) × ((Int) × ((Bool) × ((List (Int)) × ((List (Int)) × ((Bool) × ((List (Int)) × ((Int) × ((Int) × Unit))))))))))
  | 0, _ => none
  | n + 1, (q0, (q1, (q2, (q3, (q4, (q5, (q6, (q7, (q8, (q9, (q10, (q11, ())))))))))))) =>
    bif Decidable.decide (q10 < q9) then
     bif Decidable.decide (0 ≤ q10) && Decidable.decide (q10 < (↑(List.length q7) : Int)) then
      obind (R.impl_within K (List.getD q7 (Int.toNat q10) 0) 1 (Go.IntKind.wrap Go.IntKind.i64 (q11 - 1))) fun v6 =>
       bif !Prod.fst (Prod.fst v6) then
        some (Sum.inr (q0, q1, q2, q3, q4, q5, q6, q10, q11, ()))
       else
        R.L_impl_areAll_int__impl_Commit_isAt_1_0 K n (q0, q1, q2, q3, q4, q5, q6, q7, q8, q9, Go.IntKind.wrap Go.IntKind.i64 (q10 + 1), q11, ())
     else
      none
    else
     some (Sum.inl (q0, q1, q2, q3, q4, q5, q6, q8, q11, ()))

noncomputable def R.impl_areAll_int__impl_Commit_isAt_1 (K : Nat) (p0 : List (Int)) (p1_0 : Int) : Option (((Bool) × Unit) × Unit) :=
  obind (R.L_impl_areAll_int__impl_Commit_isAt_1_0 K K (p0, p1_0, Bool.false, p0, p0, Bool.false, p0, p0, 0, (↑(List.length p0) : Int), 0, p1_0, ())) fun v2 =>
   (match v2 with
   | .inl v3 =>
    some (((!Decidable.decide (-1 ≥ 0), ()), ()))
   | .inr v3 =>
    some (((!Decidable.decide (Prod.fst (Prod.snd (Prod.snd (Prod.snd (Prod.snd (Prod.snd (Prod.snd (Prod.snd v3))))))) ≥ 0), ()), ()))
   )

noncomputable def R.impl_Commit_isAt (K : Nat) (p0 : (List (Int)) × (List ((List UInt8) × (Int)))) (p1 : Int) : Option (((Bool) × Unit) × Unit) :=
  obind (R.impl_MapOK K (Prod.snd p0)) fun v2 =>
   bif !Prod.fst (Prod.fst v2) then
    some (((Bool.false, ()), ()))
   else
    bif Decidable.decide ((↑(List.length (Prod.fst p0)) : Int) > 2) then
     some (((Bool.false, ()), ()))
    else
     bif !((↑(List.length (Prod.fst p0)) : Int) == 0) == (p1 == 1) then
      some (((Bool.false, ()), ()))
     else
      bif (↑(List.length (Prod.fst p0)) : Int) == 2 then
       bif Decidable.decide (0 ≤ 0) && Decidable.decide (0 < (↑(List.length (Prod.fst p0)) : Int)) then
        bif Decidable.decide (0 ≤ 1) && Decidable.decide (1 < (↑(List.length (Prod.fst p0)) : Int)) then
         bif List.getD (Prod.fst p0) (Int.toNat 0) 0 == List.getD (Prod.fst p0) (Int.toNat 1) 0 then
          some (((Bool.false, ()), ()))
         else
          obind (R.impl_areAll_int__impl_Commit_isAt_1 K (Prod.fst p0) p1) fun v10 =>
           some (((Prod.fst (Prod.fst v10), ()), ()))
        else
         none
       else
        none
      else
       obind (R.impl_areAll_int__impl_Commit_isAt_1 K (Prod.fst p0) p1) fun v7 =>
        some (((Prod.fst (Prod.fst v7), ()), ()))

noncomputable def R.L_impl_areCommits_0 (K : Nat) : Nat → ((List ((List (Int)) × (List ((List UInt8) × (Int))))) × ((Bool) × ((List ((List (Int)) × (List ((List UInt8) × (Int))))) × ((Int) × ((Int) × Unit))))) → Option (((List ((List (Int)) × (List ((List UInt8) × (Int))))) × ((Bool) × Unit)) ⊕ ((Bool) × Unit))
  | 0, _ => none
  | n + 1, (q0, (q1, (q2, (q3, (q4, ()))))) =>
    bif Decidable.decide (q4 < q3) then
     bif Decidable.decide (0 ≤ q4) && Decidable.decide (q4 < (↑(List.length q2) : Int)) then
      obind (R.impl_Commit_isAt K (List.getD q2 (Int.toNat q4) ([], [])) (Go.IntKind.wrap Go.IntKind.i64 (q4 + 1))) fun v6 =>
       bif !Prod.fst (Prod.fst v6) then
        some (Sum.inr (Bool.false, ()))
       else
        R.L_impl_areCommits_0 K n (q0, q1, q2, q3, Go.IntKind.wrap Go.IntKind.i64 (q4 + 1), ())
     else
      none
    else
     some (Sum.inl (q0, q1, ()))

noncomputable def R.impl_areCommits (K : Nat) (p0 : List ((List (Int)) × (List ((List UInt8) × (Int))))) : Option (((Bool) × Unit) × Unit) :=
  obind (R.L_impl_areCommits_0 K K (p0, Bool.false, p0, (↑(List.length p0) : Int), 0, ())) fun v2 =>
   (match v2 with
   | .inl v3 =>
    some (((Decidable.decide ((↑(List.length (Prod.fst v3)) : Int) ≤ 60), ()), ()))
   | .inr v3 =>
    some (((Prod.fst v3, ()), ()))
   )

noncomputable def R.impl_StoreOK (K : Nat) (p0 : List ((List (Int)) × (List ((List UInt8) × (Int))))) : Option (((Bool) × Unit) × Unit) :=
  bif Decidable.decide ((↑(List.length p0) : Int) > 0) then
   bif Decidable.decide ((↑(List.length p0) : Int) ≤ 4096) then
    obind (R.impl_areCommits K p0) fun v4 =>
     some (((Prod.fst (Prod.fst v4), ()), ()))
   else
    some (((Bool.false, ()), ()))
  else
   some (((Bool.false, ()), ()))

noncomputable def R.impl_isHead (K : Nat) (p0 : Int) : Option (((Bool) × Unit) × Unit) :=
  obind (R.impl_within K p0 1 60) fun v2 =>
   some (((Prod.fst (Prod.fst v2), ()), ()))

noncomputable def R.impl_isRef (K : Nat) (p0 : (List UInt8) × ((Int) × ((Int) × (Bool)))) : Option (((Bool) × Unit) × Unit) :=
  obind (R.impl_NameOK K (Prod.fst p0)) fun v2 =>
   bif Prod.fst (Prod.fst v2) then
    obind (R.impl_within K (Prod.fst (Prod.snd (Prod.snd p0))) 1 1000000) fun v4 =>
     bif Prod.fst (Prod.fst v4) then
      bif Prod.snd (Prod.snd (Prod.snd p0)) then
       bif Prod.fst (Prod.snd p0) == 0 then
        some (((Bool.true, ()), ()))
       else
        bif !Prod.snd (Prod.snd (Prod.snd p0)) then
         obind (R.impl_isHead K (Prod.fst (Prod.snd p0))) fun v9 =>
          some (((Prod.fst (Prod.fst v9), ()), ()))
        else
         some (((Bool.false, ()), ()))
      else
       bif !Prod.snd (Prod.snd (Prod.snd p0)) then
        obind (R.impl_isHead K (Prod.fst (Prod.snd p0))) fun v8 =>
         some (((Prod.fst (Prod.fst v8), ()), ()))
       else
        some (((Bool.false, ()), ()))
     else
      some (((Bool.false, ()), ()))
   else
    some (((Bool.false, ()), ()))

noncomputable def R.L_slices_IndexFunc_impl_Ref__impl_place_1_0 (K : Nat) : Nat → ((List ((List UInt8) × ((Int) × ((Int) × (Bool))))) × ((List UInt8) × ((Int) × ((Int) × ((Int) × Unit))))) → Option (((Int) × Unit) ⊕ ((Int) × Unit))
  | 0, _ => none
  | n + 1, (q0, (q1, (q2, (q3, (q4, ()))))) =>
    bif Decidable.decide (q4 < q3) then
     bif Decidable.decide (0 ≤ q4) && Decidable.decide (q4 < (↑(List.length q0) : Int)) then
      bif Prod.fst (List.getD q0 (Int.toNat q4) ([], 0, 0, Bool.false)) == q1 then
       some (Sum.inr (q4, ()))
      else
       R.L_slices_IndexFunc_impl_Ref__impl_place_1_0 K n (q0, q1, q2, q3, Go.IntKind.wrap Go.IntKind.i64 (q4 + 1), ())
     else
      none
    else
     some (Sum.inl (q2, ()))

noncomputable def R.slices_IndexFunc_impl_Ref__impl_place_1 (K : Nat) (p0 : List ((List UInt8) × ((Int) × ((Int) × (Bool))))) (p1_0 : List UInt8) : Option (((Int) × Unit) × Unit) :=
  obind (R.L_slices_IndexFunc_impl_Ref__impl_place_1_0 K K (p0, p1_0, 0, (↑(List.length p0) : Int), 0, ())) fun v2 =>
   (match v2 with
   | .inl v3 =>
    some (((-1, ()), ()))
   | .inr v3 =>
    some (((Prod.fst v3, ()), ()))
   )

noncomputable def R.impl_place (K : Nat) (p0 : List ((List UInt8) × ((Int) × ((Int) × (Bool))))) (p1 : List UInt8) : Option (((Int) × Unit) × Unit) :=
  obind (R.slices_IndexFunc_impl_Ref__impl_place_1 K p0 p1) fun v2 =>
   some (((Prod.fst (Prod.fst v2), ()), ()))

noncomputable def R.L_impl_areAll_impl_Ref__impl_isRef_0 (K : Nat) : Nat → ((List ((List UInt8) × ((Int) × ((Int) × (Bool))))) × ((Bool) × ((List ((List UInt8) × ((Int) × ((Int) × (Bool))))) × ((List ((List UInt8) × ((Int) × ((Int) × (Bool))))) × ((Bool) × ((List ((List UInt8) × ((Int) × ((Int) × (Bool))))) × ((List ((List UInt8) × ((Int) × ((Int) × (Bool))))) × ((Int) × ((Int) × ((Int) × Unit)))))))))) → Option (((List ((List UInt8) × ((Int) × ((Int) × (Bool))))) × ((Bool) × ((List ((List UInt8) × ((Int) × ((Int) × (Bool))))) × ((List ((List UInt8) × ((Int) × ((Int) × (Bool))))) × ((Bool) × ((List ((List UInt8) × ((Int) × ((Int) × (Bool))))) × ((Int) × Unit))))))) ⊕ ((List ((List UInt8) × ((Int) × ((Int) × (Bool))))) × ((Bool) × ((List ((List UInt8) × ((Int) × ((Int) × (Bool))))) × ((List ((List UInt8) × ((Int) × ((Int) × (Bool))))) × ((Bool) × ((List ((List UInt8) × ((Int) × ((Int) × (Bool))))) × ((Int) × Unit))))))))
  | 0, _ => none
  | n + 1, (q0, (q1, (q2, (q3, (q4, (q5, (q6, (q7, (q8, (q9, ())))))))))) =>
    bif Decidable.decide (q9 < q8) then
     bif Decidable.decide (0 ≤ q9) && Decidable.decide (q9 < (↑(List.length q6) : Int)) then
      obind (R.impl_isRef K (List.getD q6 (Int.toNat q9) ([], 0, 0, Bool.false))) fun v6 =>
       bif !Prod.fst (Prod.fst v6) then
        some (Sum.inr (q0, q1, q2, q3, q4, q5, q9, ()))
       else
        R.L_impl_areAll_impl_Ref__impl_isRef_0 K n (q0, q1, q2, q3, q4, q5, q6, q7, q8, Go.IntKind.wrap Go.IntKind.i64 (q9 + 1), ())
     else
      none
    else
     some (Sum.inl (q0, q1, q2, q3, q4, q5, q7, ()))

noncomputable def R.impl_areAll_impl_Ref__impl_isRef (K : Nat) (p0 : List ((List UInt8) × ((Int) × ((Int) × (Bool))))) : Option (((Bool) × Unit) × Unit) :=
  obind (R.L_impl_areAll_impl_Ref__impl_isRef_0 K K (p0, Bool.false, p0, p0, Bool.false, p0, p0, 0, (↑(List.length p0) : Int), 0, ())) fun v2 =>
   (match v2 with
   | .inl v3 =>
    some (((!Decidable.decide (-1 ≥ 0), ()), ()))
   | .inr v3 =>
    some (((!Decidable.decide (Prod.fst (Prod.snd (Prod.snd (Prod.snd (Prod.snd (Prod.snd (Prod.snd v3)))))) ≥ 0), ()), ()))
   )

noncomputable def R.L_impl_RefsOK_0 (K : Nat) : Nat → ((List ((List UInt8) × ((Int) × ((Int) × (Bool))))) × ((Bool) × ((List ((List UInt8) × ((Int) × ((Int) × (Bool))))) × ((Int) × ((Int) × Unit))))) → Option (((Bool) × Unit) ⊕ ((Bool) × Unit))
  | 0, _ => none
  | n + 1, (q0, (q1, (q2, (q3, (q4, ()))))) =>
    bif Decidable.decide (q4 < q3) then
     bif Decidable.decide (0 ≤ q4) && Decidable.decide (q4 < (↑(List.length q2) : Int)) then
      bif Decidable.decide (0 ≤ q4) && Decidable.decide (q4 ≤ (↑(List.length q0) : Int)) then
       obind (R.impl_place K (List.drop 0 (List.take (Int.toNat q4) q0)) (Prod.fst (List.getD q2 (Int.toNat q4) ([], 0, 0, Bool.false)))) fun v7 =>
        bif Decidable.decide (Prod.fst (Prod.fst v7) ≥ 0) then
         some (Sum.inr (Bool.false, ()))
        else
         R.L_impl_RefsOK_0 K n (q0, q1, q2, q3, Go.IntKind.wrap Go.IntKind.i64 (q4 + 1), ())
      else
       none
     else
      none
    else
     some (Sum.inl (q1, ()))

noncomputable def R.impl_RefsOK (K : Nat) (p0 : List ((List UInt8) × ((Int) × ((Int) × (Bool))))) : Option (((Bool) × Unit) × Unit) :=
  bif Decidable.decide ((↑(List.length p0) : Int) > 8) then
   some (((Bool.false, ()), ()))
  else
   obind (R.impl_areAll_impl_Ref__impl_isRef K p0) fun v3 =>
    bif !Prod.fst (Prod.fst v3) then
     some (((Bool.false, ()), ()))
    else
     obind (R.L_impl_RefsOK_0 K K (p0, Bool.false, p0, (↑(List.length p0) : Int), 0, ())) fun v5 =>
      (match v5 with
      | .inl v6 =>
       some (((Bool.true, ()), ()))
      | .inr v6 =>
       some (((Prod.fst v6, ()), ()))
      )

noncomputable def R.L_impl_areAll_impl_Ref__impl_BaseOK_1_0 (K : Nat) : Nat → ((List ((List UInt8) × ((Int) × ((Int) × (Bool))))) × (((List ((List (Int)) × (List ((List UInt8) × (Int))))) × (List ((List UInt8) × ((Int) × ((Int) × (Bool)))))) × ((Bool) × ((List ((List UInt8) × ((Int) × ((Int) × (Bool))))) × ((List ((List UInt8) × ((Int) × ((Int) × (Bool))))) × ((Bool) × ((List ((List UInt8) × ((Int) × ((Int) × (Bool))))) × ((List ((List UInt8) × ((Int) × ((Int) × (Bool))))) × ((Int) × ((Int) × ((Int) × (((List ((List (Int)) × (List ((List UInt8) × (Int))))) × (List ((List UInt8) × ((Int) × ((Int) × (Bool)))))) × Unit)))))))))))) → Option (((List ((List UInt8) × ((Int) × ((Int) × (Bool))))) × (((List ((List (Int)) × (List ((List UInt8) × (Int))))) × (List ((List UInt8) × ((Int) × ((Int) × (Bool)))))) × ((Bool) × ((List ((List UInt8) × ((Int) × ((Int) × (Bool))))) × ((List ((List UInt8) × ((Int) × ((Int) × (Bool))))) × ((Bool) × ((List ((List UInt8) × ((Int) × ((Int) × (Bool))))) × ((Int) × (((List ((List (Int)) × (List ((List UInt8) × (Int))))) × (List ((List UInt8) × ((Int) × ((Int) × (Bool)))))) × Unit))))))))) ⊕ ((List ((List UInt8) × ((Int) × ((Int) × (Bool))))) × (((List ((List (Int)) × (List ((List UInt8) × (Int))))) × (List ((List UInt8) × ((Int) × ((Int) × (Bool)))))) × ((Bool) × ((List ((List UInt8) × ((Int) × ((Int) × (Bool))))) × ((List ((List UInt8) × ((Int) × ((Int) × (Bool))))) × ((Bool) × ((List ((List UInt8) × ((Int) × ((Int) × (Bool))))) × ((Int) × (((List ((List (Int)) × (List ((List UInt8) × (Int))))) × (List ((List UInt8) × ((Int) × ((Int) × (Bool)))))) × Unit))))))))))
  | 0, _ => none
  | n + 1, (q0, (q1, (q2, (q3, (q4, (q5, (q6, (q7, (q8, (q9, (q10, (q11, ())))))))))))) =>
    bif Decidable.decide (q10 < q9) then
     bif Decidable.decide (0 ≤ q10) && Decidable.decide (q10 < (↑(List.length q7) : Int)) then
      bif !Decidable.decide (Prod.fst (Prod.snd (List.getD q7 (Int.toNat q10) ([], 0, 0, Bool.false))) ≤ (↑(List.length (Prod.fst q11)) : Int)) then
       some (Sum.inr (q0, q1, q2, q3, q4, q5, q6, q10, q11, ()))
      else
       R.L_impl_areAll_impl_Ref__impl_BaseOK_1_0 K n (q0, q1, q2, q3, q4, q5, q6, q7, q8, q9, Go.IntKind.wrap Go.IntKind.i64 (q10 + 1), q11, ())
     else
      none
    else
     some (Sum.inl (q0, q1, q2, q3, q4, q5, q6, q8, q11, ()))

noncomputable def R.impl_areAll_impl_Ref__impl_BaseOK_1 (K : Nat) (p0 : List ((List UInt8) × ((Int) × ((Int) × (Bool))))) (p1_0 : (List ((List (Int)) × (List ((List UInt8) × (Int))))) × (List ((List UInt8) × ((Int) × ((Int) × (Bool)))))) : Option (((Bool) × Unit) × Unit) :=
  obind (R.L_impl_areAll_impl_Ref__impl_BaseOK_1_0 K K (p0, p1_0, Bool.false, p0, p0, Bool.false, p0, p0, 0, (↑(List.length p0) : Int), 0, p1_0, ())) fun v2 =>
   (match v2 with
   | .inl v3 =>
    some (((!Decidable.decide (-1 ≥ 0), ()), ()))
   | .inr v3 =>
    some (((!Decidable.decide (Prod.fst (Prod.snd (Prod.snd (Prod.snd (Prod.snd (Prod.snd (Prod.snd (Prod.snd v3))))))) ≥ 0), ()), ()))
   )

noncomputable def R.impl_BaseOK (K : Nat) (p0 : (List ((List (Int)) × (List ((List UInt8) × (Int))))) × (List ((List UInt8) × ((Int) × ((Int) × (Bool)))))) : Option (((Bool) × Unit) × Unit) :=
  obind (R.impl_StoreOK K (Prod.fst p0)) fun v2 =>
   bif Prod.fst (Prod.fst v2) then
    obind (R.impl_RefsOK K (Prod.snd p0)) fun v4 =>
     bif Prod.fst (Prod.fst v4) then
      obind (R.impl_areAll_impl_Ref__impl_BaseOK_1 K (Prod.snd p0) p0) fun v6 =>
       some (((Prod.fst (Prod.fst v6), ()), ()))
     else
      some (((Bool.false, ()), ()))
   else
    some (((Bool.false, ()), ()))

noncomputable def R.L_impl_DecodeBase_0 (K : Nat) : Nat → ((List UInt8) × ((Int) × ((Int) × ((Int) × ((List UInt8) × ((Int) × ((Bool) × ((List ((List (Int)) × (List ((List UInt8) × (Int))))) × ((List ((List UInt8) × ((Int) × ((Int) × (Bool))))) × ((List ((List (Int)) × (List ((List UInt8) × (Int))))) × ((List ((List UInt8) × ((Int) × ((Int) × (Bool))))) × Unit))))))))))) → Option (((List UInt8) × ((Int) × ((List UInt8) × ((Int) × ((Bool) × ((List ((List (Int)) × (List ((List UInt8) × (Int))))) × ((List ((List UInt8) × ((Int) × ((Int) × (Bool))))) × ((List ((List (Int)) × (List ((List UInt8) × (Int))))) × ((List ((List UInt8) × ((Int) × ((Int) × (Bool))))) × Unit))))))))) ⊕ Unit)
  | 0, _ => none
  | n + 1, (q0, (q1, (q2, (q3, (q4, (q5, (q6, (q7, (q8, (q9, (q10, ()))))))))))) =>
    bif Decidable.decide (q3 < q2) then
     obind (R.impl_reader_commit K (q4, q5, q6)) fun v5 =>
      bif Nat.ble (List.length q9 + List.length [Prod.fst (Prod.fst v5)]) 268435456 then
       R.L_impl_DecodeBase_0 K n (q0, q1, q2, Go.IntKind.wrap Go.IntKind.i64 (q3 + 1), Prod.fst (Prod.fst (Prod.snd v5)), Prod.fst (Prod.snd (Prod.fst (Prod.snd v5))), Prod.snd (Prod.snd (Prod.fst (Prod.snd v5))), q7, q8, q9 ++ [Prod.fst (Prod.fst v5)], q10, ())
      else
       none
    else
     some (Sum.inl (q0, q1, q4, q5, q6, q7, q8, q9, q10, ()))

noncomputable def R.L_impl_DecodeBase_1 (K : Nat) : Nat → ((List UInt8) × ((Int) × ((Int) × ((Int) × ((List UInt8) × ((Int) × ((Bool) × ((List ((List (Int)) × (List ((List UInt8) × (Int))))) × ((List ((List UInt8) × ((Int) × ((Int) × (Bool))))) × ((List ((List (Int)) × (List ((List UInt8) × (Int))))) × ((List ((List UInt8) × ((Int) × ((Int) × (Bool))))) × Unit))))))))))) → Option (((List UInt8) × ((Int) × ((List UInt8) × ((Int) × ((Bool) × ((List ((List (Int)) × (List ((List UInt8) × (Int))))) × ((List ((List UInt8) × ((Int) × ((Int) × (Bool))))) × ((List ((List (Int)) × (List ((List UInt8) × (Int))))) × ((List ((List UInt8) × ((Int) × ((Int) × (Bool))))) × Unit))))))))) ⊕ Unit)
  | 0, _ => none
  | n + 1, (q0, (q1, (q2, (q3, (q4, (q5, (q6, (q7, (q8, (q9, (q10, ()))))))))))) =>
    bif Decidable.decide (q3 < q2) then
     obind (R.impl_reader_text K (q4, q5, q6) 12) fun v5 =>
      obind (R.impl_reader_number K (Prod.fst (Prod.snd v5))) fun v6 =>
       obind (R.impl_reader_number K (Prod.fst (Prod.snd v6))) fun v7 =>
        bif Nat.ble (List.length q10 + List.length [(Prod.fst (Prod.fst v5), Prod.fst (Prod.fst v7), Prod.fst (Prod.fst v6), Prod.fst (Prod.fst v7) == 0)]) 268435456 then
         R.L_impl_DecodeBase_1 K n (q0, q1, q2, Go.IntKind.wrap Go.IntKind.i64 (q3 + 1), Prod.fst (Prod.fst (Prod.snd v7)), Prod.fst (Prod.snd (Prod.fst (Prod.snd v7))), Prod.snd (Prod.snd (Prod.fst (Prod.snd v7))), q7, q8, q9, q10 ++ [(Prod.fst (Prod.fst v5), Prod.fst (Prod.fst v7), Prod.fst (Prod.fst v6), Prod.fst (Prod.fst v7) == 0)], ())
        else
         none
    else
     some (Sum.inl (q0, q1, q4, q5, q6, q7, q8, q9, q10, ()))

noncomputable def R.impl_DecodeBase (K : Nat) (p0 : List UInt8) : Option ((((List ((List (Int)) × (List ((List UInt8) × (Int))))) × (List ((List UInt8) × ((Int) × ((Int) × (Bool)))))) × ((Int) × Unit)) × Unit) :=
  bif !Decidable.decide ((↑(List.length p0) : Int) ≤ 65536) then
   some (((([], []), 2, ()), ()))
  else
   obind (R.strings_HasPrefix K p0 (Array.toList (ByteArray.data (ByteArray.mk #[66, 82, 49])))) fun v3 =>
    bif !Prod.fst (Prod.fst v3) then
     some (((([], []), 3, ()), ()))
    else
     obind (R.impl_reader_few K (p0, 3, Bool.false) 60) fun v5 =>
      obind (R.L_impl_DecodeBase_0 K K (p0, 0, Prod.fst (Prod.fst v5), 0, Prod.fst (Prod.fst (Prod.snd v5)), Prod.fst (Prod.snd (Prod.fst (Prod.snd v5))), Prod.snd (Prod.snd (Prod.fst (Prod.snd v5))), [], [], [], [], ())) fun v6 =>
       (match v6 with
       | .inl v7 =>
        obind (R.impl_reader_few K (Prod.fst (Prod.snd (Prod.snd v7)), Prod.fst (Prod.snd (Prod.snd (Prod.snd v7))), Prod.fst (Prod.snd (Prod.snd (Prod.snd (Prod.snd v7))))) 8) fun v8 =>
         obind (R.L_impl_DecodeBase_1 K K (Prod.fst v7, Prod.fst (Prod.snd v7), Prod.fst (Prod.fst v8), 0, Prod.fst (Prod.fst (Prod.snd v8)), Prod.fst (Prod.snd (Prod.fst (Prod.snd v8))), Prod.snd (Prod.snd (Prod.fst (Prod.snd v8))), Prod.fst (Prod.snd (Prod.snd (Prod.snd (Prod.snd (Prod.snd v7))))), Prod.fst (Prod.snd (Prod.snd (Prod.snd (Prod.snd (Prod.snd (Prod.snd v7)))))), Prod.fst (Prod.snd (Prod.snd (Prod.snd (Prod.snd (Prod.snd (Prod.snd (Prod.snd v7))))))), Prod.fst (Prod.snd (Prod.snd (Prod.snd (Prod.snd (Prod.snd (Prod.snd (Prod.snd (Prod.snd v7)))))))), ())) fun v9 =>
          (match v9 with
          | .inl v10 =>
           obind (R.impl_reader_number K (Prod.fst (Prod.snd (Prod.snd v10)), Prod.fst (Prod.snd (Prod.snd (Prod.snd v10))), Prod.fst (Prod.snd (Prod.snd (Prod.snd (Prod.snd v10)))))) fun v11 =>
            obind (R.impl_reader_ends K (Prod.fst (Prod.snd v11))) fun v12 =>
             bif !Prod.fst (Prod.fst v12) then
              some (((([], []), 3, ()), ()))
             else
              bif Decidable.decide (0 ≤ Prod.fst (Prod.snd (Prod.snd (Prod.snd v10)))) && Decidable.decide (Prod.fst (Prod.snd (Prod.snd (Prod.snd v10))) ≤ (↑(List.length (Prod.fst v10)) : Int)) then
               obind (R.impl_sumOf K (List.drop 0 (List.take (Int.toNat (Prod.fst (Prod.snd (Prod.snd (Prod.snd v10))))) (Prod.fst v10)))) fun v15 =>
                bif Prod.fst (Prod.fst v11) != Prod.fst (Prod.fst v15) then
                 some (((([], []), 13, ()), ()))
                else
                 obind (R.impl_BaseOK K (Prod.fst (Prod.snd (Prod.snd (Prod.snd (Prod.snd (Prod.snd (Prod.snd (Prod.snd v10))))))), Prod.fst (Prod.snd (Prod.snd (Prod.snd (Prod.snd (Prod.snd (Prod.snd (Prod.snd (Prod.snd v10)))))))))) fun v17 =>
                  bif !Prod.fst (Prod.fst v17) then
                   some (((([], []), 1, ()), ()))
                  else
                   some ((((Prod.fst (Prod.snd (Prod.snd (Prod.snd (Prod.snd (Prod.snd (Prod.snd (Prod.snd v10))))))), Prod.fst (Prod.snd (Prod.snd (Prod.snd (Prod.snd (Prod.snd (Prod.snd (Prod.snd (Prod.snd v10))))))))), 0, ()), ()))
              else
               none
          | .inr v10 =>
           none
          )
       | .inr v7 =>
        none
       )

noncomputable def R.L_laws_eqIntS_0 (K : Nat) : Nat → ((List (Int)) × ((List (Int)) × ((Bool) × ((Int) × Unit)))) → Option (((Bool) × Unit) ⊕ ((Bool) × Unit))
  | 0, _ => none
  | n + 1, (q0, (q1, (q2, (q3, ())))) =>
    bif Decidable.decide (q3 < (↑(List.length q0) : Int)) then
     bif Decidable.decide (0 ≤ q3) && Decidable.decide (q3 < (↑(List.length q0) : Int)) then
      bif Decidable.decide (0 ≤ q3) && Decidable.decide (q3 < (↑(List.length q1) : Int)) then
       bif List.getD q0 (Int.toNat q3) 0 != List.getD q1 (Int.toNat q3) 0 then
        some (Sum.inr (Bool.false, ()))
       else
        R.L_laws_eqIntS_0 K n (q0, q1, q2, Go.IntKind.wrap Go.IntKind.i64 (q3 + 1), ())
      else
       none
     else
      none
    else
     some (Sum.inl (q2, ()))

noncomputable def R.laws_eqIntS (K : Nat) (p0 : List (Int)) (p1 : List (Int)) : Option (((Bool) × Unit) × Unit) :=
  bif (↑(List.length p0) : Int) != (↑(List.length p1) : Int) then
   some (((Bool.false, ()), ()))
  else
   obind (R.L_laws_eqIntS_0 K K (p0, p1, Bool.false, 0, ())) fun v3 =>
    (match v3 with
    | .inl v4 =>
     some (((Bool.true, ()), ()))
    | .inr v4 =>
     some (((Prod.fst v4, ()), ()))
    )

noncomputable def R.laws_eqEntry (K : Nat) (p0 : (List UInt8) × (Int)) (p1 : (List UInt8) × (Int)) : Option (((Bool) × Unit) × Unit) :=
  bif !Prod.fst p0 == Prod.fst p1 then
   some (((Bool.false, ()), ()))
  else
   bif Prod.snd p0 != Prod.snd p1 then
    some (((Bool.false, ()), ()))
   else
    some (((Bool.true, ()), ()))

noncomputable def R.L_laws_eqEntryS_0 (K : Nat) : Nat → ((List ((List UInt8) × (Int))) × ((List ((List UInt8) × (Int))) × ((Bool) × ((Int) × Unit)))) → Option (((Bool) × Unit) ⊕ ((Bool) × Unit))
  | 0, _ => none
  | n + 1, (q0, (q1, (q2, (q3, ())))) =>
    bif Decidable.decide (q3 < (↑(List.length q0) : Int)) then
     bif Decidable.decide (0 ≤ q3) && Decidable.decide (q3 < (↑(List.length q0) : Int)) then
      bif Decidable.decide (0 ≤ q3) && Decidable.decide (q3 < (↑(List.length q1) : Int)) then
       obind (R.laws_eqEntry K (List.getD q0 (Int.toNat q3) ([], 0)) (List.getD q1 (Int.toNat q3) ([], 0))) fun v7 =>
        bif !Prod.fst (Prod.fst v7) then
         some (Sum.inr (Bool.false, ()))
        else
         R.L_laws_eqEntryS_0 K n (q0, q1, q2, Go.IntKind.wrap Go.IntKind.i64 (q3 + 1), ())
      else
       none
     else
      none
    else
     some (Sum.inl (q2, ()))

noncomputable def R.laws_eqEntryS (K : Nat) (p0 : List ((List UInt8) × (Int))) (p1 : List ((List UInt8) × (Int))) : Option (((Bool) × Unit) × Unit) :=
  bif (↑(List.length p0) : Int) != (↑(List.length p1) : Int) then
   some (((Bool.false, ()), ()))
  else
   obind (R.L_laws_eqEntryS_0 K K (p0, p1, Bool.false, 0, ())) fun v3 =>
    (match v3 with
    | .inl v4 =>
     some (((Bool.true, ()), ()))
    | .inr v4 =>
     some (((Prod.fst v4, ()), ()))
    )

noncomputable def R.laws_eqCommit (K : Nat) (p0 : (List (Int)) × (List ((List UInt8) × (Int)))) (p1 : (List (Int)) × (List ((List UInt8) × (Int)))) : Option (((Bool) × Unit) × Unit) :=
  obind (R.laws_eqIntS K (Prod.fst p0) (Prod.fst p1)) fun v2 =>
   bif !Prod.fst (Prod.fst v2) then
    some (((Bool.false, ()), ()))
   else
    obind (R.laws_eqEntryS K (Prod.snd p0) (Prod.snd p1)) fun v4 =>
     bif !Prod.fst (Prod.fst v4) then
      some (((Bool.false, ()), ()))
     else
      some (((Bool.true, ()), ()))

noncomputable def R.L_laws_eqCommitS_0 (K : Nat) : Nat → ((List ((List (Int)) × (List ((List UInt8) × (Int))))) × ((List ((List (Int)) × (List ((List UInt8) × (Int))))) × ((Bool) × ((Int) × Unit)))) → Option (((Bool) × Unit) ⊕ ((Bool) × Unit))
  | 0, _ => none
  | n + 1, (q0, (q1, (q2, (q3, ())))) =>
    bif Decidable.decide (q3 < (↑(List.length q0) : Int)) then
     bif Decidable.decide (0 ≤ q3) && Decidable.decide (q3 < (↑(List.length q0) : Int)) then
      bif Decidable.decide (0 ≤ q3) && Decidable.decide (q3 < (↑(List.length q1) : Int)) then
       obind (R.laws_eqCommit K (List.getD q0 (Int.toNat q3) ([], [])) (List.getD q1 (Int.toNat q3) ([], []))) fun v7 =>
        bif !Prod.fst (Prod.fst v7) then
         some (Sum.inr (Bool.false, ()))
        else
         R.L_laws_eqCommitS_0 K n (q0, q1, q2, Go.IntKind.wrap Go.IntKind.i64 (q3 + 1), ())
      else
       none
     else
      none
    else
     some (Sum.inl (q2, ()))

noncomputable def R.laws_eqCommitS (K : Nat) (p0 : List ((List (Int)) × (List ((List UInt8) × (Int))))) (p1 : List ((List (Int)) × (List ((List UInt8) × (Int))))) : Option (((Bool) × Unit) × Unit) :=
  bif (↑(List.length p0) : Int) != (↑(List.length p1) : Int) then
   some (((Bool.false, ()), ()))
  else
   obind (R.L_laws_eqCommitS_0 K K (p0, p1, Bool.false, 0, ())) fun v3 =>
    (match v3 with
    | .inl v4 =>
     some (((Bool.true, ()), ()))
    | .inr v4 =>
     some (((Prod.fst v4, ()), ()))
    )

noncomputable def R.laws_eqRef (K : Nat) (p0 : (List UInt8) × ((Int) × ((Int) × (Bool)))) (p1 : (List UInt8) × ((Int) × ((Int) × (Bool)))) : Option (((Bool) × Unit) × Unit) :=
  bif !Prod.fst p0 == Prod.fst p1 then
   some (((Bool.false, ()), ()))
  else
   bif Prod.fst (Prod.snd p0) != Prod.fst (Prod.snd p1) then
    some (((Bool.false, ()), ()))
   else
    bif Prod.fst (Prod.snd (Prod.snd p0)) != Prod.fst (Prod.snd (Prod.snd p1)) then
     some (((Bool.false, ()), ()))
    else
     bif !Prod.snd (Prod.snd (Prod.snd p0)) == Prod.snd (Prod.snd (Prod.snd p1)) then
      some (((Bool.false, ()), ()))
     else
      some (((Bool.true, ()), ()))

noncomputable def R.L_laws_eqRefS_0 (K : Nat) : Nat → ((List ((List UInt8) × ((Int) × ((Int) × (Bool))))) × ((List ((List UInt8) × ((Int) × ((Int) × (Bool))))) × ((Bool) × ((Int) × Unit)))) → Option (((Bool) × Unit) ⊕ ((Bool) × Unit))
  | 0, _ => none
  | n + 1, (q0, (q1, (q2, (q3, ())))) =>
    bif Decidable.decide (q3 < (↑(List.length q0) : Int)) then
     bif Decidable.decide (0 ≤ q3) && Decidable.decide (q3 < (↑(List.length q0) : Int)) then
      bif Decidable.decide (0 ≤ q3) && Decidable.decide (q3 < (↑(List.length q1) : Int)) then
       obind (R.laws_eqRef K (List.getD q0 (Int.toNat q3) ([], 0, 0, Bool.false)) (List.getD q1 (Int.toNat q3) ([], 0, 0, Bool.false))) fun v7 =>
        bif !Prod.fst (Prod.fst v7) then
         some (Sum.inr (Bool.false, ()))
        else
         R.L_laws_eqRefS_0 K n (q0, q1, q2, Go.IntKind.wrap Go.IntKind.i64 (q3 + 1), ())
      else
       none
     else
      none
    else
     some (Sum.inl (q2, ()))

noncomputable def R.laws_eqRefS (K : Nat) (p0 : List ((List UInt8) × ((Int) × ((Int) × (Bool))))) (p1 : List ((List UInt8) × ((Int) × ((Int) × (Bool))))) : Option (((Bool) × Unit) × Unit) :=
  bif (↑(List.length p0) : Int) != (↑(List.length p1) : Int) then
   some (((Bool.false, ()), ()))
  else
   obind (R.L_laws_eqRefS_0 K K (p0, p1, Bool.false, 0, ())) fun v3 =>
    (match v3 with
    | .inl v4 =>
     some (((Bool.true, ()), ()))
    | .inr v4 =>
     some (((Prod.fst v4, ()), ()))
    )

noncomputable def R.laws_eqBase (K : Nat) (p0 : (List ((List (Int)) × (List ((List UInt8) × (Int))))) × (List ((List UInt8) × ((Int) × ((Int) × (Bool)))))) (p1 : (List ((List (Int)) × (List ((List UInt8) × (Int))))) × (List ((List UInt8) × ((Int) × ((Int) × (Bool)))))) : Option (((Bool) × Unit) × Unit) :=
  obind (R.laws_eqCommitS K (Prod.fst p0) (Prod.fst p1)) fun v2 =>
   bif !Prod.fst (Prod.fst v2) then
    some (((Bool.false, ()), ()))
   else
    obind (R.laws_eqRefS K (Prod.snd p0) (Prod.snd p1)) fun v4 =>
     bif !Prod.fst (Prod.fst v4) then
      some (((Bool.false, ()), ()))
     else
      some (((Bool.true, ()), ()))

noncomputable def R.L_laws_markIntS_0 (K : Nat) : Nat → ((Int) × ((Int) × ((Int) × ((List (Int)) × Unit)))) → Option (((Int) × ((Int) × ((List (Int)) × Unit))) ⊕ Unit)
  | 0, _ => none
  | n + 1, (q0, (q1, (q2, (q3, ())))) =>
    bif Decidable.decide (q2 < (↑(List.length q3) : Int)) then
     bif Decidable.decide (0 ≤ q2) && Decidable.decide (q2 < (↑(List.length q3) : Int)) then
      R.L_laws_markIntS_0 K n (Go.IntKind.wrap Go.IntKind.i64 (q0 + 1), q1, Go.IntKind.wrap Go.IntKind.i64 (q2 + 1), List.set q3 (Int.toNat q2) q0, ())
     else
      none
    else
     some (Sum.inl (q0, q1, q3, ()))

noncomputable def R.laws_markIntS (K : Nat) (p0 : List (Int)) (p1 : Int) : Option (((Int) × Unit) × ((List (Int)) × Unit)) :=
  obind (R.L_laws_markIntS_0 K K (p1, 0, 0, p0, ())) fun v2 =>
   (match v2 with
   | .inl v3 =>
    some (((Prod.fst v3, ()), Prod.fst (Prod.snd (Prod.snd v3)), ()))
   | .inr v3 =>
    none
   )

noncomputable def R.L_laws_markText_0 (K : Nat) : Nat → ((Int) × ((List UInt8) × ((List UInt8) × Unit))) → Option (((List UInt8) × ((List UInt8) × Unit)) ⊕ Unit)
  | 0, _ => none
  | n + 1, (q0, (q1, (q2, ()))) =>
    bif Decidable.decide (q0 > 0) then
     bif Nat.ble (List.length (Fw.bytesOut [Go.IntKind.wrap Go.IntKind.u8 (Go.IntKind.wrap Go.IntKind.i64 (48 + Int.tmod q0 10))]) + List.length q2) 268435456 then
      R.L_laws_markText_0 K n (Go.IntKind.wrap Go.IntKind.i64 (Int.tdiv q0 10), q1, Fw.bytesOut [Go.IntKind.wrap Go.IntKind.u8 (Go.IntKind.wrap Go.IntKind.i64 (48 + Int.tmod q0 10))] ++ q2, ())
     else
      none
    else
     some (Sum.inl (q1, q2, ()))

noncomputable def R.laws_markText (K : Nat) (p0 : Int) : Option (((List UInt8) × Unit) × Unit) :=
  bif Decidable.decide (p0 ≤ 0) then
   some (((Array.toList (ByteArray.data (ByteArray.mk #[109, 48])), ()), ()))
  else
   obind (R.L_laws_markText_0 K K (p0, Array.toList (ByteArray.data (ByteArray.mk #[])), Array.toList (ByteArray.data (ByteArray.mk #[])), ())) fun v3 =>
    (match v3 with
    | .inl v4 =>
     bif Nat.ble (List.length (Array.toList (ByteArray.data (ByteArray.mk #[109]))) + List.length (Prod.fst (Prod.snd v4))) 268435456 then
      some (((Array.toList (ByteArray.data (ByteArray.mk #[109])) ++ Prod.fst (Prod.snd v4), ()), ()))
     else
      none
    | .inr v4 =>
     none
    )

noncomputable def R.L_laws_markEntryS_0 (K : Nat) : Nat → ((Int) × ((Int) × ((Int) × ((List ((List UInt8) × (Int))) × Unit)))) → Option (((Int) × ((Int) × ((List ((List UInt8) × (Int))) × Unit))) ⊕ Unit)
  | 0, _ => none
  | n + 1, (q0, (q1, (q2, (q3, ())))) =>
    bif Decidable.decide (q2 < (↑(List.length q3) : Int)) then
     obind (R.laws_markText K q0) fun v5 =>
      bif Decidable.decide (0 ≤ q2) && Decidable.decide (q2 < (↑(List.length q3) : Int)) then
       bif Decidable.decide (0 ≤ q2) && Decidable.decide (q2 < (↑(List.length (List.set q3 (Int.toNat q2) (Prod.fst (Prod.fst v5), Prod.snd (List.getD q3 (Int.toNat q2) ([], 0))))) : Int)) then
        R.L_laws_markEntryS_0 K n (Go.IntKind.wrap Go.IntKind.i64 (Go.IntKind.wrap Go.IntKind.i64 (q0 + 1) + 1), q1, Go.IntKind.wrap Go.IntKind.i64 (q2 + 1), List.set (List.set q3 (Int.toNat q2) (Prod.fst (Prod.fst v5), Prod.snd (List.getD q3 (Int.toNat q2) ([], 0)))) (Int.toNat q2) (Prod.fst (List.getD (List.set q3 (Int.toNat q2) (Prod.fst (Prod.fst v5), Prod.snd (List.getD q3 (Int.toNat q2) ([], 0)))) (Int.toNat q2) ([], 0)), Go.IntKind.wrap Go.IntKind.i64 (q0 + 1)), ())
       else
        none
      else
       none
    else
     some (Sum.inl (q0, q1, q3, ()))

noncomputable def R.laws_markEntryS (K : Nat) (p0 : List ((List UInt8) × (Int))) (p1 : Int) : Option (((Int) × Unit) × ((List ((List UInt8) × (Int))) × Unit)) :=
  obind (R.L_laws_markEntryS_0 K K (p1, 0, 0, p0, ())) fun v2 =>
   (match v2 with
   | .inl v3 =>
    some (((Prod.fst v3, ()), Prod.fst (Prod.snd (Prod.snd v3)), ()))
   | .inr v3 =>
    none
   )

noncomputable def R.L_laws_markCommitS_0 (K : Nat) : Nat → ((Int) × ((Int) × ((Int) × ((List ((List (Int)) × (List ((List UInt8) × (Int))))) × Unit)))) → Option (((Int) × ((Int) × ((List ((List (Int)) × (List ((List UInt8) × (Int))))) × Unit))) ⊕ Unit)
  | 0, _ => none
  | n + 1, (q0, (q1, (q2, (q3, ())))) =>
    bif Decidable.decide (q2 < (↑(List.length q3) : Int)) then
     bif Decidable.decide (0 ≤ q2) && Decidable.decide (q2 < (↑(List.length q3) : Int)) then
      obind (R.laws_markIntS K (Prod.fst (List.getD q3 (Int.toNat q2) ([], []))) q0) fun v6 =>
       bif Decidable.decide (0 ≤ q2) && Decidable.decide (q2 < (↑(List.length q3) : Int)) then
        bif Nat.beq (Int.toNat q2) (Int.toNat q2) then
         obind (R.laws_markEntryS K (Prod.snd (List.getD q3 (Int.toNat q2) ([], []))) (Prod.fst (Prod.fst v6))) fun v9 =>
          R.L_laws_markCommitS_0 K n (Prod.fst (Prod.fst v9), q1, Go.IntKind.wrap Go.IntKind.i64 (q2 + 1), List.set q3 (Int.toNat q2) (Prod.fst (Prod.snd v6), Prod.fst (Prod.snd v9)), ())
        else
         none
       else
        none
     else
      none
    else
     some (Sum.inl (q0, q1, q3, ()))

noncomputable def R.laws_markCommitS (K : Nat) (p0 : List ((List (Int)) × (List ((List UInt8) × (Int))))) (p1 : Int) : Option (((Int) × Unit) × ((List ((List (Int)) × (List ((List UInt8) × (Int))))) × Unit)) :=
  obind (R.L_laws_markCommitS_0 K K (p1, 0, 0, p0, ())) fun v2 =>
   (match v2 with
   | .inl v3 =>
    some (((Prod.fst v3, ()), Prod.fst (Prod.snd (Prod.snd v3)), ()))
   | .inr v3 =>
    none
   )

noncomputable def R.L_laws_markRefS_0 (K : Nat) : Nat → ((Int) × ((Int) × ((Int) × ((List ((List UInt8) × ((Int) × ((Int) × (Bool))))) × Unit)))) → Option (((Int) × ((Int) × ((List ((List UInt8) × ((Int) × ((Int) × (Bool))))) × Unit))) ⊕ Unit)
  | 0, _ => none
  | n + 1, (q0, (q1, (q2, (q3, ())))) =>
    bif Decidable.decide (q2 < (↑(List.length q3) : Int)) then
     obind (R.laws_markText K q0) fun v5 =>
      bif Decidable.decide (0 ≤ q2) && Decidable.decide (q2 < (↑(List.length q3) : Int)) then
       bif Decidable.decide (0 ≤ q2) && Decidable.decide (q2 < (↑(List.length (List.set q3 (Int.toNat q2) (Prod.fst (Prod.fst v5), Prod.snd (List.getD q3 (Int.toNat q2) ([], 0, 0, Bool.false))))) : Int)) then
        bif Decidable.decide (0 ≤ q2) && Decidable.decide (q2 < (↑(List.length (List.set (List.set q3 (Int.toNat q2) (Prod.fst (Prod.fst v5), Prod.snd (List.getD q3 (Int.toNat q2) ([], 0, 0, Bool.false)))) (Int.toNat q2) (Prod.fst (List.getD (List.set q3 (Int.toNat q2) (Prod.fst (Prod.fst v5), Prod.snd (List.getD q3 (Int.toNat q2) ([], 0, 0, Bool.false)))) (Int.toNat q2) ([], 0, 0, Bool.false)), Go.IntKind.wrap Go.IntKind.i64 (q0 + 1), Prod.snd (Prod.snd (List.getD (List.set q3 (Int.toNat q2) (Prod.fst (Prod.fst v5), Prod.snd (List.getD q3 (Int.toNat q2) ([], 0, 0, Bool.false)))) (Int.toNat q2) ([], 0, 0, Bool.false)))))) : Int)) then
         bif Decidable.decide (0 ≤ q2) && Decidable.decide (q2 < (↑(List.length (List.set (List.set (List.set q3 (Int.toNat q2) (Prod.fst (Prod.fst v5), Prod.snd (List.getD q3 (Int.toNat q2) ([], 0, 0, Bool.false)))) (Int.toNat q2) (Prod.fst (List.getD (List.set q3 (Int.toNat q2) (Prod.fst (Prod.fst v5), Prod.snd (List.getD q3 (Int.toNat q2) ([], 0, 0, Bool.false)))) (Int.toNat q2) ([], 0, 0, Bool.false)), Go.IntKind.wrap Go.IntKind.i64 (q0 + 1), Prod.snd (Prod.snd (List.getD (List.set q3 (Int.toNat q2) (Prod.fst (Prod.fst v5), Prod.snd (List.getD q3 (Int.toNat q2) ([], 0, 0, Bool.false)))) (Int.toNat q2) ([], 0, 0, Bool.false))))) (Int.toNat q2) (Prod.fst (List.getD (List.set (List.set q3 (Int.toNat q2) (Prod.fst (Prod.fst v5), Prod.snd (List.getD q3 (Int.toNat q2) ([], 0, 0, Bool.false)))) (Int.toNat q2) (Prod.fst (List.getD (List.set q3 (Int.toNat q2) (Prod.fst (Prod.fst v5), Prod.snd (List.getD q3 (Int.toNat q2) ([], 0, 0, Bool.false)))) (Int.toNat q2) ([], 0, 0, Bool.false)), Go.IntKind.wrap Go.IntKind.i64 (q0 + 1), Prod.snd (Prod.snd (List.getD (List.set q3 (Int.toNat q2) (Prod.fst (Prod.fst v5), Prod.snd (List.getD q3 (Int.toNat q2) ([], 0, 0, Bool.false)))) (Int.toNat q2) ([], 0, 0, Bool.false))))) (Int.toNat q2) ([], 0, 0, Bool.false)), Prod.fst (Prod.snd (List.getD (List.set (List.set q3 (Int.toNat q2) (Prod.fst (Prod.fst v5), Prod.snd (List.getD q3 (Int.toNat q2) ([], 0, 0, Bool.false)))) (Int.toNat q2) (Prod.fst (List.getD (List.set q3 (Int.toNat q2) (Prod.fst (Prod.fst v5), Prod.snd (List.getD q3 (Int.toNat q2) ([], 0, 0, Bool.false)))) (Int.toNat q2) ([], 0, 0, Bool.false)), Go.IntKind.wrap Go.IntKind.i64 (q0 + 1), Prod.snd (Prod.snd (List.getD (List.set q3 (Int.toNat q2) (Prod.fst (Prod.fst v5), Prod.snd (List.getD q3 (Int.toNat q2) ([], 0, 0, Bool.false)))) (Int.toNat q2) ([], 0, 0, Bool.false))))) (Int.toNat q2) ([], 0, 0, Bool.false))), Go.IntKind.wrap Go.IntKind.i64 (Go.IntKind.wrap Go.IntKind.i64 (q0 + 1) + 1), Prod.snd (Prod.snd (Prod.snd (List.getD (List.set (List.set q3 (Int.toNat q2) (Prod.fst (Prod.fst v5), Prod.snd (List.getD q3 (Int.toNat q2) ([], 0, 0, Bool.false)))) (Int.toNat q2) (Prod.fst (List.getD (List.set q3 (Int.toNat q2) (Prod.fst (Prod.fst v5), Prod.snd (List.getD q3 (Int.toNat q2) ([], 0, 0, Bool.false)))) (Int.toNat q2) ([], 0, 0, Bool.false)), Go.IntKind.wrap Go.IntKind.i64 (q0 + 1), Prod.snd (Prod.snd (List.getD (List.set q3 (Int.toNat q2) (Prod.fst (Prod.fst v5), Prod.snd (List.getD q3 (Int.toNat q2) ([], 0, 0, Bool.false)))) (Int.toNat q2) ([], 0, 0, Bool.false))))) (Int.toNat q2) ([], 0, 0, Bool.false))))))) : Int)) then
          R.L_laws_markRefS_0 K n (Go.IntKind.wrap Go.IntKind.i64 (Go.IntKind.wrap Go.IntKind.i64 (Go.IntKind.wrap Go.IntKind.i64 (Go.IntKind.wrap Go.IntKind.i64 (q0 + 1) + 1) + 1) + 1), q1, Go.IntKind.wrap Go.IntKind.i64 (q2 + 1), List.set (List.set (List.set (List.set q3 (Int.toNat q2) (Prod.fst (Prod.fst v5), Prod.snd (List.getD q3 (Int.toNat q2) ([], 0, 0, Bool.false)))) (Int.toNat q2) (Prod.fst (List.getD (List.set q3 (Int.toNat q2) (Prod.fst (Prod.fst v5), Prod.snd (List.getD q3 (Int.toNat q2) ([], 0, 0, Bool.false)))) (Int.toNat q2) ([], 0, 0, Bool.false)), Go.IntKind.wrap Go.IntKind.i64 (q0 + 1), Prod.snd (Prod.snd (List.getD (List.set q3 (Int.toNat q2) (Prod.fst (Prod.fst v5), Prod.snd (List.getD q3 (Int.toNat q2) ([], 0, 0, Bool.false)))) (Int.toNat q2) ([], 0, 0, Bool.false))))) (Int.toNat q2) (Prod.fst (List.getD (List.set (List.set q3 (Int.toNat q2) (Prod.fst (Prod.fst v5), Prod.snd (List.getD q3 (Int.toNat q2) ([], 0, 0, Bool.false)))) (Int.toNat q2) (Prod.fst (List.getD (List.set q3 (Int.toNat q2) (Prod.fst (Prod.fst v5), Prod.snd (List.getD q3 (Int.toNat q2) ([], 0, 0, Bool.false)))) (Int.toNat q2) ([], 0, 0, Bool.false)), Go.IntKind.wrap Go.IntKind.i64 (q0 + 1), Prod.snd (Prod.snd (List.getD (List.set q3 (Int.toNat q2) (Prod.fst (Prod.fst v5), Prod.snd (List.getD q3 (Int.toNat q2) ([], 0, 0, Bool.false)))) (Int.toNat q2) ([], 0, 0, Bool.false))))) (Int.toNat q2) ([], 0, 0, Bool.false)), Prod.fst (Prod.snd (List.getD (List.set (List.set q3 (Int.toNat q2) (Prod.fst (Prod.fst v5), Prod.snd (List.getD q3 (Int.toNat q2) ([], 0, 0, Bool.false)))) (Int.toNat q2) (Prod.fst (List.getD (List.set q3 (Int.toNat q2) (Prod.fst (Prod.fst v5), Prod.snd (List.getD q3 (Int.toNat q2) ([], 0, 0, Bool.false)))) (Int.toNat q2) ([], 0, 0, Bool.false)), Go.IntKind.wrap Go.IntKind.i64 (q0 + 1), Prod.snd (Prod.snd (List.getD (List.set q3 (Int.toNat q2) (Prod.fst (Prod.fst v5), Prod.snd (List.getD q3 (Int.toNat q2) ([], 0, 0, Bool.false)))) (Int.toNat q2) ([], 0, 0, Bool.false))))) (Int.toNat q2) ([], 0, 0, Bool.false))), Go.IntKind.wrap Go.IntKind.i64 (Go.IntKind.wrap Go.IntKind.i64 (q0 + 1) + 1), Prod.snd (Prod.snd (Prod.snd (List.getD (List.set (List.set q3 (Int.toNat q2) (Prod.fst (Prod.fst v5), Prod.snd (List.getD q3 (Int.toNat q2) ([], 0, 0, Bool.false)))) (Int.toNat q2) (Prod.fst (List.getD (List.set q3 (Int.toNat q2) (Prod.fst (Prod.fst v5), Prod.snd (List.getD q3 (Int.toNat q2) ([], 0, 0, Bool.false)))) (Int.toNat q2) ([], 0, 0, Bool.false)), Go.IntKind.wrap Go.IntKind.i64 (q0 + 1), Prod.snd (Prod.snd (List.getD (List.set q3 (Int.toNat q2) (Prod.fst (Prod.fst v5), Prod.snd (List.getD q3 (Int.toNat q2) ([], 0, 0, Bool.false)))) (Int.toNat q2) ([], 0, 0, Bool.false))))) (Int.toNat q2) ([], 0, 0, Bool.false)))))) (Int.toNat q2) (Prod.fst (List.getD (List.set (List.set (List.set q3 (Int.toNat q2) (Prod.fst (Prod.fst v5), Prod.snd (List.getD q3 (Int.toNat q2) ([], 0, 0, Bool.false)))) (Int.toNat q2) (Prod.fst (List.getD (List.set q3 (Int.toNat q2) (Prod.fst (Prod.fst v5), Prod.snd (List.getD q3 (Int.toNat q2) ([], 0, 0, Bool.false)))) (Int.toNat q2) ([], 0, 0, Bool.false)), Go.IntKind.wrap Go.IntKind.i64 (q0 + 1), Prod.snd (Prod.snd (List.getD (List.set q3 (Int.toNat q2) (Prod.fst (Prod.fst v5), Prod.snd (List.getD q3 (Int.toNat q2) ([], 0, 0, Bool.false)))) (Int.toNat q2) ([], 0, 0, Bool.false))))) (Int.toNat q2) (Prod.fst (List.getD (List.set (List.set q3 (Int.toNat q2) (Prod.fst (Prod.fst v5), Prod.snd (List.getD q3 (Int.toNat q2) ([], 0, 0, Bool.false)))) (Int.toNat q2) (Prod.fst (List.getD (List.set q3 (Int.toNat q2) (Prod.fst (Prod.fst v5), Prod.snd (List.getD q3 (Int.toNat q2) ([], 0, 0, Bool.false)))) (Int.toNat q2) ([], 0, 0, Bool.false)), Go.IntKind.wrap Go.IntKind.i64 (q0 + 1), Prod.snd (Prod.snd (List.getD (List.set q3 (Int.toNat q2) (Prod.fst (Prod.fst v5), Prod.snd (List.getD q3 (Int.toNat q2) ([], 0, 0, Bool.false)))) (Int.toNat q2) ([], 0, 0, Bool.false))))) (Int.toNat q2) ([], 0, 0, Bool.false)), Prod.fst (Prod.snd (List.getD (List.set (List.set q3 (Int.toNat q2) (Prod.fst (Prod.fst v5), Prod.snd (List.getD q3 (Int.toNat q2) ([], 0, 0, Bool.false)))) (Int.toNat q2) (Prod.fst (List.getD (List.set q3 (Int.toNat q2) (Prod.fst (Prod.fst v5), Prod.snd (List.getD q3 (Int.toNat q2) ([], 0, 0, Bool.false)))) (Int.toNat q2) ([], 0, 0, Bool.false)), Go.IntKind.wrap Go.IntKind.i64 (q0 + 1), Prod.snd (Prod.snd (List.getD (List.set q3 (Int.toNat q2) (Prod.fst (Prod.fst v5), Prod.snd (List.getD q3 (Int.toNat q2) ([], 0, 0, Bool.false)))) (Int.toNat q2) ([], 0, 0, Bool.false))))) (Int.toNat q2) ([], 0, 0, Bool.false))), Go.IntKind.wrap Go.IntKind.i64 (Go.IntKind.wrap Go.IntKind.i64 (q0 + 1) + 1), Prod.snd (Prod.snd (Prod.snd (List.getD (List.set (List.set q3 (Int.toNat q2) (Prod.fst (Prod.fst v5), Prod.snd (List.getD q3 (Int.toNat q2) ([], 0, 0, Bool.false)))) (Int.toNat q2) (Prod.fst (List.getD (List.set q3 (Int.toNat q2) (Prod.fst (Prod.fst v5), Prod.snd (List.getD q3 (Int.toNat q2) ([], 0, 0, Bool.false)))) (Int.toNat q2) ([], 0, 0, Bool.false)), Go.IntKind.wrap Go.IntKind.i64 (q0 + 1), Prod.snd (Prod.snd (List.getD (List.set q3 (Int.toNat q2) (Prod.fst (Prod.fst v5), Prod.snd (List.getD q3 (Int.toNat q2) ([], 0, 0, Bool.false)))) (Int.toNat q2) ([], 0, 0, Bool.false))))) (Int.toNat q2) ([], 0, 0, Bool.false)))))) (Int.toNat q2) ([], 0, 0, Bool.false)), Prod.fst (Prod.snd (List.getD (List.set (List.set (List.set q3 (Int.toNat q2) (Prod.fst (Prod.fst v5), Prod.snd (List.getD q3 (Int.toNat q2) ([], 0, 0, Bool.false)))) (Int.toNat q2) (Prod.fst (List.getD (List.set q3 (Int.toNat q2) (Prod.fst (Prod.fst v5), Prod.snd (List.getD q3 (Int.toNat q2) ([], 0, 0, Bool.false)))) (Int.toNat q2) ([], 0, 0, Bool.false)), Go.IntKind.wrap Go.IntKind.i64 (q0 + 1), Prod.snd (Prod.snd (List.getD (List.set q3 (Int.toNat q2) (Prod.fst (Prod.fst v5), Prod.snd (List.getD q3 (Int.toNat q2) ([], 0, 0, Bool.false)))) (Int.toNat q2) ([], 0, 0, Bool.false))))) (Int.toNat q2) (Prod.fst (List.getD (List.set (List.set q3 (Int.toNat q2) (Prod.fst (Prod.fst v5), Prod.snd (List.getD q3 (Int.toNat q2) ([], 0, 0, Bool.false)))) (Int.toNat q2) (Prod.fst (List.getD (List.set q3 (Int.toNat q2) (Prod.fst (Prod.fst v5), Prod.snd (List.getD q3 (Int.toNat q2) ([], 0, 0, Bool.false)))) (Int.toNat q2) ([], 0, 0, Bool.false)), Go.IntKind.wrap Go.IntKind.i64 (q0 + 1), Prod.snd (Prod.snd (List.getD (List.set q3 (Int.toNat q2) (Prod.fst (Prod.fst v5), Prod.snd (List.getD q3 (Int.toNat q2) ([], 0, 0, Bool.false)))) (Int.toNat q2) ([], 0, 0, Bool.false))))) (Int.toNat q2) ([], 0, 0, Bool.false)), Prod.fst (Prod.snd (List.getD (List.set (List.set q3 (Int.toNat q2) (Prod.fst (Prod.fst v5), Prod.snd (List.getD q3 (Int.toNat q2) ([], 0, 0, Bool.false)))) (Int.toNat q2) (Prod.fst (List.getD (List.set q3 (Int.toNat q2) (Prod.fst (Prod.fst v5), Prod.snd (List.getD q3 (Int.toNat q2) ([], 0, 0, Bool.false)))) (Int.toNat q2) ([], 0, 0, Bool.false)), Go.IntKind.wrap Go.IntKind.i64 (q0 + 1), Prod.snd (Prod.snd (List.getD (List.set q3 (Int.toNat q2) (Prod.fst (Prod.fst v5), Prod.snd (List.getD q3 (Int.toNat q2) ([], 0, 0, Bool.false)))) (Int.toNat q2) ([], 0, 0, Bool.false))))) (Int.toNat q2) ([], 0, 0, Bool.false))), Go.IntKind.wrap Go.IntKind.i64 (Go.IntKind.wrap Go.IntKind.i64 (q0 + 1) + 1), Prod.snd (Prod.snd (Prod.snd (List.getD (List.set (List.set q3 (Int.toNat q2) (Prod.fst (Prod.fst v5), Prod.snd (List.getD q3 (Int.toNat q2) ([], 0, 0, Bool.false)))) (Int.toNat q2) (Prod.fst (List.getD (List.set q3 (Int.toNat q2) (Prod.fst (Prod.fst v5), Prod.snd (List.getD q3 (Int.toNat q2) ([], 0, 0, Bool.false)))) (Int.toNat q2) ([], 0, 0, Bool.false)), Go.IntKind.wrap Go.IntKind.i64 (q0 + 1), Prod.snd (Prod.snd (List.getD (List.set q3 (Int.toNat q2) (Prod.fst (Prod.fst v5), Prod.snd (List.getD q3 (Int.toNat q2) ([], 0, 0, Bool.false)))) (Int.toNat q2) ([], 0, 0, Bool.false))))) (Int.toNat q2) ([], 0, 0, Bool.false)))))) (Int.toNat q2) ([], 0, 0, Bool.false))), Prod.fst (Prod.snd (Prod.snd (List.getD (List.set (List.set (List.set q3 (Int.toNat q2) (Prod.fst (Prod.fst v5), Prod.snd (List.getD q3 (Int.toNat q2) ([], 0, 0, Bool.false)))) (Int.toNat q2) (Prod.fst (List.getD (List.set q3 (Int.toNat q2) (Prod.fst (Prod.fst v5), Prod.snd (List.getD q3 (Int.toNat q2) ([], 0, 0, Bool.false)))) (Int.toNat q2) ([], 0, 0, Bool.false)), Go.IntKind.wrap Go.IntKind.i64 (q0 + 1), Prod.snd (Prod.snd (List.getD (List.set q3 (Int.toNat q2) (Prod.fst (Prod.fst v5), Prod.snd (List.getD q3 (Int.toNat q2) ([], 0, 0, Bool.false)))) (Int.toNat q2) ([], 0, 0, Bool.false))))) (Int.toNat q2) (Prod.fst (List.getD (List.set (List.set q3 (Int.toNat q2) (Prod.fst (Prod.fst v5), Prod.snd (List.getD q3 (Int.toNat q2) ([], 0, 0, Bool.false)))) (Int.toNat q2) (Prod.fst (List.getD (List.set q3 (Int.toNat q2) (Prod.fst (Prod.fst v5), Prod.snd (List.getD q3 (Int.toNat q2) ([], 0, 0, Bool.false)))) (Int.toNat q2) ([], 0, 0, Bool.false)), Go.IntKind.wrap Go.IntKind.i64 (q0 + 1), Prod.snd (Prod.snd (List.getD (List.set q3 (Int.toNat q2) (Prod.fst (Prod.fst v5), Prod.snd (List.getD q3 (Int.toNat q2) ([], 0, 0, Bool.false)))) (Int.toNat q2) ([], 0, 0, Bool.false))))) (Int.toNat q2) ([], 0, 0, Bool.false)), Prod.fst (Prod.snd (List.getD (List.set (List.set q3 (Int.toNat q2) (Prod.fst (Prod.fst v5), Prod.snd (List.getD q3 (Int.toNat q2) ([], 0, 0, Bool.false)))) (Int.toNat q2) (Prod.fst (List.getD (List.set q3 (Int.toNat q2) (Prod.fst (Prod.fst v5), Prod.snd (List.getD q3 (Int.toNat q2) ([], 0, 0, Bool.false)))) (Int.toNat q2) ([], 0, 0, Bool.false)), Go.IntKind.wrap Go.IntKind.i64 (q0 + 1), Prod.snd (Prod.snd (List.getD (List.set q3 (Int.toNat q2) (Prod.fst (Prod.fst v5), Prod.snd (List.getD q3 (Int.toNat q2) ([], 0, 0, Bool.false)))) (Int.toNat q2) ([], 0, 0, Bool.false))))) (Int.toNat q2) ([], 0, 0, Bool.false))), Go.IntKind.wrap Go.IntKind.i64 (Go.IntKind.wrap Go.IntKind.i64 (q0 + 1) + 1), Prod.snd (Prod.snd (Prod.snd (List.getD (List.set (List.set q3 (Int.toNat q2) (Prod.fst (Prod.fst v5), Prod.snd (List.getD q3 (Int.toNat q2) ([], 0, 0, Bool.false)))) (Int.toNat q2) (Prod.fst (List.getD (List.set q3 (Int.toNat q2) (Prod.fst (Prod.fst v5), Prod.snd (List.getD q3 (Int.toNat q2) ([], 0, 0, Bool.false)))) (Int.toNat q2) ([], 0, 0, Bool.false)), Go.IntKind.wrap Go.IntKind.i64 (q0 + 1), Prod.snd (Prod.snd (List.getD (List.set q3 (Int.toNat q2) (Prod.fst (Prod.fst v5), Prod.snd (List.getD q3 (Int.toNat q2) ([], 0, 0, Bool.false)))) (Int.toNat q2) ([], 0, 0, Bool.false))))) (Int.toNat q2) ([], 0, 0, Bool.false)))))) (Int.toNat q2) ([], 0, 0, Bool.false)))), Int.tmod (Go.IntKind.wrap Go.IntKind.i64 (Go.IntKind.wrap Go.IntKind.i64 (Go.IntKind.wrap Go.IntKind.i64 (q0 + 1) + 1) + 1)) 3 == 0), ())
         else
          none
        else
         none
       else
        none
      else
       none
    else
     some (Sum.inl (q0, q1, q3, ()))

noncomputable def R.laws_markRefS (K : Nat) (p0 : List ((List UInt8) × ((Int) × ((Int) × (Bool))))) (p1 : Int) : Option (((Int) × Unit) × ((List ((List UInt8) × ((Int) × ((Int) × (Bool))))) × Unit)) :=
  obind (R.L_laws_markRefS_0 K K (p1, 0, 0, p0, ())) fun v2 =>
   (match v2 with
   | .inl v3 =>
    some (((Prod.fst v3, ()), Prod.fst (Prod.snd (Prod.snd v3)), ()))
   | .inr v3 =>
    none
   )

noncomputable def R.laws_markBase (K : Nat) (p0 : (List ((List (Int)) × (List ((List UInt8) × (Int))))) × (List ((List UInt8) × ((Int) × ((Int) × (Bool)))))) (p1 : Int) : Option (((Int) × Unit) × (((List ((List (Int)) × (List ((List UInt8) × (Int))))) × (List ((List UInt8) × ((Int) × ((Int) × (Bool)))))) × Unit)) :=
  obind (R.laws_markCommitS K (Prod.fst p0) p1) fun v2 =>
   obind (R.laws_markRefS K (Prod.snd p0) (Prod.fst (Prod.fst v2))) fun v3 =>
    some (((Prod.fst (Prod.fst v3), ()), (Prod.fst (Prod.snd v2), Prod.fst (Prod.snd v3)), ()))

noncomputable def R.L_laws_heldIntS_0 (K : Nat) : Nat → ((List (Int)) × ((Int) × ((Int) × ((Int) × Unit)))) → Option (((Int) × ((Int) × Unit)) ⊕ ((Int) × Unit))
  | 0, _ => none
  | n + 1, (q0, (q1, (q2, (q3, ())))) =>
    bif Decidable.decide (q3 < (↑(List.length q0) : Int)) then
     bif Decidable.decide (0 ≤ q3) && Decidable.decide (q3 < (↑(List.length q0) : Int)) then
      bif List.getD q0 (Int.toNat q3) 0 != q1 then
       some (Sum.inr (-1, ()))
      else
       R.L_laws_heldIntS_0 K n (q0, Go.IntKind.wrap Go.IntKind.i64 (q1 + 1), q2, Go.IntKind.wrap Go.IntKind.i64 (q3 + 1), ())
     else
      none
    else
     some (Sum.inl (q1, q2, ()))

noncomputable def R.laws_heldIntS (K : Nat) (p0 : List (Int)) (p1 : Int) : Option (((Int) × Unit) × Unit) :=
  obind (R.L_laws_heldIntS_0 K K (p0, p1, 0, 0, ())) fun v2 =>
   (match v2 with
   | .inl v3 =>
    some (((Prod.fst v3, ()), ()))
   | .inr v3 =>
    some (((Prod.fst v3, ()), ()))
   )

noncomputable def R.L_laws_heldEntryS_0 (K : Nat) : Nat → ((List ((List UInt8) × (Int))) × ((Int) × ((Int) × ((Int) × Unit)))) → Option (((Int) × ((Int) × Unit)) ⊕ ((Int) × Unit))
  | 0, _ => none
  | n + 1, (q0, (q1, (q2, (q3, ())))) =>
    bif Decidable.decide (q3 < (↑(List.length q0) : Int)) then
     bif Decidable.decide (0 ≤ q3) && Decidable.decide (q3 < (↑(List.length q0) : Int)) then
      obind (R.laws_markText K q1) fun v6 =>
       bif !Prod.fst (List.getD q0 (Int.toNat q3) ([], 0)) == Prod.fst (Prod.fst v6) then
        some (Sum.inr (-1, ()))
       else
        bif Decidable.decide (0 ≤ q3) && Decidable.decide (q3 < (↑(List.length q0) : Int)) then
         bif Prod.snd (List.getD q0 (Int.toNat q3) ([], 0)) != Go.IntKind.wrap Go.IntKind.i64 (q1 + 1) then
          some (Sum.inr (-1, ()))
         else
          R.L_laws_heldEntryS_0 K n (q0, Go.IntKind.wrap Go.IntKind.i64 (Go.IntKind.wrap Go.IntKind.i64 (q1 + 1) + 1), q2, Go.IntKind.wrap Go.IntKind.i64 (q3 + 1), ())
        else
         none
     else
      none
    else
     some (Sum.inl (q1, q2, ()))

noncomputable def R.laws_heldEntryS (K : Nat) (p0 : List ((List UInt8) × (Int))) (p1 : Int) : Option (((Int) × Unit) × Unit) :=
  obind (R.L_laws_heldEntryS_0 K K (p0, p1, 0, 0, ())) fun v2 =>
   (match v2 with
   | .inl v3 =>
    some (((Prod.fst v3, ()), ()))
   | .inr v3 =>
    some (((Prod.fst v3, ()), ()))
   )

noncomputable def R.L_laws_heldCommitS_0 (K : Nat) : Nat → ((List ((List (Int)) × (List ((List UInt8) × (Int))))) × ((Int) × ((Int) × ((Int) × Unit)))) → Option (((Int) × ((Int) × Unit)) ⊕ ((Int) × Unit))
  | 0, _ => none
  | n + 1, (q0, (q1, (q2, (q3, ())))) =>
    bif Decidable.decide (q3 < (↑(List.length q0) : Int)) then
     bif Decidable.decide (0 ≤ q3) && Decidable.decide (q3 < (↑(List.length q0) : Int)) then
      obind (R.laws_heldIntS K (Prod.fst (List.getD q0 (Int.toNat q3) ([], []))) q1) fun v6 =>
       bif Decidable.decide (Prod.fst (Prod.fst v6) < 0) then
        some (Sum.inr (-1, ()))
       else
        bif Decidable.decide (0 ≤ q3) && Decidable.decide (q3 < (↑(List.length q0) : Int)) then
         obind (R.laws_heldEntryS K (Prod.snd (List.getD q0 (Int.toNat q3) ([], []))) (Prod.fst (Prod.fst v6))) fun v9 =>
          bif Decidable.decide (Prod.fst (Prod.fst v9) < 0) then
           some (Sum.inr (-1, ()))
          else
           R.L_laws_heldCommitS_0 K n (q0, Prod.fst (Prod.fst v9), q2, Go.IntKind.wrap Go.IntKind.i64 (q3 + 1), ())
        else
         none
     else
      none
    else
     some (Sum.inl (q1, q2, ()))

noncomputable def R.laws_heldCommitS (K : Nat) (p0 : List ((List (Int)) × (List ((List UInt8) × (Int))))) (p1 : Int) : Option (((Int) × Unit) × Unit) :=
  obind (R.L_laws_heldCommitS_0 K K (p0, p1, 0, 0, ())) fun v2 =>
   (match v2 with
   | .inl v3 =>
    some (((Prod.fst v3, ()), ()))
   | .inr v3 =>
    some (((Prod.fst v3, ()), ()))
   )

noncomputable def R.L_laws_heldRefS_0 (K : Nat) : Nat → ((List ((List UInt8) × ((Int) × ((Int) × (Bool))))) × ((Int) × ((Int) × ((Int) × Unit)))) → Option (((Int) × ((Int) × Unit)) ⊕ ((Int) × Unit))
  | 0, _ => none
  | n + 1, (q0, (q1, (q2, (q3, ())))) =>
    bif Decidable.decide (q3 < (↑(List.length q0) : Int)) then
     bif Decidable.decide (0 ≤ q3) && Decidable.decide (q3 < (↑(List.length q0) : Int)) then
      obind (R.laws_markText K q1) fun v6 =>
       bif !Prod.fst (List.getD q0 (Int.toNat q3) ([], 0, 0, Bool.false)) == Prod.fst (Prod.fst v6) then
        some (Sum.inr (-1, ()))
       else
        bif Decidable.decide (0 ≤ q3) && Decidable.decide (q3 < (↑(List.length q0) : Int)) then
         bif Prod.fst (Prod.snd (List.getD q0 (Int.toNat q3) ([], 0, 0, Bool.false))) != Go.IntKind.wrap Go.IntKind.i64 (q1 + 1) then
          some (Sum.inr (-1, ()))
         else
          bif Decidable.decide (0 ≤ q3) && Decidable.decide (q3 < (↑(List.length q0) : Int)) then
           bif Prod.fst (Prod.snd (Prod.snd (List.getD q0 (Int.toNat q3) ([], 0, 0, Bool.false)))) != Go.IntKind.wrap Go.IntKind.i64 (Go.IntKind.wrap Go.IntKind.i64 (q1 + 1) + 1) then
            some (Sum.inr (-1, ()))
           else
            bif Decidable.decide (0 ≤ q3) && Decidable.decide (q3 < (↑(List.length q0) : Int)) then
             bif !Prod.snd (Prod.snd (Prod.snd (List.getD q0 (Int.toNat q3) ([], 0, 0, Bool.false)))) == (Int.tmod (Go.IntKind.wrap Go.IntKind.i64 (Go.IntKind.wrap Go.IntKind.i64 (Go.IntKind.wrap Go.IntKind.i64 (q1 + 1) + 1) + 1)) 3 == 0) then
              some (Sum.inr (-1, ()))
             else
              R.L_laws_heldRefS_0 K n (q0, Go.IntKind.wrap Go.IntKind.i64 (Go.IntKind.wrap Go.IntKind.i64 (Go.IntKind.wrap Go.IntKind.i64 (Go.IntKind.wrap Go.IntKind.i64 (q1 + 1) + 1) + 1) + 1), q2, Go.IntKind.wrap Go.IntKind.i64 (q3 + 1), ())
            else
             none
          else
           none
        else
         none
     else
      none
    else
     some (Sum.inl (q1, q2, ()))

noncomputable def R.laws_heldRefS (K : Nat) (p0 : List ((List UInt8) × ((Int) × ((Int) × (Bool))))) (p1 : Int) : Option (((Int) × Unit) × Unit) :=
  obind (R.L_laws_heldRefS_0 K K (p0, p1, 0, 0, ())) fun v2 =>
   (match v2 with
   | .inl v3 =>
    some (((Prod.fst v3, ()), ()))
   | .inr v3 =>
    some (((Prod.fst v3, ()), ()))
   )

noncomputable def R.laws_heldBase (K : Nat) (p0 : (List ((List (Int)) × (List ((List UInt8) × (Int))))) × (List ((List UInt8) × ((Int) × ((Int) × (Bool)))))) (p1 : Int) : Option (((Int) × Unit) × Unit) :=
  obind (R.laws_heldCommitS K (Prod.fst p0) p1) fun v2 =>
   bif Decidable.decide (Prod.fst (Prod.fst v2) < 0) then
    some (((-1, ()), ()))
   else
    obind (R.laws_heldRefS K (Prod.snd p0) (Prod.fst (Prod.fst v2))) fun v4 =>
     bif Decidable.decide (Prod.fst (Prod.fst v4) < 0) then
      some (((-1, ()), ()))
     else
      some (((Prod.fst (Prod.fst v4), ()), ()))

noncomputable def R.laws_FnExactDecodeBase (K : Nat) (p0 : List UInt8) : Option (((Bool) × Unit) × Unit) :=
  bif Decidable.decide ((↑(List.length p0) : Int) > 1048576) then
   some (((Bool.true, ()), ()))
  else
   obind (R.spec_DecodeBase K p0) fun v3 =>
    obind (R.impl_DecodeBase K p0) fun v4 =>
     obind (R.laws_eqBase K (Prod.fst (Prod.fst v4)) (Prod.fst (Prod.fst v3))) fun v5 =>
      bif !Prod.fst (Prod.fst v5) then
       some (((Bool.false, ()), ()))
      else
       bif Prod.fst (Prod.snd (Prod.fst v4)) != Prod.fst (Prod.snd (Prod.fst v3)) then
        some (((Bool.false, ()), ()))
       else
        obind (R.laws_markBase K (Prod.fst (Prod.fst v4)) 1) fun v8 =>
         obind (R.laws_heldBase K (Prod.fst (Prod.snd v8)) 1) fun v9 =>
          bif Decidable.decide (Prod.fst (Prod.fst v9) < 0) then
           some (((Bool.false, ()), ()))
          else
           bif Prod.fst (Prod.fst v9) != Prod.fst (Prod.fst v8) then
            some (((Bool.false, ()), ()))
           else
            obind (R.impl_DecodeBase K p0) fun v12 =>
             obind (R.laws_eqBase K (Prod.fst (Prod.fst v12)) (Prod.fst (Prod.fst v3))) fun v13 =>
              bif !Prod.fst (Prod.fst v13) then
               some (((Bool.false, ()), ()))
              else
               bif Prod.fst (Prod.snd (Prod.fst v12)) != Prod.fst (Prod.snd (Prod.fst v3)) then
                some (((Bool.false, ()), ()))
               else
                obind (R.laws_heldBase K (Prod.fst (Prod.snd v8)) 1) fun v16 =>
                 bif Decidable.decide (Prod.fst (Prod.fst v16) < 0) then
                  some (((Bool.false, ()), ()))
                 else
                  bif Prod.fst (Prod.fst v16) != Prod.fst (Prod.fst v8) then
                   some (((Bool.false, ()), ()))
                  else
                   some (((Bool.true, ()), ()))

end Go.Proofs
