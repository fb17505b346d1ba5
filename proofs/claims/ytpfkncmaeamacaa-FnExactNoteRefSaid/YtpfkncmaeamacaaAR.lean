/- What the functions come to, printed by a program of the prover's own. -/
import Derived.Test.YtpfkncmaeamacaaFwZg
namespace Go.Proofs
open Go Fw
set_option maxRecDepth 100000
noncomputable def R.laws_szEventS (K : Nat) (p0 : List ((Int) × ((Int) × (Bool)))) (p1 : Int) : Option (((Int) × Unit) × Unit) :=
  bif Decidable.decide (Go.IntKind.wrap Go.IntKind.i64 (p1 - (↑(List.length p0) : Int)) < 0) then
   some (((-1, ()), ()))
  else
   some (((Go.IntKind.wrap Go.IntKind.i64 (p1 - (↑(List.length p0) : Int)), ()), ()))

noncomputable def R.laws_szWatch (K : Nat) (p0 : (List UInt8) × ((Int) × (List ((Int) × ((Int) × (Bool)))))) (p1 : Int) : Option (((Int) × Unit) × Unit) :=
  bif Decidable.decide (Go.IntKind.wrap Go.IntKind.i64 (p1 - (↑(List.length (Prod.fst p0)) : Int)) < 0) then
   some (((-1, ()), ()))
  else
   obind (R.laws_szEventS K (Prod.snd (Prod.snd p0)) (Go.IntKind.wrap Go.IntKind.i64 (p1 - (↑(List.length (Prod.fst p0)) : Int)))) fun v3 =>
    bif Decidable.decide (Prod.fst (Prod.fst v3) < 0) then
     some (((-1, ()), ()))
    else
     some (((Prod.fst (Prod.fst v3), ()), ()))

noncomputable def R.laws_szRef (K : Nat) (p0 : (List UInt8) × ((Int) × ((Int) × (Bool)))) (p1 : Int) : Option (((Int) × Unit) × Unit) :=
  bif Decidable.decide (Go.IntKind.wrap Go.IntKind.i64 (p1 - (↑(List.length (Prod.fst p0)) : Int)) < 0) then
   some (((-1, ()), ()))
  else
   some (((Go.IntKind.wrap Go.IntKind.i64 (p1 - (↑(List.length (Prod.fst p0)) : Int)), ()), ()))

noncomputable def R.laws_toEvent (K : Nat) (p0 : (Int) × ((Int) × (Bool))) : Option ((((Int) × ((Int) × (Bool))) × Unit) × Unit) :=
  some (((p0, ()), ()))

noncomputable def R.L_laws_toEventS_0 (K : Nat) : Nat → ((List ((Int) × ((Int) × (Bool)))) × ((Int) × ((List ((Int) × ((Int) × (Bool)))) × ((List ((Int) × ((Int) × (Bool)))) × Unit)))) → Option (((List ((Int) × ((Int) × (Bool)))) × ((List ((Int) × ((Int) × (Bool)))) × Unit)) ⊕ Unit)
  | 0, _ => none
  | n + 1, (q0, (q1, (q2, (q3, ())))) =>
    bif Decidable.decide (q1 < (↑(List.length q0) : Int)) then
     bif Decidable.decide (0 ≤ q1) && Decidable.decide (q1 < (↑(List.length q0) : Int)) then
      bif Decidable.decide (0 ≤ q1) && Decidable.decide (q1 < (↑(List.length q3) : Int)) then
       R.L_laws_toEventS_0 K n (q0, Go.IntKind.wrap Go.IntKind.i64 (q1 + 1), q2, List.set q3 (Int.toNat q1) (List.getD q0 (Int.toNat q1) (0, 0, Bool.false)), ())
      else
       none
     else
      none
    else
     some (Sum.inl (q2, q3, ()))

noncomputable def R.laws_toEventS (K : Nat) (p0 : List ((Int) × ((Int) × (Bool)))) : Option (((List ((Int) × ((Int) × (Bool)))) × Unit) × Unit) :=
  bif Decidable.decide (0 ≤ (↑(List.length p0) : Int)) && Decidable.decide ((↑(List.length p0) : Int) ≤ (↑(List.length p0) : Int)) && Decidable.decide ((↑(List.length p0) : Int) ≤ (↑268435456 : Int)) then
   obind (R.L_laws_toEventS_0 K K (p0, 0, [], List.replicate (Int.toNat (↑(List.length p0) : Int)) (0, 0, Bool.false), ())) fun v3 =>
    (match v3 with
    | .inl v4 =>
     some (((Prod.fst (Prod.snd v4), ()), ()))
    | .inr v4 =>
     none
    )
  else
   none

noncomputable def R.laws_toWatch (K : Nat) (p0 : (List UInt8) × ((Int) × (List ((Int) × ((Int) × (Bool)))))) : Option ((((List UInt8) × ((Int) × (List ((Int) × ((Int) × (Bool)))))) × Unit) × Unit) :=
  obind (R.laws_toEventS K (Prod.snd (Prod.snd p0))) fun v2 =>
   some ((((Prod.fst p0, Prod.fst (Prod.snd p0), Prod.fst (Prod.fst v2)), ()), ()))

noncomputable def R.laws_toRef (K : Nat) (p0 : (List UInt8) × ((Int) × ((Int) × (Bool)))) : Option ((((List UInt8) × ((Int) × ((Int) × (Bool)))) × Unit) × Unit) :=
  some (((p0, ()), ()))

noncomputable def R.spec_l00Letter (K : Nat) (p0 : Int) : Option (((Bool) × Unit) × Unit) :=
  bif Decidable.decide (p0 ≥ 97) then
   bif Decidable.decide (p0 ≤ 122) then
    some (((Bool.true, ()), ()))
   else
    bif Decidable.decide (p0 ≥ 65) then
     bif Decidable.decide (p0 ≤ 90) then
      some (((Bool.true, ()), ()))
     else
      some (((p0 == 95, ()), ()))
    else
     some (((p0 == 95, ()), ()))
  else
   bif Decidable.decide (p0 ≥ 65) then
    bif Decidable.decide (p0 ≤ 90) then
     some (((Bool.true, ()), ()))
    else
     some (((p0 == 95, ()), ()))
   else
    some (((p0 == 95, ()), ()))

noncomputable def R.spec_l00Digit (K : Nat) (p0 : Int) : Option (((Bool) × Unit) × Unit) :=
  bif Decidable.decide (p0 ≥ 48) then
   some (((Decidable.decide (p0 ≤ 57), ()), ()))
  else
   some (((Bool.false, ()), ()))

noncomputable def R.L_spec_l00Word_0 (K : Nat) : Nat → ((List UInt8) × ((Bool) × ((Int) × Unit))) → Option (((Bool) × Unit) ⊕ ((Bool) × Unit))
  | 0, _ => none
  | n + 1, (q0, (q1, (q2, ()))) =>
    bif Decidable.decide (q2 < (↑(List.length q0) : Int)) then
     bif Decidable.decide (0 ≤ q2) && Decidable.decide (q2 < (↑(List.length q0) : Int)) then
      obind (R.spec_l00Letter K (↑(UInt8.toNat (List.getD q0 (Int.toNat q2) 0)) : Int)) fun v6 =>
       bif !Prod.fst (Prod.fst v6) then
        bif Decidable.decide (0 ≤ q2) && Decidable.decide (q2 < (↑(List.length q0) : Int)) then
         obind (R.spec_l00Digit K (↑(UInt8.toNat (List.getD q0 (Int.toNat q2) 0)) : Int)) fun v9 =>
          bif !Prod.fst (Prod.fst v9) then
           some (Sum.inr (Bool.false, ()))
          else
           R.L_spec_l00Word_0 K n (q0, q1, Go.IntKind.wrap Go.IntKind.i64 (q2 + 1), ())
        else
         none
       else
        R.L_spec_l00Word_0 K n (q0, q1, Go.IntKind.wrap Go.IntKind.i64 (q2 + 1), ())
     else
      none
    else
     some (Sum.inl (q1, ()))

noncomputable def R.spec_l00Word (K : Nat) (p0 : List UInt8) : Option (((Bool) × Unit) × Unit) :=
  bif Decidable.decide ((↑(List.length p0) : Int) < 1) then
   some (((Bool.false, ()), ()))
  else
   bif Decidable.decide ((↑(List.length p0) : Int) > 12) then
    some (((Bool.false, ()), ()))
   else
    bif Decidable.decide (0 ≤ 0) && Decidable.decide (0 < (↑(List.length p0) : Int)) then
     obind (R.spec_l00Letter K (↑(UInt8.toNat (List.getD p0 (Int.toNat 0) 0)) : Int)) fun v5 =>
      bif !Prod.fst (Prod.fst v5) then
       some (((Bool.false, ()), ()))
      else
       obind (R.L_spec_l00Word_0 K K (p0, Bool.false, 1, ())) fun v7 =>
        (match v7 with
        | .inl v8 =>
         some (((Bool.true, ()), ()))
        | .inr v8 =>
         some (((Prod.fst v8, ()), ()))
        )
    else
     none

noncomputable def R.spec_l01In (K : Nat) (p0 : Int) (p1 : Int) (p2 : Int) : Option (((Bool) × Unit) × Unit) :=
  bif Decidable.decide (p0 ≥ p1) then
   some (((Decidable.decide (p0 ≤ p2), ()), ()))
  else
   some (((Bool.false, ()), ()))

noncomputable def R.L_spec_l06Events_0 (K : Nat) : Nat → ((List ((Int) × ((Int) × (Bool)))) × ((Bool) × ((Int) × Unit))) → Option (((Bool) × Unit) ⊕ ((Bool) × Unit))
  | 0, _ => none
  | n + 1, (q0, (q1, (q2, ()))) =>
    bif Decidable.decide (q2 < (↑(List.length q0) : Int)) then
     bif Decidable.decide (0 ≤ q2) && Decidable.decide (q2 < (↑(List.length q0) : Int)) then
      obind (R.spec_l01In K (Prod.fst (List.getD q0 (Int.toNat q2) (0, 0, Bool.false))) 1 1000000) fun v6 =>
       bif !Prod.fst (Prod.fst v6) then
        some (Sum.inr (Bool.false, ()))
       else
        obind (R.spec_l01In K (Prod.fst (Prod.snd (List.getD q0 (Int.toNat q2) (0, 0, Bool.false)))) 0 60) fun v8 =>
         bif !Prod.fst (Prod.fst v8) then
          some (Sum.inr (Bool.false, ()))
         else
          bif Decidable.decide (q2 > 0) then
           bif Decidable.decide (0 ≤ Go.IntKind.wrap Go.IntKind.i64 (q2 - 1)) && Decidable.decide (Go.IntKind.wrap Go.IntKind.i64 (q2 - 1) < (↑(List.length q0) : Int)) then
            bif Decidable.decide (Prod.fst (List.getD q0 (Int.toNat q2) (0, 0, Bool.false)) ≤ Prod.fst (List.getD q0 (Int.toNat (Go.IntKind.wrap Go.IntKind.i64 (q2 - 1))) (0, 0, Bool.false))) then
             some (Sum.inr (Bool.false, ()))
            else
             bif Decidable.decide (q2 > 0) then
              bif !Prod.snd (Prod.snd (List.getD q0 (Int.toNat q2) (0, 0, Bool.false))) then
               bif Decidable.decide (0 ≤ Go.IntKind.wrap Go.IntKind.i64 (q2 - 1)) && Decidable.decide (Go.IntKind.wrap Go.IntKind.i64 (q2 - 1) < (↑(List.length q0) : Int)) then
                bif Prod.fst (List.getD q0 (Int.toNat q2) (0, 0, Bool.false)) != Go.IntKind.wrap Go.IntKind.i64 (Prod.fst (List.getD q0 (Int.toNat (Go.IntKind.wrap Go.IntKind.i64 (q2 - 1))) (0, 0, Bool.false)) + 1) then
                 some (Sum.inr (Bool.false, ()))
                else
                 R.L_spec_l06Events_0 K n (q0, q1, Go.IntKind.wrap Go.IntKind.i64 (q2 + 1), ())
               else
                none
              else
               R.L_spec_l06Events_0 K n (q0, q1, Go.IntKind.wrap Go.IntKind.i64 (q2 + 1), ())
             else
              R.L_spec_l06Events_0 K n (q0, q1, Go.IntKind.wrap Go.IntKind.i64 (q2 + 1), ())
           else
            none
          else
           bif Decidable.decide (q2 > 0) then
            bif !Prod.snd (Prod.snd (List.getD q0 (Int.toNat q2) (0, 0, Bool.false))) then
             bif Decidable.decide (0 ≤ Go.IntKind.wrap Go.IntKind.i64 (q2 - 1)) && Decidable.decide (Go.IntKind.wrap Go.IntKind.i64 (q2 - 1) < (↑(List.length q0) : Int)) then
              bif Prod.fst (List.getD q0 (Int.toNat q2) (0, 0, Bool.false)) != Go.IntKind.wrap Go.IntKind.i64 (Prod.fst (List.getD q0 (Int.toNat (Go.IntKind.wrap Go.IntKind.i64 (q2 - 1))) (0, 0, Bool.false)) + 1) then
               some (Sum.inr (Bool.false, ()))
              else
               R.L_spec_l06Events_0 K n (q0, q1, Go.IntKind.wrap Go.IntKind.i64 (q2 + 1), ())
             else
              none
            else
             R.L_spec_l06Events_0 K n (q0, q1, Go.IntKind.wrap Go.IntKind.i64 (q2 + 1), ())
           else
            R.L_spec_l06Events_0 K n (q0, q1, Go.IntKind.wrap Go.IntKind.i64 (q2 + 1), ())
     else
      none
    else
     some (Sum.inl (q1, ()))

noncomputable def R.spec_l06Events (K : Nat) (p0 : List ((Int) × ((Int) × (Bool)))) : Option (((Bool) × Unit) × Unit) :=
  obind (R.L_spec_l06Events_0 K K (p0, Bool.false, 0, ())) fun v2 =>
   (match v2 with
   | .inl v3 =>
    some (((Bool.true, ()), ()))
   | .inr v3 =>
    some (((Prod.fst v3, ()), ()))
   )

noncomputable def R.L_spec_l06OK_0 (K : Nat) : Nat → ((Bool) × ((Int) × ((Int) × ((List UInt8) × ((Int) × ((List ((Int) × ((Int) × (Bool)))) × Unit)))))) → Option (((Bool) × Unit) ⊕ ((Bool) × Unit))
  | 0, _ => none
  | n + 1, (q0, (q1, (q2, (q3, (q4, (q5, ())))))) =>
    bif Decidable.decide (q2 < q1) then
     bif Decidable.decide (0 ≤ q2) && Decidable.decide (q2 < (↑(List.length q5) : Int)) then
      bif Prod.snd (Prod.snd (List.getD q5 (Int.toNat q2) (0, 0, Bool.false))) then
       some (Sum.inr (Bool.false, ()))
      else
       R.L_spec_l06OK_0 K n (q0, q1, Go.IntKind.wrap Go.IntKind.i64 (q2 + 1), q3, q4, q5, ())
     else
      none
    else
     some (Sum.inl (q0, ()))

noncomputable def R.spec_l06OK (K : Nat) (p0 : (List UInt8) × ((Int) × (List ((Int) × ((Int) × (Bool)))))) : Option (((Bool) × Unit) × Unit) :=
  obind (R.spec_l00Word K (Prod.fst p0)) fun v2 =>
   bif !Prod.fst (Prod.fst v2) then
    some (((Bool.false, ()), ()))
   else
    obind (R.spec_l01In K (Prod.fst (Prod.snd p0)) 0 1000000) fun v4 =>
     bif !Prod.fst (Prod.fst v4) then
      some (((Bool.false, ()), ()))
     else
      bif Decidable.decide ((↑(List.length (Prod.snd (Prod.snd p0))) : Int) > 4) then
       some (((Bool.false, ()), ()))
      else
       obind (R.spec_l06Events K (Prod.snd (Prod.snd p0))) fun v7 =>
        bif !Prod.fst (Prod.fst v7) then
         some (((Bool.false, ()), ()))
        else
         bif Decidable.decide ((↑(List.length (Prod.snd (Prod.snd p0))) : Int) > 0) then
          bif Decidable.decide (0 ≤ Go.IntKind.wrap Go.IntKind.i64 ((↑(List.length (Prod.snd (Prod.snd p0))) : Int) - 1)) && Decidable.decide (Go.IntKind.wrap Go.IntKind.i64 ((↑(List.length (Prod.snd (Prod.snd p0))) : Int) - 1) < (↑(List.length (Prod.snd (Prod.snd p0))) : Int)) then
           bif Prod.fst (List.getD (Prod.snd (Prod.snd p0)) (Int.toNat (Go.IntKind.wrap Go.IntKind.i64 ((↑(List.length (Prod.snd (Prod.snd p0))) : Int) - 1))) (0, 0, Bool.false)) != Prod.fst (Prod.snd p0) then
            some (((Bool.false, ()), ()))
           else
            obind (R.L_spec_l06OK_0 K K (Bool.false, (↑(List.length (Prod.snd (Prod.snd p0))) : Int), 1, Prod.fst p0, Prod.fst (Prod.snd p0), Prod.snd (Prod.snd p0), ())) fun v12 =>
             (match v12 with
             | .inl v13 =>
              some (((Bool.true, ()), ()))
             | .inr v13 =>
              some (((Prod.fst v13, ()), ()))
             )
          else
           none
         else
          obind (R.L_spec_l06OK_0 K K (Bool.false, (↑(List.length (Prod.snd (Prod.snd p0))) : Int), 1, Prod.fst p0, Prod.fst (Prod.snd p0), Prod.snd (Prod.snd p0), ())) fun v10 =>
           (match v10 with
           | .inl v11 =>
            some (((Bool.true, ()), ()))
           | .inr v11 =>
            some (((Prod.fst v11, ()), ()))
           )

noncomputable def R.L_spec_l04At_0 (K : Nat) : Nat → ((List ((List UInt8) × ((Int) × ((Int) × (Bool))))) × ((List UInt8) × ((Int) × ((Int) × Unit)))) → Option (((Int) × Unit) ⊕ ((Int) × Unit))
  | 0, _ => none
  | n + 1, (q0, (q1, (q2, (q3, ())))) =>
    bif Decidable.decide (q3 < (↑(List.length q0) : Int)) then
     bif Decidable.decide (0 ≤ q3) && Decidable.decide (q3 < (↑(List.length q0) : Int)) then
      bif Prod.fst (List.getD q0 (Int.toNat q3) ([], 0, 0, Bool.false)) == q1 then
       some (Sum.inr (q3, ()))
      else
       R.L_spec_l04At_0 K n (q0, q1, q2, Go.IntKind.wrap Go.IntKind.i64 (q3 + 1), ())
     else
      none
    else
     some (Sum.inl (q2, ()))

noncomputable def R.spec_l04At (K : Nat) (p0 : List ((List UInt8) × ((Int) × ((Int) × (Bool))))) (p1 : List UInt8) : Option (((Int) × Unit) × Unit) :=
  obind (R.L_spec_l04At_0 K K (p0, p1, 0, 0, ())) fun v2 =>
   (match v2 with
   | .inl v3 =>
    some (((-1, ()), ()))
   | .inr v3 =>
    some (((Prod.fst v3, ()), ()))
   )

noncomputable def R.L_spec_l04OK_0 (K : Nat) : Nat → ((List ((List UInt8) × ((Int) × ((Int) × (Bool))))) × ((Bool) × ((Int) × Unit))) → Option (((Bool) × Unit) ⊕ ((Bool) × Unit))
  | 0, _ => none
  | n + 1, (q0, (q1, (q2, ()))) =>
    bif Decidable.decide (q2 < (↑(List.length q0) : Int)) then
     bif Decidable.decide (0 ≤ q2) && Decidable.decide (q2 < (↑(List.length q0) : Int)) then
      obind (R.spec_l00Word K (Prod.fst (List.getD q0 (Int.toNat q2) ([], 0, 0, Bool.false)))) fun v6 =>
       bif !Prod.fst (Prod.fst v6) then
        some (Sum.inr (Bool.false, ()))
       else
        obind (R.spec_l01In K (Prod.fst (Prod.snd (Prod.snd (List.getD q0 (Int.toNat q2) ([], 0, 0, Bool.false))))) 1 1000000) fun v8 =>
         bif !Prod.fst (Prod.fst v8) then
          some (Sum.inr (Bool.false, ()))
         else
          obind (R.spec_l04At K q0 (Prod.fst (List.getD q0 (Int.toNat q2) ([], 0, 0, Bool.false)))) fun v10 =>
           bif Prod.fst (Prod.fst v10) != q2 then
            some (Sum.inr (Bool.false, ()))
           else
            bif Prod.snd (Prod.snd (Prod.snd (List.getD q0 (Int.toNat q2) ([], 0, 0, Bool.false)))) then
             bif Prod.fst (Prod.snd (List.getD q0 (Int.toNat q2) ([], 0, 0, Bool.false))) != 0 then
              some (Sum.inr (Bool.false, ()))
             else
              bif !Prod.snd (Prod.snd (Prod.snd (List.getD q0 (Int.toNat q2) ([], 0, 0, Bool.false)))) then
               obind (R.spec_l01In K (Prod.fst (Prod.snd (List.getD q0 (Int.toNat q2) ([], 0, 0, Bool.false)))) 1 60) fun v15 =>
                bif !Prod.fst (Prod.fst v15) then
                 some (Sum.inr (Bool.false, ()))
                else
                 R.L_spec_l04OK_0 K n (q0, q1, Go.IntKind.wrap Go.IntKind.i64 (q2 + 1), ())
              else
               R.L_spec_l04OK_0 K n (q0, q1, Go.IntKind.wrap Go.IntKind.i64 (q2 + 1), ())
            else
             bif !Prod.snd (Prod.snd (Prod.snd (List.getD q0 (Int.toNat q2) ([], 0, 0, Bool.false)))) then
              obind (R.spec_l01In K (Prod.fst (Prod.snd (List.getD q0 (Int.toNat q2) ([], 0, 0, Bool.false)))) 1 60) fun v14 =>
               bif !Prod.fst (Prod.fst v14) then
                some (Sum.inr (Bool.false, ()))
               else
                R.L_spec_l04OK_0 K n (q0, q1, Go.IntKind.wrap Go.IntKind.i64 (q2 + 1), ())
             else
              R.L_spec_l04OK_0 K n (q0, q1, Go.IntKind.wrap Go.IntKind.i64 (q2 + 1), ())
     else
      none
    else
     some (Sum.inl (q1, ()))

noncomputable def R.spec_l04OK (K : Nat) (p0 : List ((List UInt8) × ((Int) × ((Int) × (Bool))))) : Option (((Bool) × Unit) × Unit) :=
  bif Decidable.decide ((↑(List.length p0) : Int) > 8) then
   some (((Bool.false, ()), ()))
  else
   obind (R.L_spec_l04OK_0 K K (p0, Bool.false, 0, ())) fun v3 =>
    (match v3 with
    | .inl v4 =>
     some (((Bool.true, ()), ()))
    | .inr v4 =>
     some (((Prod.fst v4, ()), ()))
    )

noncomputable def R.spec_l06Own (K : Nat) (p0 : (List UInt8) × ((Int) × (List ((Int) × ((Int) × (Bool)))))) : Option ((((List UInt8) × ((Int) × (List ((Int) × ((Int) × (Bool)))))) × Unit) × Unit) :=
  bif Nat.ble (0 + List.length (Prod.snd (Prod.snd p0))) 268435456 then
   some (((p0, ()), ()))
  else
   none

noncomputable def R.spec_l06Note (K : Nat) (p0 : (List UInt8) × ((Int) × (List ((Int) × ((Int) × (Bool)))))) (p1 : (List UInt8) × ((Int) × ((Int) × (Bool)))) : Option ((((List UInt8) × ((Int) × (List ((Int) × ((Int) × (Bool)))))) × Unit) × Unit) :=
  bif (↑(List.length (Prod.snd (Prod.snd p0))) : Int) == 4 then
   obind (
     Fw.alt (
      Fw.dup (
       some ((Prod.fst p0, Prod.fst (Prod.snd p0), Prod.fst p1, Prod.fst (Prod.snd p1), Prod.fst (Prod.snd (Prod.snd p1)), Prod.snd (Prod.snd (Prod.snd p1)), [], 0, [(Prod.fst (Prod.snd (Prod.snd p1)), Prod.fst (Prod.snd p1), Bool.true)], [], ()))
      )
     ) (
      some ((Prod.fst p0, Prod.fst (Prod.snd p0), Prod.fst p1, Prod.fst (Prod.snd p1), Prod.fst (Prod.snd (Prod.snd p1)), Prod.snd (Prod.snd (Prod.snd p1)), [], 0, [(Prod.fst (Prod.snd (Prod.snd p1)), Prod.fst (Prod.snd p1), Bool.true)], [], ()))
     )
    ) fun (v3 : List UInt8 × Int × List UInt8 × Int × Int × Bool × List UInt8 × Int × List (Int × Int × Bool) × List (Int × Int × Bool) × PUnit) =>
    some ((((Prod.fst v3, Prod.fst (Prod.snd (Prod.snd (Prod.snd (Prod.snd v3)))), Prod.fst (Prod.snd (Prod.snd (Prod.snd (Prod.snd (Prod.snd (Prod.snd (Prod.snd (Prod.snd v3))))))))), ()), ()))
  else
   obind (
     Fw.alt (
      Fw.dup (
       bif Nat.ble (0 + List.length (Prod.snd (Prod.snd p0))) 268435456 then
        bif Nat.ble (List.length (Prod.snd (Prod.snd p0)) + List.length [(Prod.fst (Prod.snd (Prod.snd p1)), Prod.fst (Prod.snd p1), Bool.false)]) 268435456 then
         some ((Prod.fst p0, Prod.fst (Prod.snd p0), Prod.fst p1, Prod.fst (Prod.snd p1), Prod.fst (Prod.snd (Prod.snd p1)), Prod.snd (Prod.snd (Prod.snd p1)), [], 0, Prod.snd (Prod.snd p0) ++ [(Prod.fst (Prod.snd (Prod.snd p1)), Prod.fst (Prod.snd p1), Bool.false)], [], ()))
        else
         none
       else
        none
      )
     ) (
      bif Nat.ble (0 + List.length (Prod.snd (Prod.snd p0))) 268435456 then
       bif Nat.ble (List.length (Prod.snd (Prod.snd p0)) + List.length [(Prod.fst (Prod.snd (Prod.snd p1)), Prod.fst (Prod.snd p1), Bool.false)]) 268435456 then
        some ((Prod.fst p0, Prod.fst (Prod.snd p0), Prod.fst p1, Prod.fst (Prod.snd p1), Prod.fst (Prod.snd (Prod.snd p1)), Prod.snd (Prod.snd (Prod.snd p1)), [], 0, Prod.snd (Prod.snd p0) ++ [(Prod.fst (Prod.snd (Prod.snd p1)), Prod.fst (Prod.snd p1), Bool.false)], [], ()))
       else
        none
      else
       none
     )
    ) fun (v3 : List UInt8 × Int × List UInt8 × Int × Int × Bool × List UInt8 × Int × List (Int × Int × Bool) × List (Int × Int × Bool) × PUnit) =>
    some ((((Prod.fst v3, Prod.fst (Prod.snd (Prod.snd (Prod.snd (Prod.snd v3)))), Prod.fst (Prod.snd (Prod.snd (Prod.snd (Prod.snd (Prod.snd (Prod.snd (Prod.snd (Prod.snd v3))))))))), ()), ()))

noncomputable def R.spec_NoteRef (K : Nat) (p0 : (List UInt8) × ((Int) × (List ((Int) × ((Int) × (Bool)))))) (p1 : (List UInt8) × ((Int) × ((Int) × (Bool)))) : Option ((((List UInt8) × ((Int) × (List ((Int) × ((Int) × (Bool)))))) × ((Int) × Unit)) × Unit) :=
  obind (R.spec_l06OK K p0) fun v2 =>
   bif !Prod.fst (Prod.fst v2) then
    some (((([], 0, []), 1, ()), ()))
   else
    obind (R.spec_l04OK K [p1]) fun v4 =>
     bif !Prod.fst (Prod.fst v4) then
      some (((([], 0, []), 1, ()), ()))
     else
      bif !Prod.fst p1 == Prod.fst p0 then
       obind (R.spec_l06Own K p0) fun v7 =>
        some (((Prod.fst (Prod.fst v7), 10, ()), ()))
      else
       bif Prod.fst (Prod.snd (Prod.snd p1)) != Go.IntKind.wrap Go.IntKind.i64 (Prod.fst (Prod.snd p0) + 1) then
        obind (R.spec_l06Own K p0) fun v8 =>
         some (((Prod.fst (Prod.fst v8), 16, ()), ()))
       else
        obind (R.spec_l06Note K p0 p1) fun v8 =>
         obind (R.spec_l06Own K (Prod.fst (Prod.fst v8))) fun v9 =>
          some (((Prod.fst (Prod.fst v9), 0, ()), ()))

noncomputable def R.impl_within (K : Nat) (p0 : Int) (p1 : Int) (p2 : Int) : Option (((Bool) × Unit) × Unit) :=
  bif Decidable.decide (p1 ≤ p0) then
   some (((Decidable.decide (p0 ≤ p2), ()), ()))
  else
   some (((Bool.false, ()), ()))

noncomputable def R.impl_isLetter (K : Nat) (p0 : Int) : Option (((Bool) × Unit) × Unit) :=
  bif Decidable.decide (p0 ≥ 97) then
   bif Decidable.decide (p0 ≤ 122) then
    some (((Bool.true, ()), ()))
   else
    bif Decidable.decide (p0 ≥ 65) then
     bif Decidable.decide (p0 ≤ 90) then
      some (((Bool.true, ()), ()))
     else
      some (((p0 == 95, ()), ()))
    else
     some (((p0 == 95, ()), ()))
  else
   bif Decidable.decide (p0 ≥ 65) then
    bif Decidable.decide (p0 ≤ 90) then
     some (((Bool.true, ()), ()))
    else
     some (((p0 == 95, ()), ()))
   else
    some (((p0 == 95, ()), ()))

noncomputable def R.impl_isDigit (K : Nat) (p0 : Int) : Option (((Bool) × Unit) × Unit) :=
  bif Decidable.decide (p0 ≥ 48) then
   some (((Decidable.decide (p0 ≤ 57), ()), ()))
  else
   some (((Bool.false, ()), ()))

noncomputable def R.impl_NameOK_1 (K : Nat) (p0 : Int) : Option (((Bool) × Unit) × Unit) :=
  obind (R.impl_isLetter K p0) fun v2 =>
   bif Prod.fst (Prod.fst v2) then
    some (((Bool.true, ()), ()))
   else
    obind (R.impl_isDigit K p0) fun v4 =>
     some (((Prod.fst (Prod.fst v4), ()), ()))

noncomputable def R.L_impl_areAll_byte__impl_NameOK_1_0 (K : Nat) : Nat → ((List (Int)) × ((Bool) × ((List (Int)) × ((List (Int)) × ((Bool) × ((List (Int)) × ((List (Int)) × ((Int) × ((Int) × ((Int) × Unit)))))))))) → Option (((List (Int)) × ((Bool) × ((List (Int)) × ((List (Int)) × ((Bool) × ((List (Int)) × ((Int) × Unit))))))) ⊕ ((List (Int)) × ((Bool) × ((List (Int)) × ((List (Int)) × ((Bool) × ((List (Int)) × ((Int) × Unit))))))))
  | 0, _ => none
  | n + 1, (q0, (q1, (q2, (q3, (q4, (q5, (q6, (q7, (q8, (q9, ())))))))))) =>
    bif Decidable.decide (q9 < q8) then
     bif Decidable.decide (0 ≤ q9) && Decidable.decide (q9 < (↑(List.length q6) : Int)) then
      obind (R.impl_NameOK_1 K (List.getD q6 (Int.toNat q9) 0)) fun v6 =>
       bif !Prod.fst (Prod.fst v6) then
        some (Sum.inr (q0, q1, q2, q3, q4, q5, q9, ()))
       else
        R.L_impl_areAll_byte__impl_NameOK_1_0 K n (q0, q1, q2, q3, q4, q5, q6, q7, q8, Go.IntKind.wrap Go.IntKind.i64 (q9 + 1), ())
     else
      none
    else
     some (Sum.inl (q0, q1, q2, q3, q4, q5, q7, ()))

noncomputable def R.impl_areAll_byte__impl_NameOK_1 (K : Nat) (p0 : List (Int)) : Option (((Bool) × Unit) × Unit) :=
  obind (R.L_impl_areAll_byte__impl_NameOK_1_0 K K (p0, Bool.false, p0, p0, Bool.false, p0, p0, 0, (↑(List.length p0) : Int), 0, ())) fun v2 =>
   (match v2 with
   | .inl v3 =>
    some (((!Decidable.decide (-1 ≥ 0), ()), ()))
   | .inr v3 =>
    some (((!Decidable.decide (Prod.fst (Prod.snd (Prod.snd (Prod.snd (Prod.snd (Prod.snd (Prod.snd v3)))))) ≥ 0), ()), ()))
   )

noncomputable def R.impl_NameOK (K : Nat) (p0 : List UInt8) : Option (((Bool) × Unit) × Unit) :=
  obind (R.impl_within K (↑(List.length p0) : Int) 1 12) fun v2 =>
   bif Prod.fst (Prod.fst v2) then
    bif Decidable.decide (0 ≤ 0) && Decidable.decide (0 < (↑(List.length p0) : Int)) then
     obind (R.impl_isLetter K (↑(UInt8.toNat (List.getD p0 (Int.toNat 0) 0)) : Int)) fun v5 =>
      bif Prod.fst (Prod.fst v5) then
       obind (R.impl_areAll_byte__impl_NameOK_1 K (Fw.bytesIn p0)) fun v7 =>
        some (((Prod.fst (Prod.fst v7), ()), ()))
      else
       some (((Bool.false, ()), ()))
    else
     none
   else
    some (((Bool.false, ()), ()))

noncomputable def R.impl_isList_impl_Event (K : Nat) (p0 : List ((Int) × ((Int) × (Bool)))) : Option (((Bool) × Unit) × Unit) :=
  some (((Decidable.decide ((↑(List.length p0) : Int) ≤ 4096), ()), ()))

noncomputable def R.L_impl_EventsOK_0 (K : Nat) : Nat → ((List ((Int) × ((Int) × (Bool)))) × ((Bool) × ((List ((Int) × ((Int) × (Bool)))) × ((Int) × ((Int) × Unit))))) → Option (((List ((Int) × ((Int) × (Bool)))) × ((Bool) × Unit)) ⊕ ((Bool) × Unit))
  | 0, _ => none
  | n + 1, (q0, (q1, (q2, (q3, (q4, ()))))) =>
    bif Decidable.decide (q4 < q3) then
     bif Decidable.decide (0 ≤ q4) && Decidable.decide (q4 < (↑(List.length q2) : Int)) then
      obind (R.impl_within K (Prod.fst (List.getD q2 (Int.toNat q4) (0, 0, Bool.false))) 1 1000000) fun v6 =>
       bif !Prod.fst (Prod.fst v6) then
        some (Sum.inr (Bool.false, ()))
       else
        obind (R.impl_within K (Prod.fst (Prod.snd (List.getD q2 (Int.toNat q4) (0, 0, Bool.false)))) 0 60) fun v8 =>
         bif !Prod.fst (Prod.fst v8) then
          some (Sum.inr (Bool.false, ()))
         else
          bif Decidable.decide (q4 > 0) then
           bif Decidable.decide (0 ≤ Go.IntKind.wrap Go.IntKind.i64 (q4 - 1)) && Decidable.decide (Go.IntKind.wrap Go.IntKind.i64 (q4 - 1) < (↑(List.length q0) : Int)) then
            bif Decidable.decide (Prod.fst (List.getD q2 (Int.toNat q4) (0, 0, Bool.false)) ≤ Prod.fst (List.getD q0 (Int.toNat (Go.IntKind.wrap Go.IntKind.i64 (q4 - 1))) (0, 0, Bool.false))) then
             some (Sum.inr (Bool.false, ()))
            else
             bif Decidable.decide (0 ≤ Go.IntKind.wrap Go.IntKind.i64 (q4 - 1)) && Decidable.decide (Go.IntKind.wrap Go.IntKind.i64 (q4 - 1) < (↑(List.length q0) : Int)) then
              bif Decidable.decide (Prod.fst (List.getD q2 (Int.toNat q4) (0, 0, Bool.false)) > Go.IntKind.wrap Go.IntKind.i64 (Prod.fst (List.getD q0 (Int.toNat (Go.IntKind.wrap Go.IntKind.i64 (q4 - 1))) (0, 0, Bool.false)) + 1)) then
               bif !Prod.snd (Prod.snd (List.getD q2 (Int.toNat q4) (0, 0, Bool.false))) then
                some (Sum.inr (Bool.false, ()))
               else
                R.L_impl_EventsOK_0 K n (q0, q1, q2, q3, Go.IntKind.wrap Go.IntKind.i64 (q4 + 1), ())
              else
               R.L_impl_EventsOK_0 K n (q0, q1, q2, q3, Go.IntKind.wrap Go.IntKind.i64 (q4 + 1), ())
             else
              none
           else
            none
          else
           R.L_impl_EventsOK_0 K n (q0, q1, q2, q3, Go.IntKind.wrap Go.IntKind.i64 (q4 + 1), ())
     else
      none
    else
     some (Sum.inl (q0, q1, ()))

noncomputable def R.impl_EventsOK (K : Nat) (p0 : List ((Int) × ((Int) × (Bool)))) : Option (((Bool) × Unit) × Unit) :=
  obind (R.L_impl_EventsOK_0 K K (p0, Bool.false, p0, (↑(List.length p0) : Int), 0, ())) fun v2 =>
   (match v2 with
   | .inl v3 =>
    some (((Decidable.decide ((↑(List.length (Prod.fst v3)) : Int) ≤ 4096), ()), ()))
   | .inr v3 =>
    some (((Prod.fst v3, ()), ()))
   )

noncomputable def R.impl_WatchOK_1 (K : Nat) (p0 : (Int) × ((Int) × (Bool))) : Option (((Bool) × Unit) × Unit) :=
  some (((!Prod.snd (Prod.snd p0), ()), ()))

noncomputable def R.L_impl_areAll_impl_Event__impl_WatchOK_1_0 (K : Nat) : Nat → ((List ((Int) × ((Int) × (Bool)))) × ((Bool) × ((List ((Int) × ((Int) × (Bool)))) × ((List ((Int) × ((Int) × (Bool)))) × ((Bool) × ((List ((Int) × ((Int) × (Bool)))) × ((List ((Int) × ((Int) × (Bool)))) × ((Int) × ((Int) × ((Int) × Unit)))))))))) → Option (((List ((Int) × ((Int) × (Bool)))) × ((Bool) × ((List ((Int) × ((Int) × (Bool)))) × ((List ((Int) × ((Int) × (Bool)))) × ((Bool) × ((List ((Int) × ((Int) × (Bool)))) × ((Int) × Unit))))))) ⊕ ((List ((Int) × ((Int) × (Bool)))) × ((Bool) × ((List ((Int) × ((Int) × (Bool)))) × ((List ((Int) × ((Int) × (Bool)))) × ((Bool) × ((List ((Int) × ((Int) × (Bool)))) × ((Int) × Unit))))))))
  | 0, _ => none
  | n + 1, (q0, (q1, (q2, (q3, (q4, (q5, (q6, (q7, (q8, (q9, ())))))))))) =>
    bif Decidable.decide (q9 < q8) then
     bif Decidable.decide (0 ≤ q9) && Decidable.decide (q9 < (↑(List.length q6) : Int)) then
      bif !!Prod.snd (Prod.snd (List.getD q6 (Int.toNat q9) (0, 0, Bool.false))) then
       some (Sum.inr (q0, q1, q2, q3, q4, q5, q9, ()))
      else
       R.L_impl_areAll_impl_Event__impl_WatchOK_1_0 K n (q0, q1, q2, q3, q4, q5, q6, q7, q8, Go.IntKind.wrap Go.IntKind.i64 (q9 + 1), ())
     else
      none
    else
     some (Sum.inl (q0, q1, q2, q3, q4, q5, q7, ()))

noncomputable def R.impl_areAll_impl_Event__impl_WatchOK_1 (K : Nat) (p0 : List ((Int) × ((Int) × (Bool)))) : Option (((Bool) × Unit) × Unit) :=
  obind (R.L_impl_areAll_impl_Event__impl_WatchOK_1_0 K K (p0, Bool.false, p0, p0, Bool.false, p0, p0, 0, (↑(List.length p0) : Int), 0, ())) fun v2 =>
   (match v2 with
   | .inl v3 =>
    some (((!Decidable.decide (-1 ≥ 0), ()), ()))
   | .inr v3 =>
    some (((!Decidable.decide (Prod.fst (Prod.snd (Prod.snd (Prod.snd (Prod.snd (Prod.snd (Prod.snd v3)))))) ≥ 0), ()), ()))
   )

noncomputable def R.impl_WatchOK (K : Nat) (p0 : (List UInt8) × ((Int) × (List ((Int) × ((Int) × (Bool)))))) : Option (((Bool) × Unit) × Unit) :=
  obind (R.impl_NameOK K (Prod.fst p0)) fun v2 =>
   bif !Prod.fst (Prod.fst v2) then
    some (((Bool.false, ()), ()))
   else
    obind (R.impl_within K (Prod.fst (Prod.snd p0)) 0 1000000) fun v4 =>
     bif !Prod.fst (Prod.fst v4) then
      some (((Bool.false, ()), ()))
     else
      bif Decidable.decide ((↑(List.length (Prod.snd (Prod.snd p0))) : Int) > 4) then
       some (((Bool.false, ()), ()))
      else
       obind (R.impl_EventsOK K (Prod.snd (Prod.snd p0))) fun v7 =>
        bif !Prod.fst (Prod.fst v7) then
         some (((Bool.false, ()), ()))
        else
         bif (↑(List.length (Prod.snd (Prod.snd p0))) : Int) == 0 then
          some (((Bool.true, ()), ()))
         else
          bif Decidable.decide (0 ≤ Go.IntKind.wrap Go.IntKind.i64 ((↑(List.length (Prod.snd (Prod.snd p0))) : Int) - 1)) && Decidable.decide (Go.IntKind.wrap Go.IntKind.i64 ((↑(List.length (Prod.snd (Prod.snd p0))) : Int) - 1) < (↑(List.length (Prod.snd (Prod.snd p0))) : Int)) then
           bif Prod.fst (List.getD (Prod.snd (Prod.snd p0)) (Int.toNat (Go.IntKind.wrap Go.IntKind.i64 ((↑(List.length (Prod.snd (Prod.snd p0))) : Int) - 1))) (0, 0, Bool.false)) == Prod.fst (Prod.snd p0) then
            bif Decidable.decide (0 ≤ 1) && Decidable.decide (1 ≤ (↑(List.length (Prod.snd (Prod.snd p0))) : Int)) then
             obind (R.impl_areAll_impl_Event__impl_WatchOK_1 K (List.drop (Int.toNat 1) (List.take (List.length (Prod.snd (Prod.snd p0))) (Prod.snd (Prod.snd p0))))) fun v13 =>
              some (((Prod.fst (Prod.fst v13), ()), ()))
            else
             none
           else
            some (((Bool.false, ()), ()))
          else
           none

noncomputable def R.impl_isHead (K : Nat) (p0 : Int) : Option (((Bool) × Unit) × Unit) :=
  obind (R.impl_within K p0 1 60) fun v2 =>
   some (((Prod.fst (Prod.fst v2), ()), ()))

noncomputable def R.impl_isRef (K : Nat) (p0 : (List UInt8) × ((Int) × ((Int) × (Bool)))) : Option (((Bool) × Unit) × Unit) :=
  obind (R.impl_NameOK K (Prod.fst p0)) fun v2 =>
   bif Prod.fst (Prod.fst v2) then
    obind (R.impl_within K (Prod.fst (Prod.snd (Prod.snd p0))) 1 1000000) fun v4 =>
     bif Prod.fst (Prod.fst v4) then
      bif Prod.snd (Prod.snd (Prod.snd p0)) then
       bif Prod.fst (Prod.snd p0) == 0 then
        some (((Bool.true, ()), ()))
       else
        bif !Prod.snd (Prod.snd (Prod.snd p0)) then
         obind (R.impl_isHead K (Prod.fst (Prod.snd p0))) fun v9 =>
          some (((Prod.fst (Prod.fst v9), ()), ()))
        else
         some (((Bool.false, ()), ()))
      else
       bif !Prod.snd (Prod.snd (Prod.snd p0)) then
        obind (R.impl_isHead K (Prod.fst (Prod.snd p0))) fun v8 =>
         some (((Prod.fst (Prod.fst v8), ()), ()))
       else
        some (((Bool.false, ()), ()))
     else
      some (((Bool.false, ()), ()))
   else
    some (((Bool.false, ()), ()))

noncomputable def R.slices_Clone_impl_Event (K : Nat) (p0 : List ((Int) × ((Int) × (Bool)))) : Option (((List ((Int) × ((Int) × (Bool)))) × Unit) × Unit) :=
  bif List.isEmpty p0 then
   Fw.alt (
    some ((([], ()), ()))
   ) (
    bif Nat.ble (0 + List.length p0) 268435456 then
     some (((p0, ()), ()))
    else
     none
   )
  else
   bif Nat.ble (0 + List.length p0) 268435456 then
    some (((p0, ()), ()))
   else
    none

noncomputable def R.impl_Watch_own (K : Nat) (p0 : (List UInt8) × ((Int) × (List ((Int) × ((Int) × (Bool)))))) : Option ((((List UInt8) × ((Int) × (List ((Int) × ((Int) × (Bool)))))) × Unit) × Unit) :=
  obind (R.slices_Clone_impl_Event K (Prod.snd (Prod.snd p0))) fun v2 =>
   some ((((Prod.fst p0, Prod.fst (Prod.snd p0), Prod.fst (Prod.fst v2)), ()), ()))

noncomputable def R.impl_Watch_note (K : Nat) (p0 : (List UInt8) × ((Int) × (List ((Int) × ((Int) × (Bool)))))) (p1 : (List UInt8) × ((Int) × ((Int) × (Bool)))) : Option ((((List UInt8) × ((Int) × (List ((Int) × ((Int) × (Bool)))))) × Unit) × Unit) :=
  obind (R.impl_Watch_own K p0) fun v2 =>
   bif (↑(List.length (Prod.snd (Prod.snd (Prod.fst (Prod.fst v2))))) : Int) == 4 then
    some ((((Prod.fst (Prod.fst (Prod.fst v2)), Prod.fst (Prod.snd (Prod.snd p1)), [(Prod.fst (Prod.snd (Prod.snd p1)), Prod.fst (Prod.snd p1), Bool.true)]), ()), ()))
   else
    bif Nat.ble (List.length (Prod.snd (Prod.snd (Prod.fst (Prod.fst v2)))) + List.length [(Prod.fst (Prod.snd (Prod.snd p1)), Prod.fst (Prod.snd p1), Bool.false)]) 268435456 then
     some ((((Prod.fst (Prod.fst (Prod.fst v2)), Prod.fst (Prod.snd (Prod.snd p1)), Prod.snd (Prod.snd (Prod.fst (Prod.fst v2))) ++ [(Prod.fst (Prod.snd (Prod.snd p1)), Prod.fst (Prod.snd p1), Bool.false)]), ()), ()))
    else
     none

noncomputable def R.impl_NoteRef (K : Nat) (p0 : (List UInt8) × ((Int) × (List ((Int) × ((Int) × (Bool)))))) (p1 : (List UInt8) × ((Int) × ((Int) × (Bool)))) : Option ((((List UInt8) × ((Int) × (List ((Int) × ((Int) × (Bool)))))) × ((Int) × Unit)) × Unit) :=
  obind (R.impl_WatchOK K p0) fun v2 =>
   bif !Prod.fst (Prod.fst v2) then
    some (((([], 0, []), 1, ()), ()))
   else
    obind (R.impl_isRef K p1) fun v4 =>
     bif !Prod.fst (Prod.fst v4) then
      some (((([], 0, []), 1, ()), ()))
     else
      bif !Prod.fst p0 == Prod.fst p1 then
       obind (R.impl_Watch_own K p0) fun v7 =>
        some (((Prod.fst (Prod.fst v7), 10, ()), ()))
      else
       bif Prod.fst (Prod.snd (Prod.snd p1)) != Go.IntKind.wrap Go.IntKind.i64 (Prod.fst (Prod.snd p0) + 1) then
        obind (R.impl_Watch_own K p0) fun v8 =>
         some (((Prod.fst (Prod.fst v8), 16, ()), ()))
       else
        obind (R.impl_Watch_note K p0 p1) fun v8 =>
         some (((Prod.fst (Prod.fst v8), 0, ()), ()))

noncomputable def R.laws_eqEvent (K : Nat) (p0 : (Int) × ((Int) × (Bool))) (p1 : (Int) × ((Int) × (Bool))) : Option (((Bool) × Unit) × Unit) :=
  bif Prod.fst p0 != Prod.fst p1 then
   some (((Bool.false, ()), ()))
  else
   bif Prod.fst (Prod.snd p0) != Prod.fst (Prod.snd p1) then
    some (((Bool.false, ()), ()))
   else
    bif !Prod.snd (Prod.snd p0) == Prod.snd (Prod.snd p1) then
     some (((Bool.false, ()), ()))
    else
     some (((Bool.true, ()), ()))

noncomputable def R.L_laws_eqEventS_0 (K : Nat) : Nat → ((List ((Int) × ((Int) × (Bool)))) × ((List ((Int) × ((Int) × (Bool)))) × ((Bool) × ((Int) × Unit)))) → Option (((Bool) × Unit) ⊕ ((Bool) × Unit))
  | 0, _ => none
  | n + 1, (q0, (q1, (q2, (q3, ())))) =>
    bif Decidable.decide (q3 < (↑(List.length q0) : Int)) then
     bif Decidable.decide (0 ≤ q3) && Decidable.decide (q3 < (↑(List.length q0) : Int)) then
      bif Decidable.decide (0 ≤ q3) && Decidable.decide (q3 < (↑(List.length q1) : Int)) then
       obind (R.laws_eqEvent K (List.getD q0 (Int.toNat q3) (0, 0, Bool.false)) (List.getD q1 (Int.toNat q3) (0, 0, Bool.false))) fun v7 =>
        bif !Prod.fst (Prod.fst v7) then
         some (Sum.inr (Bool.false, ()))
        else
         R.L_laws_eqEventS_0 K n (q0, q1, q2, Go.IntKind.wrap Go.IntKind.i64 (q3 + 1), ())
      else
       none
     else
      none
    else
     some (Sum.inl (q2, ()))

noncomputable def R.laws_eqEventS (K : Nat) (p0 : List ((Int) × ((Int) × (Bool)))) (p1 : List ((Int) × ((Int) × (Bool)))) : Option (((Bool) × Unit) × Unit) :=
  bif (↑(List.length p0) : Int) != (↑(List.length p1) : Int) then
   some (((Bool.false, ()), ()))
  else
   obind (R.L_laws_eqEventS_0 K K (p0, p1, Bool.false, 0, ())) fun v3 =>
    (match v3 with
    | .inl v4 =>
     some (((Bool.true, ()), ()))
    | .inr v4 =>
     some (((Prod.fst v4, ()), ()))
    )

noncomputable def R.laws_eqWatch (K : Nat) (p0 : (List UInt8) × ((Int) × (List ((Int) × ((Int) × (Bool)))))) (p1 : (List UInt8) × ((Int) × (List ((Int) × ((Int) × (Bool)))))) : Option (((Bool) × Unit) × Unit) :=
  bif !Prod.fst p0 == Prod.fst p1 then
   some (((Bool.false, ()), ()))
  else
   bif Prod.fst (Prod.snd p0) != Prod.fst (Prod.snd p1) then
    some (((Bool.false, ()), ()))
   else
    obind (R.laws_eqEventS K (Prod.snd (Prod.snd p0)) (Prod.snd (Prod.snd p1))) fun v4 =>
     bif !Prod.fst (Prod.fst v4) then
      some (((Bool.false, ()), ()))
     else
      some (((Bool.true, ()), ()))

noncomputable def R.L_laws_markEventS_0 (K : Nat) : Nat → ((Int) × ((Int) × ((Int) × ((List ((Int) × ((Int) × (Bool)))) × Unit)))) → Option (((Int) × ((Int) × ((List ((Int) × ((Int) × (Bool)))) × Unit))) ⊕ Unit)
  | 0, _ => none
  | n + 1, (q0, (q1, (q2, (q3, ())))) =>
    bif Decidable.decide (q2 < (↑(List.length q3) : Int)) then
     bif Decidable.decide (0 ≤ q2) && Decidable.decide (q2 < (↑(List.length q3) : Int)) then
      bif Decidable.decide (0 ≤ q2) && Decidable.decide (q2 < (↑(List.length (List.set q3 (Int.toNat q2) (q0, Prod.snd (List.getD q3 (Int.toNat q2) (0, 0, Bool.false))))) : Int)) then
       bif Decidable.decide (0 ≤ q2) && Decidable.decide (q2 < (↑(List.length (List.set (List.set q3 (Int.toNat q2) (q0, Prod.snd (List.getD q3 (Int.toNat q2) (0, 0, Bool.false)))) (Int.toNat q2) (Prod.fst (List.getD (List.set q3 (Int.toNat q2) (q0, Prod.snd (List.getD q3 (Int.toNat q2) (0, 0, Bool.false)))) (Int.toNat q2) (0, 0, Bool.false)), Go.IntKind.wrap Go.IntKind.i64 (q0 + 1), Prod.snd (Prod.snd (List.getD (List.set q3 (Int.toNat q2) (q0, Prod.snd (List.getD q3 (Int.toNat q2) (0, 0, Bool.false)))) (Int.toNat q2) (0, 0, Bool.false)))))) : Int)) then
        R.L_laws_markEventS_0 K n (Go.IntKind.wrap Go.IntKind.i64 (Go.IntKind.wrap Go.IntKind.i64 (Go.IntKind.wrap Go.IntKind.i64 (q0 + 1) + 1) + 1), q1, Go.IntKind.wrap Go.IntKind.i64 (q2 + 1), List.set (List.set (List.set q3 (Int.toNat q2) (q0, Prod.snd (List.getD q3 (Int.toNat q2) (0, 0, Bool.false)))) (Int.toNat q2) (Prod.fst (List.getD (List.set q3 (Int.toNat q2) (q0, Prod.snd (List.getD q3 (Int.toNat q2) (0, 0, Bool.false)))) (Int.toNat q2) (0, 0, Bool.false)), Go.IntKind.wrap Go.IntKind.i64 (q0 + 1), Prod.snd (Prod.snd (List.getD (List.set q3 (Int.toNat q2) (q0, Prod.snd (List.getD q3 (Int.toNat q2) (0, 0, Bool.false)))) (Int.toNat q2) (0, 0, Bool.false))))) (Int.toNat q2) (Prod.fst (List.getD (List.set (List.set q3 (Int.toNat q2) (q0, Prod.snd (List.getD q3 (Int.toNat q2) (0, 0, Bool.false)))) (Int.toNat q2) (Prod.fst (List.getD (List.set q3 (Int.toNat q2) (q0, Prod.snd (List.getD q3 (Int.toNat q2) (0, 0, Bool.false)))) (Int.toNat q2) (0, 0, Bool.false)), Go.IntKind.wrap Go.IntKind.i64 (q0 + 1), Prod.snd (Prod.snd (List.getD (List.set q3 (Int.toNat q2) (q0, Prod.snd (List.getD q3 (Int.toNat q2) (0, 0, Bool.false)))) (Int.toNat q2) (0, 0, Bool.false))))) (Int.toNat q2) (0, 0, Bool.false)), Prod.fst (Prod.snd (List.getD (List.set (List.set q3 (Int.toNat q2) (q0, Prod.snd (List.getD q3 (Int.toNat q2) (0, 0, Bool.false)))) (Int.toNat q2) (Prod.fst (List.getD (List.set q3 (Int.toNat q2) (q0, Prod.snd (List.getD q3 (Int.toNat q2) (0, 0, Bool.false)))) (Int.toNat q2) (0, 0, Bool.false)), Go.IntKind.wrap Go.IntKind.i64 (q0 + 1), Prod.snd (Prod.snd (List.getD (List.set q3 (Int.toNat q2) (q0, Prod.snd (List.getD q3 (Int.toNat q2) (0, 0, Bool.false)))) (Int.toNat q2) (0, 0, Bool.false))))) (Int.toNat q2) (0, 0, Bool.false))), Int.tmod (Go.IntKind.wrap Go.IntKind.i64 (Go.IntKind.wrap Go.IntKind.i64 (q0 + 1) + 1)) 3 == 0), ())
       else
        none
      else
       none
     else
      none
    else
     some (Sum.inl (q0, q1, q3, ()))

noncomputable def R.laws_markEventS (K : Nat) (p0 : List ((Int) × ((Int) × (Bool)))) (p1 : Int) : Option (((Int) × Unit) × ((List ((Int) × ((Int) × (Bool)))) × Unit)) :=
  obind (R.L_laws_markEventS_0 K K (p1, 0, 0, p0, ())) fun v2 =>
   (match v2 with
   | .inl v3 =>
    some (((Prod.fst v3, ()), Prod.fst (Prod.snd (Prod.snd v3)), ()))
   | .inr v3 =>
    none
   )

noncomputable def R.laws_markWatch (K : Nat) (p0 : (List UInt8) × ((Int) × (List ((Int) × ((Int) × (Bool)))))) (p1 : Int) : Option (((Int) × Unit) × (((List UInt8) × ((Int) × (List ((Int) × ((Int) × (Bool)))))) × Unit)) :=
  obind (R.laws_markEventS K (Prod.snd (Prod.snd p0)) p1) fun v2 =>
   some (((Prod.fst (Prod.fst v2), ()), (Prod.fst p0, Prod.fst (Prod.snd p0), Prod.fst (Prod.snd v2)), ()))

noncomputable def R.L_laws_heldEventS_0 (K : Nat) : Nat → ((List ((Int) × ((Int) × (Bool)))) × ((Int) × ((Int) × ((Int) × Unit)))) → Option (((Int) × ((Int) × Unit)) ⊕ ((Int) × Unit))
  | 0, _ => none
  | n + 1, (q0, (q1, (q2, (q3, ())))) =>
    bif Decidable.decide (q3 < (↑(List.length q0) : Int)) then
     bif Decidable.decide (0 ≤ q3) && Decidable.decide (q3 < (↑(List.length q0) : Int)) then
      bif Prod.fst (List.getD q0 (Int.toNat q3) (0, 0, Bool.false)) != q1 then
       some (Sum.inr (-1, ()))
      else
       bif Decidable.decide (0 ≤ q3) && Decidable.decide (q3 < (↑(List.length q0) : Int)) then
        bif Prod.fst (Prod.snd (List.getD q0 (Int.toNat q3) (0, 0, Bool.false))) != Go.IntKind.wrap Go.IntKind.i64 (q1 + 1) then
         some (Sum.inr (-1, ()))
        else
         bif Decidable.decide (0 ≤ q3) && Decidable.decide (q3 < (↑(List.length q0) : Int)) then
          bif !Prod.snd (Prod.snd (List.getD q0 (Int.toNat q3) (0, 0, Bool.false))) == (Int.tmod (Go.IntKind.wrap Go.IntKind.i64 (Go.IntKind.wrap Go.IntKind.i64 (q1 + 1) + 1)) 3 == 0) then
           some (Sum.inr (-1, ()))
          else
           R.L_laws_heldEventS_0 K n (q0, Go.IntKind.wrap Go.IntKind.i64 (Go.IntKind.wrap Go.IntKind.i64 (Go.IntKind.wrap Go.IntKind.i64 (q1 + 1) + 1) + 1), q2, Go.IntKind.wrap Go.IntKind.i64 (q3 + 1), ())
         else
          none
       else
        none
     else
      none
    else
     some (Sum.inl (q1, q2, ()))

noncomputable def R.laws_heldEventS (K : Nat) (p0 : List ((Int) × ((Int) × (Bool)))) (p1 : Int) : Option (((Int) × Unit) × Unit) :=
  obind (R.L_laws_heldEventS_0 K K (p0, p1, 0, 0, ())) fun v2 =>
   (match v2 with
   | .inl v3 =>
    some (((Prod.fst v3, ()), ()))
   | .inr v3 =>
    some (((Prod.fst v3, ()), ()))
   )

noncomputable def R.laws_heldWatch (K : Nat) (p0 : (List UInt8) × ((Int) × (List ((Int) × ((Int) × (Bool)))))) (p1 : Int) : Option (((Int) × Unit) × Unit) :=
  obind (R.laws_heldEventS K (Prod.snd (Prod.snd p0)) p1) fun v2 =>
   bif Decidable.decide (Prod.fst (Prod.fst v2) < 0) then
    some (((-1, ()), ()))
   else
    some (((Prod.fst (Prod.fst v2), ()), ()))

noncomputable def R.laws_FnExactNoteRef (K : Nat) (p0 : (List UInt8) × ((Int) × (List ((Int) × ((Int) × (Bool)))))) (p1 : (List UInt8) × ((Int) × ((Int) × (Bool)))) : Option (((Bool) × Unit) × Unit) :=
  obind (R.laws_szWatch K p0 1048576) fun v2 =>
   bif Decidable.decide (Prod.fst (Prod.fst v2) < 0) then
    some (((Bool.true, ()), ()))
   else
    obind (R.laws_szRef K p1 (Prod.fst (Prod.fst v2))) fun v4 =>
     bif Decidable.decide (Prod.fst (Prod.fst v4) < 0) then
      some (((Bool.true, ()), ()))
     else
      obind (
        Fw.alt (
         obind (R.laws_toWatch K p0) fun v9 =>
          Fw.alt (
           Fw.dup (
            obind (R.spec_NoteRef K (Prod.fst (Prod.fst v9)) p1) fun v12 =>
             some ((Bool.false, Prod.fst (Prod.snd (Prod.fst v12)), Prod.fst p0, Prod.fst (Prod.snd p0), Prod.snd (Prod.snd p0), Prod.fst p1, Prod.fst (Prod.snd p1), Prod.fst (Prod.snd (Prod.snd p1)), Prod.snd (Prod.snd (Prod.snd p1)), Prod.fst (Prod.fst (Prod.fst v12)), Prod.fst (Prod.snd (Prod.fst (Prod.fst v12))), Prod.snd (Prod.snd (Prod.fst (Prod.fst v12))), ()))
           )
          ) (
           obind (R.spec_NoteRef K (Prod.fst (Prod.fst v9)) p1) fun v11 =>
            some ((Bool.false, Prod.fst (Prod.snd (Prod.fst v11)), Prod.fst p0, Prod.fst (Prod.snd p0), Prod.snd (Prod.snd p0), Prod.fst p1, Prod.fst (Prod.snd p1), Prod.fst (Prod.snd (Prod.snd p1)), Prod.snd (Prod.snd (Prod.snd p1)), Prod.fst (Prod.fst (Prod.fst v11)), Prod.fst (Prod.snd (Prod.fst (Prod.fst v11))), Prod.snd (Prod.snd (Prod.fst (Prod.fst v11))), ()))
          )
        ) (
         obind (R.laws_toWatch K p0) fun v9 =>
          obind (R.spec_NoteRef K (Prod.fst (Prod.fst v9)) p1) fun v10 =>
           some ((Bool.false, Prod.fst (Prod.snd (Prod.fst v10)), Prod.fst p0, Prod.fst (Prod.snd p0), Prod.snd (Prod.snd p0), Prod.fst p1, Prod.fst (Prod.snd p1), Prod.fst (Prod.snd (Prod.snd p1)), Prod.snd (Prod.snd (Prod.snd p1)), Prod.fst (Prod.fst (Prod.fst v10)), Prod.fst (Prod.snd (Prod.fst (Prod.fst v10))), Prod.snd (Prod.snd (Prod.fst (Prod.fst v10))), ()))
        )
       ) fun (v6 : Bool × Int × List UInt8 × Int × List (Int × Int × Bool) × List UInt8 × Int × Int × Bool × List UInt8 × Int × List (Int × Int × Bool) × PUnit) =>
       obind (R.laws_toWatch K (Prod.fst (Prod.snd (Prod.snd v6)), Prod.fst (Prod.snd (Prod.snd (Prod.snd v6))), Prod.fst (Prod.snd (Prod.snd (Prod.snd (Prod.snd v6)))))) fun v7 =>
        obind (
          Fw.alt (
           Fw.dup (
            obind (R.impl_NoteRef K (Prod.fst (Prod.fst v7)) (Prod.fst (Prod.snd (Prod.snd (Prod.snd (Prod.snd (Prod.snd v6))))), Prod.fst (Prod.snd (Prod.snd (Prod.snd (Prod.snd (Prod.snd (Prod.snd v6)))))), Prod.fst (Prod.snd (Prod.snd (Prod.snd (Prod.snd (Prod.snd (Prod.snd (Prod.snd v6))))))), Prod.fst (Prod.snd (Prod.snd (Prod.snd (Prod.snd (Prod.snd (Prod.snd (Prod.snd (Prod.snd v6)))))))))) fun v12 =>
             some ((Prod.fst v6, Prod.fst (Prod.snd v6), Prod.fst (Prod.snd (Prod.fst v12)), Prod.fst (Prod.snd (Prod.snd v6)), Prod.fst (Prod.snd (Prod.snd (Prod.snd v6))), Prod.fst (Prod.snd (Prod.snd (Prod.snd (Prod.snd v6)))), Prod.fst (Prod.snd (Prod.snd (Prod.snd (Prod.snd (Prod.snd v6))))), Prod.fst (Prod.snd (Prod.snd (Prod.snd (Prod.snd (Prod.snd (Prod.snd v6)))))), Prod.fst (Prod.snd (Prod.snd (Prod.snd (Prod.snd (Prod.snd (Prod.snd (Prod.snd v6))))))), Prod.fst (Prod.snd (Prod.snd (Prod.snd (Prod.snd (Prod.snd (Prod.snd (Prod.snd (Prod.snd v6)))))))), Prod.fst (Prod.snd (Prod.snd (Prod.snd (Prod.snd (Prod.snd (Prod.snd (Prod.snd (Prod.snd (Prod.snd v6))))))))), Prod.fst (Prod.snd (Prod.snd (Prod.snd (Prod.snd (Prod.snd (Prod.snd (Prod.snd (Prod.snd (Prod.snd (Prod.snd v6)))))))))), Prod.fst (Prod.fst (Prod.fst v7)), Prod.fst (Prod.snd (Prod.fst (Prod.fst v7))), Prod.fst (Prod.fst (Prod.fst v12)), Prod.fst (Prod.snd (Prod.fst (Prod.fst v12))), Prod.fst (Prod.snd (Prod.snd (Prod.snd (Prod.snd (Prod.snd (Prod.snd (Prod.snd (Prod.snd (Prod.snd (Prod.snd (Prod.snd v6))))))))))), Prod.snd (Prod.snd (Prod.fst (Prod.fst v7))), Prod.snd (Prod.snd (Prod.fst (Prod.fst v12))), ()))
           )
          ) (
           obind (R.impl_NoteRef K (Prod.fst (Prod.fst v7)) (Prod.fst (Prod.snd (Prod.snd (Prod.snd (Prod.snd (Prod.snd v6))))), Prod.fst (Prod.snd (Prod.snd (Prod.snd (Prod.snd (Prod.snd (Prod.snd v6)))))), Prod.fst (Prod.snd (Prod.snd (Prod.snd (Prod.snd (Prod.snd (Prod.snd (Prod.snd v6))))))), Prod.fst (Prod.snd (Prod.snd (Prod.snd (Prod.snd (Prod.snd (Prod.snd (Prod.snd (Prod.snd v6)))))))))) fun v11 =>
            some ((Prod.fst v6, Prod.fst (Prod.snd v6), Prod.fst (Prod.snd (Prod.fst v11)), Prod.fst (Prod.snd (Prod.snd v6)), Prod.fst (Prod.snd (Prod.snd (Prod.snd v6))), Prod.fst (Prod.snd (Prod.snd (Prod.snd (Prod.snd v6)))), Prod.fst (Prod.snd (Prod.snd (Prod.snd (Prod.snd (Prod.snd v6))))), Prod.fst (Prod.snd (Prod.snd (Prod.snd (Prod.snd (Prod.snd (Prod.snd v6)))))), Prod.fst (Prod.snd (Prod.snd (Prod.snd (Prod.snd (Prod.snd (Prod.snd (Prod.snd v6))))))), Prod.fst (Prod.snd (Prod.snd (Prod.snd (Prod.snd (Prod.snd (Prod.snd (Prod.snd (Prod.snd v6)))))))), Prod.fst (Prod.snd (Prod.snd (Prod.snd (Prod.snd (Prod.snd (Prod.snd (Prod.snd (Prod.snd (Prod.snd v6))))))))), Prod.fst (Prod.snd (Prod.snd (Prod.snd (Prod.snd (Prod.snd (Prod.snd (Prod.snd (Prod.snd (Prod.snd (Prod.snd v6)))))))))), Prod.fst (Prod.fst (Prod.fst v7)), Prod.fst (Prod.snd (Prod.fst (Prod.fst v7))), Prod.fst (Prod.fst (Prod.fst v11)), Prod.fst (Prod.snd (Prod.fst (Prod.fst v11))), Prod.fst (Prod.snd (Prod.snd (Prod.snd (Prod.snd (Prod.snd (Prod.snd (Prod.snd (Prod.snd (Prod.snd (Prod.snd (Prod.snd v6))))))))))), Prod.snd (Prod.snd (Prod.fst (Prod.fst v7))), Prod.snd (Prod.snd (Prod.fst (Prod.fst v11))), ()))
          )
         ) fun (v8 : Bool × Int × Int × List UInt8 × Int × List (Int × Int × Bool) × List UInt8 × Int × Int × Bool × List UInt8 × Int × List UInt8 × Int × List UInt8 × Int × List (Int × Int × Bool) × List (Int × Int × Bool) × List (Int × Int × Bool) × PUnit) =>
         obind (R.laws_eqWatch K (Prod.fst (Prod.snd (Prod.snd (Prod.snd (Prod.snd (Prod.snd (Prod.snd (Prod.snd (Prod.snd (Prod.snd (Prod.snd (Prod.snd (Prod.snd (Prod.snd (Prod.snd v8)))))))))))))), Prod.fst (Prod.snd (Prod.snd (Prod.snd (Prod.snd (Prod.snd (Prod.snd (Prod.snd (Prod.snd (Prod.snd (Prod.snd (Prod.snd (Prod.snd (Prod.snd (Prod.snd (Prod.snd v8))))))))))))))), Prod.fst (Prod.snd (Prod.snd (Prod.snd (Prod.snd (Prod.snd (Prod.snd (Prod.snd (Prod.snd (Prod.snd (Prod.snd (Prod.snd (Prod.snd (Prod.snd (Prod.snd (Prod.snd (Prod.snd (Prod.snd (Prod.snd v8))))))))))))))))))) (Prod.fst (Prod.snd (Prod.snd (Prod.snd (Prod.snd (Prod.snd (Prod.snd (Prod.snd (Prod.snd (Prod.snd (Prod.snd v8)))))))))), Prod.fst (Prod.snd (Prod.snd (Prod.snd (Prod.snd (Prod.snd (Prod.snd (Prod.snd (Prod.snd (Prod.snd (Prod.snd (Prod.snd v8))))))))))), Prod.fst (Prod.snd (Prod.snd (Prod.snd (Prod.snd (Prod.snd (Prod.snd (Prod.snd (Prod.snd (Prod.snd (Prod.snd (Prod.snd (Prod.snd (Prod.snd (Prod.snd (Prod.snd (Prod.snd v8)))))))))))))))))) fun v9 =>
          bif !Prod.fst (Prod.fst v9) then
           some (((Bool.false, ()), ()))
          else
           bif Prod.fst (Prod.snd (Prod.snd v8)) != Prod.fst (Prod.snd v8) then
            some (((Bool.false, ()), ()))
           else
            obind (R.laws_toWatch K (Prod.fst (Prod.snd (Prod.snd (Prod.snd v8))), Prod.fst (Prod.snd (Prod.snd (Prod.snd (Prod.snd v8)))), Prod.fst (Prod.snd (Prod.snd (Prod.snd (Prod.snd (Prod.snd v8))))))) fun v12 =>
             obind (R.laws_eqWatch K (Prod.fst (Prod.snd (Prod.snd (Prod.snd (Prod.snd (Prod.snd (Prod.snd (Prod.snd (Prod.snd (Prod.snd (Prod.snd (Prod.snd (Prod.snd v8)))))))))))), Prod.fst (Prod.snd (Prod.snd (Prod.snd (Prod.snd (Prod.snd (Prod.snd (Prod.snd (Prod.snd (Prod.snd (Prod.snd (Prod.snd (Prod.snd (Prod.snd v8))))))))))))), Prod.fst (Prod.snd (Prod.snd (Prod.snd (Prod.snd (Prod.snd (Prod.snd (Prod.snd (Prod.snd (Prod.snd (Prod.snd (Prod.snd (Prod.snd (Prod.snd (Prod.snd (Prod.snd (Prod.snd (Prod.snd v8)))))))))))))))))) (Prod.fst (Prod.fst v12))) fun v13 =>
              bif !Prod.fst (Prod.fst v13) then
               some (((Bool.false, ()), ()))
              else
               obind (R.laws_markWatch K (Prod.fst (Prod.snd (Prod.snd (Prod.snd (Prod.snd (Prod.snd (Prod.snd (Prod.snd (Prod.snd (Prod.snd (Prod.snd (Prod.snd (Prod.snd v8)))))))))))), Prod.fst (Prod.snd (Prod.snd (Prod.snd (Prod.snd (Prod.snd (Prod.snd (Prod.snd (Prod.snd (Prod.snd (Prod.snd (Prod.snd (Prod.snd (Prod.snd v8))))))))))))), Prod.fst (Prod.snd (Prod.snd (Prod.snd (Prod.snd (Prod.snd (Prod.snd (Prod.snd (Prod.snd (Prod.snd (Prod.snd (Prod.snd (Prod.snd (Prod.snd (Prod.snd (Prod.snd (Prod.snd (Prod.snd v8)))))))))))))))))) 1) fun v15 =>
                bif Decidable.decide (Prod.fst (Prod.fst v15) < 0) then
                 some (((Bool.false, ()), ()))
                else
                 obind (R.laws_eqWatch K (Prod.fst (Prod.snd (Prod.snd (Prod.snd (Prod.snd (Prod.snd (Prod.snd (Prod.snd (Prod.snd (Prod.snd (Prod.snd (Prod.snd (Prod.snd (Prod.snd (Prod.snd v8)))))))))))))), Prod.fst (Prod.snd (Prod.snd (Prod.snd (Prod.snd (Prod.snd (Prod.snd (Prod.snd (Prod.snd (Prod.snd (Prod.snd (Prod.snd (Prod.snd (Prod.snd (Prod.snd (Prod.snd v8))))))))))))))), Prod.fst (Prod.snd (Prod.snd (Prod.snd (Prod.snd (Prod.snd (Prod.snd (Prod.snd (Prod.snd (Prod.snd (Prod.snd (Prod.snd (Prod.snd (Prod.snd (Prod.snd (Prod.snd (Prod.snd (Prod.snd (Prod.snd v8))))))))))))))))))) (Prod.fst (Prod.snd (Prod.snd (Prod.snd (Prod.snd (Prod.snd (Prod.snd (Prod.snd (Prod.snd (Prod.snd (Prod.snd v8)))))))))), Prod.fst (Prod.snd (Prod.snd (Prod.snd (Prod.snd (Prod.snd (Prod.snd (Prod.snd (Prod.snd (Prod.snd (Prod.snd (Prod.snd v8))))))))))), Prod.fst (Prod.snd (Prod.snd (Prod.snd (Prod.snd (Prod.snd (Prod.snd (Prod.snd (Prod.snd (Prod.snd (Prod.snd (Prod.snd (Prod.snd (Prod.snd (Prod.snd (Prod.snd (Prod.snd v8)))))))))))))))))) fun v17 =>
                  bif !Prod.fst (Prod.fst v17) then
                   some (((Bool.false, ()), ()))
                  else
                   bif Prod.fst (Prod.snd (Prod.snd v8)) != Prod.fst (Prod.snd v8) then
                    some (((Bool.false, ()), ()))
                   else
                    obind (R.laws_markWatch K (Prod.fst (Prod.snd (Prod.snd (Prod.snd (Prod.snd (Prod.snd (Prod.snd (Prod.snd (Prod.snd (Prod.snd (Prod.snd (Prod.snd (Prod.snd (Prod.snd (Prod.snd v8)))))))))))))), Prod.fst (Prod.snd (Prod.snd (Prod.snd (Prod.snd (Prod.snd (Prod.snd (Prod.snd (Prod.snd (Prod.snd (Prod.snd (Prod.snd (Prod.snd (Prod.snd (Prod.snd (Prod.snd v8))))))))))))))), Prod.fst (Prod.snd (Prod.snd (Prod.snd (Prod.snd (Prod.snd (Prod.snd (Prod.snd (Prod.snd (Prod.snd (Prod.snd (Prod.snd (Prod.snd (Prod.snd (Prod.snd (Prod.snd (Prod.snd (Prod.snd (Prod.snd v8))))))))))))))))))) 1) fun v20 =>
                     obind (R.laws_heldWatch K (Prod.fst (Prod.snd (Prod.snd (Prod.snd (Prod.snd (Prod.snd (Prod.snd (Prod.snd (Prod.snd (Prod.snd (Prod.snd (Prod.snd (Prod.snd (Prod.snd (Prod.snd v8)))))))))))))), Prod.fst (Prod.snd (Prod.snd (Prod.snd (Prod.snd (Prod.snd (Prod.snd (Prod.snd (Prod.snd (Prod.snd (Prod.snd (Prod.snd (Prod.snd (Prod.snd (Prod.snd (Prod.snd v8))))))))))))))), Prod.snd (Prod.snd (Prod.fst (Prod.snd v20)))) 1) fun v21 =>
                      bif Decidable.decide (Prod.fst (Prod.fst v21) < 0) then
                       some (((Bool.false, ()), ()))
                      else
                       bif Prod.fst (Prod.fst v21) != Prod.fst (Prod.fst v20) then
                        some (((Bool.false, ()), ()))
                       else
                        obind (
                          Fw.alt (
                           obind (R.laws_toWatch K (Prod.fst (Prod.snd (Prod.snd (Prod.snd v8))), Prod.fst (Prod.snd (Prod.snd (Prod.snd (Prod.snd v8)))), Prod.fst (Prod.snd (Prod.snd (Prod.snd (Prod.snd (Prod.snd v8))))))) fun v27 =>
                            Fw.alt (
                             Fw.dup (
                              obind (R.impl_NoteRef K (Prod.fst (Prod.fst v27)) (Prod.fst (Prod.snd (Prod.snd (Prod.snd (Prod.snd (Prod.snd (Prod.snd v8)))))), Prod.fst (Prod.snd (Prod.snd (Prod.snd (Prod.snd (Prod.snd (Prod.snd (Prod.snd v8))))))), Prod.fst (Prod.snd (Prod.snd (Prod.snd (Prod.snd (Prod.snd (Prod.snd (Prod.snd (Prod.snd v8)))))))), Prod.fst (Prod.snd (Prod.snd (Prod.snd (Prod.snd (Prod.snd (Prod.snd (Prod.snd (Prod.snd (Prod.snd v8))))))))))) fun v30 =>
                               some ((Prod.fst v8, Prod.fst (Prod.snd v8), Prod.fst (Prod.fst v20), Prod.fst (Prod.snd (Prod.fst v30)), Prod.fst (Prod.snd (Prod.snd (Prod.snd (Prod.snd (Prod.snd (Prod.snd (Prod.snd (Prod.snd (Prod.snd (Prod.snd v8)))))))))), Prod.fst (Prod.snd (Prod.snd (Prod.snd (Prod.snd (Prod.snd (Prod.snd (Prod.snd (Prod.snd (Prod.snd (Prod.snd (Prod.snd v8))))))))))), Prod.fst (Prod.snd (Prod.snd (Prod.snd (Prod.snd (Prod.snd (Prod.snd (Prod.snd (Prod.snd (Prod.snd (Prod.snd (Prod.snd (Prod.snd (Prod.snd (Prod.snd v8)))))))))))))), Prod.fst (Prod.snd (Prod.snd (Prod.snd (Prod.snd (Prod.snd (Prod.snd (Prod.snd (Prod.snd (Prod.snd (Prod.snd (Prod.snd (Prod.snd (Prod.snd (Prod.snd (Prod.snd v8))))))))))))))), Prod.fst (Prod.fst (Prod.fst v30)), Prod.fst (Prod.snd (Prod.fst (Prod.fst v30))), Prod.fst (Prod.snd (Prod.snd (Prod.snd (Prod.snd (Prod.snd (Prod.snd (Prod.snd (Prod.snd (Prod.snd (Prod.snd (Prod.snd (Prod.snd (Prod.snd (Prod.snd (Prod.snd (Prod.snd v8)))))))))))))))), Prod.snd (Prod.snd (Prod.fst (Prod.snd v20))), Prod.snd (Prod.snd (Prod.fst (Prod.fst v30))), ()))
                             )
                            ) (
                             obind (R.impl_NoteRef K (Prod.fst (Prod.fst v27)) (Prod.fst (Prod.snd (Prod.snd (Prod.snd (Prod.snd (Prod.snd (Prod.snd v8)))))), Prod.fst (Prod.snd (Prod.snd (Prod.snd (Prod.snd (Prod.snd (Prod.snd (Prod.snd v8))))))), Prod.fst (Prod.snd (Prod.snd (Prod.snd (Prod.snd (Prod.snd (Prod.snd (Prod.snd (Prod.snd v8)))))))), Prod.fst (Prod.snd (Prod.snd (Prod.snd (Prod.snd (Prod.snd (Prod.snd (Prod.snd (Prod.snd (Prod.snd v8))))))))))) fun v29 =>
                              some ((Prod.fst v8, Prod.fst (Prod.snd v8), Prod.fst (Prod.fst v20), Prod.fst (Prod.snd (Prod.fst v29)), Prod.fst (Prod.snd (Prod.snd (Prod.snd (Prod.snd (Prod.snd (Prod.snd (Prod.snd (Prod.snd (Prod.snd (Prod.snd v8)))))))))), Prod.fst (Prod.snd (Prod.snd (Prod.snd (Prod.snd (Prod.snd (Prod.snd (Prod.snd (Prod.snd (Prod.snd (Prod.snd (Prod.snd v8))))))))))), Prod.fst (Prod.snd (Prod.snd (Prod.snd (Prod.snd (Prod.snd (Prod.snd (Prod.snd (Prod.snd (Prod.snd (Prod.snd (Prod.snd (Prod.snd (Prod.snd (Prod.snd v8)))))))))))))), Prod.fst (Prod.snd (Prod.snd (Prod.snd (Prod.snd (Prod.snd (Prod.snd (Prod.snd (Prod.snd (Prod.snd (Prod.snd (Prod.snd (Prod.snd (Prod.snd (Prod.snd (Prod.snd v8))))))))))))))), Prod.fst (Prod.fst (Prod.fst v29)), Prod.fst (Prod.snd (Prod.fst (Prod.fst v29))), Prod.fst (Prod.snd (Prod.snd (Prod.snd (Prod.snd (Prod.snd (Prod.snd (Prod.snd (Prod.snd (Prod.snd (Prod.snd (Prod.snd (Prod.snd (Prod.snd (Prod.snd (Prod.snd (Prod.snd v8)))))))))))))))), Prod.snd (Prod.snd (Prod.fst (Prod.snd v20))), Prod.snd (Prod.snd (Prod.fst (Prod.fst v29))), ()))
                            )
                          ) (
                           obind (R.laws_toWatch K (Prod.fst (Prod.snd (Prod.snd (Prod.snd v8))), Prod.fst (Prod.snd (Prod.snd (Prod.snd (Prod.snd v8)))), Prod.fst (Prod.snd (Prod.snd (Prod.snd (Prod.snd (Prod.snd v8))))))) fun v27 =>
                            obind (R.impl_NoteRef K (Prod.fst (Prod.fst v27)) (Prod.fst (Prod.snd (Prod.snd (Prod.snd (Prod.snd (Prod.snd (Prod.snd v8)))))), Prod.fst (Prod.snd (Prod.snd (Prod.snd (Prod.snd (Prod.snd (Prod.snd (Prod.snd v8))))))), Prod.fst (Prod.snd (Prod.snd (Prod.snd (Prod.snd (Prod.snd (Prod.snd (Prod.snd (Prod.snd v8)))))))), Prod.fst (Prod.snd (Prod.snd (Prod.snd (Prod.snd (Prod.snd (Prod.snd (Prod.snd (Prod.snd (Prod.snd v8))))))))))) fun v28 =>
                             some ((Prod.fst v8, Prod.fst (Prod.snd v8), Prod.fst (Prod.fst v20), Prod.fst (Prod.snd (Prod.fst v28)), Prod.fst (Prod.snd (Prod.snd (Prod.snd (Prod.snd (Prod.snd (Prod.snd (Prod.snd (Prod.snd (Prod.snd (Prod.snd v8)))))))))), Prod.fst (Prod.snd (Prod.snd (Prod.snd (Prod.snd (Prod.snd (Prod.snd (Prod.snd (Prod.snd (Prod.snd (Prod.snd (Prod.snd v8))))))))))), Prod.fst (Prod.snd (Prod.snd (Prod.snd (Prod.snd (Prod.snd (Prod.snd (Prod.snd (Prod.snd (Prod.snd (Prod.snd (Prod.snd (Prod.snd (Prod.snd (Prod.snd v8)))))))))))))), Prod.fst (Prod.snd (Prod.snd (Prod.snd (Prod.snd (Prod.snd (Prod.snd (Prod.snd (Prod.snd (Prod.snd (Prod.snd (Prod.snd (Prod.snd (Prod.snd (Prod.snd (Prod.snd v8))))))))))))))), Prod.fst (Prod.fst (Prod.fst v28)), Prod.fst (Prod.snd (Prod.fst (Prod.fst v28))), Prod.fst (Prod.snd (Prod.snd (Prod.snd (Prod.snd (Prod.snd (Prod.snd (Prod.snd (Prod.snd (Prod.snd (Prod.snd (Prod.snd (Prod.snd (Prod.snd (Prod.snd (Prod.snd (Prod.snd v8)))))))))))))))), Prod.snd (Prod.snd (Prod.fst (Prod.snd v20))), Prod.snd (Prod.snd (Prod.fst (Prod.fst v28))), ()))
                          )
                         ) fun (v24 : Bool × Int × Int × Int × List UInt8 × Int × List UInt8 × Int × List UInt8 × Int × List (Int × Int × Bool) × List (Int × Int × Bool) × List (Int × Int × Bool) × PUnit) =>
                         obind (R.laws_eqWatch K (Prod.fst (Prod.snd (Prod.snd (Prod.snd (Prod.snd (Prod.snd (Prod.snd (Prod.snd (Prod.snd v24)))))))), Prod.fst (Prod.snd (Prod.snd (Prod.snd (Prod.snd (Prod.snd (Prod.snd (Prod.snd (Prod.snd (Prod.snd v24))))))))), Prod.fst (Prod.snd (Prod.snd (Prod.snd (Prod.snd (Prod.snd (Prod.snd (Prod.snd (Prod.snd (Prod.snd (Prod.snd (Prod.snd (Prod.snd v24))))))))))))) (Prod.fst (Prod.snd (Prod.snd (Prod.snd (Prod.snd v24)))), Prod.fst (Prod.snd (Prod.snd (Prod.snd (Prod.snd (Prod.snd v24))))), Prod.fst (Prod.snd (Prod.snd (Prod.snd (Prod.snd (Prod.snd (Prod.snd (Prod.snd (Prod.snd (Prod.snd (Prod.snd v24)))))))))))) fun v25 =>
                          bif !Prod.fst (Prod.fst v25) then
                           some (((Bool.false, ()), ()))
                          else
                           bif Prod.fst (Prod.snd (Prod.snd (Prod.snd v24))) != Prod.fst (Prod.snd v24) then
                            some (((Bool.false, ()), ()))
                           else
                            obind (R.laws_heldWatch K (Prod.fst (Prod.snd (Prod.snd (Prod.snd (Prod.snd (Prod.snd (Prod.snd v24)))))), Prod.fst (Prod.snd (Prod.snd (Prod.snd (Prod.snd (Prod.snd (Prod.snd (Prod.snd v24))))))), Prod.fst (Prod.snd (Prod.snd (Prod.snd (Prod.snd (Prod.snd (Prod.snd (Prod.snd (Prod.snd (Prod.snd (Prod.snd (Prod.snd v24)))))))))))) 1) fun v28 =>
                             bif Decidable.decide (Prod.fst (Prod.fst v28) < 0) then
                              some (((Bool.false, ()), ()))
                             else
                              bif Prod.fst (Prod.fst v28) != Prod.fst (Prod.snd (Prod.snd v24)) then
                               some (((Bool.false, ()), ()))
                              else
                               some (((Bool.true, ()), ()))

end Go.Proofs
