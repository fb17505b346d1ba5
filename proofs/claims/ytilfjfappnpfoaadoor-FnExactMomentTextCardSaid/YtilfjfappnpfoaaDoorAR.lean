/- What the functions come to, printed by a program of the prover's own. -/
import Derived.Test.YtilfjfappnpfoaaDoorFwLa
set_option linter.all false
namespace Go.Proofs
open Go Fw
set_option maxRecDepth 100000
noncomputable def R.laws_szEdit (K : Nat) (p0 : (List UInt8) × ((Int) × (Bool))) (p1 : Int) : Option (((Int) × Unit) × Unit) :=
  bif Decidable.decide (Go.IntKind.wrap Go.IntKind.i64 (p1 - (↑(List.length (Prod.fst p0)) : Int)) < 0) then
   some (((-1, ()), ()))
  else
   some (((Go.IntKind.wrap Go.IntKind.i64 (p1 - (↑(List.length (Prod.fst p0)) : Int)), ()), ()))

noncomputable def R.L_laws_szEditS_0 (K : Nat) : Nat → ((List ((List UInt8) × ((Int) × (Bool)))) × ((Int) × ((Int) × ((Int) × Unit)))) → Option (((Int) × ((Int) × Unit)) ⊕ ((Int) × Unit))
  | 0, _ => none
  | n + 1, (q0, (q1, (q2, (q3, ())))) =>
    bif Decidable.decide (q3 < (↑(List.length q0) : Int)) then
     bif Decidable.decide (0 ≤ q3) && Decidable.decide (q3 < (↑(List.length q0) : Int)) then
      obind (R.laws_szEdit K (List.getD q0 (Int.toNat q3) ([], 0, Bool.false)) q1) fun v6 =>
       bif Decidable.decide (Prod.fst (Prod.fst v6) < 0) then
        some (Sum.inr (-1, ()))
       else
        R.L_laws_szEditS_0 K n (q0, Prod.fst (Prod.fst v6), q2, Go.IntKind.wrap Go.IntKind.i64 (q3 + 1), ())
     else
      none
    else
     some (Sum.inl (q1, q2, ()))

noncomputable def R.laws_szEditS (K : Nat) (p0 : List ((List UInt8) × ((Int) × (Bool)))) (p1 : Int) : Option (((Int) × Unit) × Unit) :=
  bif Decidable.decide (Go.IntKind.wrap Go.IntKind.i64 (p1 - (↑(List.length p0) : Int)) < 0) then
   some (((-1, ()), ()))
  else
   obind (R.L_laws_szEditS_0 K K (p0, Go.IntKind.wrap Go.IntKind.i64 (p1 - (↑(List.length p0) : Int)), 0, 0, ())) fun v3 =>
    (match v3 with
    | .inl v4 =>
     some (((Prod.fst v4, ()), ()))
    | .inr v4 =>
     some (((Prod.fst v4, ()), ()))
    )

noncomputable def R.laws_szWish (K : Nat) (p0 : (Int) × ((List UInt8) × ((List UInt8) × ((List UInt8) × (List ((List UInt8) × ((Int) × (Bool)))))))) (p1 : Int) : Option (((Int) × Unit) × Unit) :=
  bif Decidable.decide (Go.IntKind.wrap Go.IntKind.i64 (p1 - (↑(List.length (Prod.fst (Prod.snd p0))) : Int)) < 0) then
   some (((-1, ()), ()))
  else
   bif Decidable.decide (Go.IntKind.wrap Go.IntKind.i64 (Go.IntKind.wrap Go.IntKind.i64 (p1 - (↑(List.length (Prod.fst (Prod.snd p0))) : Int)) - (↑(List.length (Prod.fst (Prod.snd (Prod.snd p0)))) : Int)) < 0) then
    some (((-1, ()), ()))
   else
    bif Decidable.decide (Go.IntKind.wrap Go.IntKind.i64 (Go.IntKind.wrap Go.IntKind.i64 (Go.IntKind.wrap Go.IntKind.i64 (p1 - (↑(List.length (Prod.fst (Prod.snd p0))) : Int)) - (↑(List.length (Prod.fst (Prod.snd (Prod.snd p0)))) : Int)) - (↑(List.length (Prod.fst (Prod.snd (Prod.snd (Prod.snd p0))))) : Int)) < 0) then
     some (((-1, ()), ()))
    else
     obind (R.laws_szEditS K (Prod.snd (Prod.snd (Prod.snd (Prod.snd p0)))) (Go.IntKind.wrap Go.IntKind.i64 (Go.IntKind.wrap Go.IntKind.i64 (Go.IntKind.wrap Go.IntKind.i64 (p1 - (↑(List.length (Prod.fst (Prod.snd p0))) : Int)) - (↑(List.length (Prod.fst (Prod.snd (Prod.snd p0)))) : Int)) - (↑(List.length (Prod.fst (Prod.snd (Prod.snd (Prod.snd p0))))) : Int)))) fun v5 =>
      bif Decidable.decide (Prod.fst (Prod.fst v5) < 0) then
       some (((-1, ()), ()))
      else
       some (((Prod.fst (Prod.fst v5), ()), ()))

noncomputable def R.laws_toEdit (K : Nat) (p0 : (List UInt8) × ((Int) × (Bool))) : Option ((((List UInt8) × ((Int) × (Bool))) × Unit) × Unit) :=
  some (((p0, ()), ()))

noncomputable def R.L_laws_toEditS_0 (K : Nat) : Nat → ((List ((List UInt8) × ((Int) × (Bool)))) × ((Int) × ((List ((List UInt8) × ((Int) × (Bool)))) × ((List ((List UInt8) × ((Int) × (Bool)))) × Unit)))) → Option (((List ((List UInt8) × ((Int) × (Bool)))) × ((List ((List UInt8) × ((Int) × (Bool)))) × Unit)) ⊕ Unit)
  | 0, _ => none
  | n + 1, (q0, (q1, (q2, (q3, ())))) =>
    bif Decidable.decide (q1 < (↑(List.length q0) : Int)) then
     bif Decidable.decide (0 ≤ q1) && Decidable.decide (q1 < (↑(List.length q0) : Int)) then
      bif Decidable.decide (0 ≤ q1) && Decidable.decide (q1 < (↑(List.length q3) : Int)) then
       R.L_laws_toEditS_0 K n (q0, Go.IntKind.wrap Go.IntKind.i64 (q1 + 1), q2, List.set q3 (Int.toNat q1) (List.getD q0 (Int.toNat q1) ([], 0, Bool.false)), ())
      else
       none
     else
      none
    else
     some (Sum.inl (q2, q3, ()))

noncomputable def R.laws_toEditS (K : Nat) (p0 : List ((List UInt8) × ((Int) × (Bool)))) : Option (((List ((List UInt8) × ((Int) × (Bool)))) × Unit) × Unit) :=
  bif Decidable.decide (0 ≤ (↑(List.length p0) : Int)) && Decidable.decide ((↑(List.length p0) : Int) ≤ (↑(List.length p0) : Int)) && Decidable.decide ((↑(List.length p0) : Int) ≤ (↑268435456 : Int)) then
   obind (R.L_laws_toEditS_0 K K (p0, 0, [], List.replicate (Int.toNat (↑(List.length p0) : Int)) ([], 0, Bool.false), ())) fun v3 =>
    (match v3 with
    | .inl v4 =>
     some (((Prod.fst (Prod.snd v4), ()), ()))
    | .inr v4 =>
     none
    )
  else
   none

noncomputable def R.laws_toWish (K : Nat) (p0 : (Int) × ((List UInt8) × ((List UInt8) × ((List UInt8) × (List ((List UInt8) × ((Int) × (Bool)))))))) : Option ((((Int) × ((List UInt8) × ((List UInt8) × ((List UInt8) × (List ((List UInt8) × ((Int) × (Bool)))))))) × Unit) × Unit) :=
  obind (R.laws_toEditS K (Prod.snd (Prod.snd (Prod.snd (Prod.snd p0))))) fun v2 =>
   some ((((Prod.fst p0, Prod.fst (Prod.snd p0), Prod.fst (Prod.snd (Prod.snd p0)), Prod.fst (Prod.snd (Prod.snd (Prod.snd p0))), Prod.fst (Prod.fst v2)), ()), ()))

noncomputable def R.spec_l00Letter (K : Nat) (p0 : Int) : Option (((Bool) × Unit) × Unit) :=
  bif Decidable.decide (p0 ≥ 97) then
   bif Decidable.decide (p0 ≤ 122) then
    some (((Bool.true, ()), ()))
   else
    bif Decidable.decide (p0 ≥ 65) then
     bif Decidable.decide (p0 ≤ 90) then
      some (((Bool.true, ()), ()))
     else
      some (((p0 == 95, ()), ()))
    else
     some (((p0 == 95, ()), ()))
  else
   bif Decidable.decide (p0 ≥ 65) then
    bif Decidable.decide (p0 ≤ 90) then
     some (((Bool.true, ()), ()))
    else
     some (((p0 == 95, ()), ()))
   else
    some (((p0 == 95, ()), ()))

noncomputable def R.spec_l00Digit (K : Nat) (p0 : Int) : Option (((Bool) × Unit) × Unit) :=
  bif Decidable.decide (p0 ≥ 48) then
   some (((Decidable.decide (p0 ≤ 57), ()), ()))
  else
   some (((Bool.false, ()), ()))

noncomputable def R.L_spec_l00Word_0 (K : Nat) : Nat → ((List UInt8) × ((Bool) × ((Int) × Unit))) → Option (((Bool) × Unit) ⊕ ((Bool) × Unit))
  | 0, _ => none
  | n + 1, (q0, (q1, (q2, ()))) =>
    bif Decidable.decide (q2 < (↑(List.length q0) : Int)) then
     bif Decidable.decide (0 ≤ q2) && Decidable.decide (q2 < (↑(List.length q0) : Int)) then
      obind (R.spec_l00Letter K (↑(UInt8.toNat (List.getD q0 (Int.toNat q2) 0)) : Int)) fun v6 =>
       bif !Prod.fst (Prod.fst v6) then
        bif Decidable.decide (0 ≤ q2) && Decidable.decide (q2 < (↑(List.length q0) : Int)) then
         obind (R.spec_l00Digit K (↑(UInt8.toNat (List.getD q0 (Int.toNat q2) 0)) : Int)) fun v9 =>
          bif !Prod.fst (Prod.fst v9) then
           some (Sum.inr (Bool.false, ()))
          else
           R.L_spec_l00Word_0 K n (q0, q1, Go.IntKind.wrap Go.IntKind.i64 (q2 + 1), ())
        else
         none
       else
        R.L_spec_l00Word_0 K n (q0, q1, Go.IntKind.wrap Go.IntKind.i64 (q2 + 1), ())
     else
      none
    else
     some (Sum.inl (q1, ()))

noncomputable def R.spec_l00Word (K : Nat) (p0 : List UInt8) : Option (((Bool) × Unit) × Unit) :=
  bif Decidable.decide ((↑(List.length p0) : Int) < 1) then
   some (((Bool.false, ()), ()))
  else
   bif Decidable.decide ((↑(List.length p0) : Int) > 12) then
    some (((Bool.false, ()), ()))
   else
    bif Decidable.decide (0 ≤ 0) && Decidable.decide (0 < (↑(List.length p0) : Int)) then
     obind (R.spec_l00Letter K (↑(UInt8.toNat (List.getD p0 (Int.toNat 0) 0)) : Int)) fun v5 =>
      bif !Prod.fst (Prod.fst v5) then
       some (((Bool.false, ()), ()))
      else
       obind (R.L_spec_l00Word_0 K K (p0, Bool.false, 1, ())) fun v7 =>
        (match v7 with
        | .inl v8 =>
         some (((Bool.true, ()), ()))
        | .inr v8 =>
         some (((Prod.fst v8, ()), ()))
        )
    else
     none

noncomputable def R.spec_l01In (K : Nat) (p0 : Int) (p1 : Int) (p2 : Int) : Option (((Bool) × Unit) × Unit) :=
  bif Decidable.decide (p0 ≥ p1) then
   some (((Decidable.decide (p0 ≤ p2), ()), ()))
  else
   some (((Bool.false, ()), ()))

noncomputable def R.L_spec_l01Edits_0 (K : Nat) : Nat → ((List ((List UInt8) × ((Int) × (Bool)))) × ((Bool) × ((Int) × Unit))) → Option (((Bool) × Unit) ⊕ ((Bool) × Unit))
  | 0, _ => none
  | n + 1, (q0, (q1, (q2, ()))) =>
    bif Decidable.decide (q2 < (↑(List.length q0) : Int)) then
     bif Decidable.decide (0 ≤ q2) && Decidable.decide (q2 < (↑(List.length q0) : Int)) then
      obind (R.spec_l00Word K (Prod.fst (List.getD q0 (Int.toNat q2) ([], 0, Bool.false)))) fun v6 =>
       bif !Prod.fst (Prod.fst v6) then
        some (Sum.inr (Bool.false, ()))
       else
        obind (R.spec_l01In K (Prod.fst (Prod.snd (List.getD q0 (Int.toNat q2) ([], 0, Bool.false)))) (-1000000) 1000000) fun v8 =>
         bif !Prod.fst (Prod.fst v8) then
          some (Sum.inr (Bool.false, ()))
         else
          bif Prod.snd (Prod.snd (List.getD q0 (Int.toNat q2) ([], 0, Bool.false))) then
           bif Prod.fst (Prod.snd (List.getD q0 (Int.toNat q2) ([], 0, Bool.false))) != 0 then
            some (Sum.inr (Bool.false, ()))
           else
            bif Decidable.decide (q2 > 0) then
             bif Decidable.decide (0 ≤ Go.IntKind.wrap Go.IntKind.i64 (q2 - 1)) && Decidable.decide (Go.IntKind.wrap Go.IntKind.i64 (q2 - 1) < (↑(List.length q0) : Int)) then
              bif Fw.sless (Prod.fst (List.getD q0 (Int.toNat q2) ([], 0, Bool.false))) (Prod.fst (List.getD q0 (Int.toNat (Go.IntKind.wrap Go.IntKind.i64 (q2 - 1))) ([], 0, Bool.false))) || Prod.fst (List.getD q0 (Int.toNat q2) ([], 0, Bool.false)) == Prod.fst (List.getD q0 (Int.toNat (Go.IntKind.wrap Go.IntKind.i64 (q2 - 1))) ([], 0, Bool.false)) then
               some (Sum.inr (Bool.false, ()))
              else
               R.L_spec_l01Edits_0 K n (q0, q1, Go.IntKind.wrap Go.IntKind.i64 (q2 + 1), ())
             else
              none
            else
             R.L_spec_l01Edits_0 K n (q0, q1, Go.IntKind.wrap Go.IntKind.i64 (q2 + 1), ())
          else
           bif Decidable.decide (q2 > 0) then
            bif Decidable.decide (0 ≤ Go.IntKind.wrap Go.IntKind.i64 (q2 - 1)) && Decidable.decide (Go.IntKind.wrap Go.IntKind.i64 (q2 - 1) < (↑(List.length q0) : Int)) then
             bif Fw.sless (Prod.fst (List.getD q0 (Int.toNat q2) ([], 0, Bool.false))) (Prod.fst (List.getD q0 (Int.toNat (Go.IntKind.wrap Go.IntKind.i64 (q2 - 1))) ([], 0, Bool.false))) || Prod.fst (List.getD q0 (Int.toNat q2) ([], 0, Bool.false)) == Prod.fst (List.getD q0 (Int.toNat (Go.IntKind.wrap Go.IntKind.i64 (q2 - 1))) ([], 0, Bool.false)) then
              some (Sum.inr (Bool.false, ()))
             else
              R.L_spec_l01Edits_0 K n (q0, q1, Go.IntKind.wrap Go.IntKind.i64 (q2 + 1), ())
            else
             none
           else
            R.L_spec_l01Edits_0 K n (q0, q1, Go.IntKind.wrap Go.IntKind.i64 (q2 + 1), ())
     else
      none
    else
     some (Sum.inl (q1, ()))

noncomputable def R.spec_l01Edits (K : Nat) (p0 : List ((List UInt8) × ((Int) × (Bool)))) : Option (((Bool) × Unit) × Unit) :=
  bif Decidable.decide ((↑(List.length p0) : Int) > 6) then
   some (((Bool.false, ()), ()))
  else
   obind (R.L_spec_l01Edits_0 K K (p0, Bool.false, 0, ())) fun v3 =>
    (match v3 with
    | .inl v4 =>
     some (((Bool.true, ()), ()))
    | .inr v4 =>
     some (((Prod.fst v4, ()), ()))
    )

noncomputable def R.spec_l07Wish (K : Nat) (p0 : (Int) × ((List UInt8) × ((List UInt8) × ((List UInt8) × (List ((List UInt8) × ((Int) × (Bool)))))))) : Option (((Bool) × Unit) × Unit) :=
  obind (R.spec_l00Word K (Prod.fst (Prod.snd p0))) fun v2 =>
   bif !Prod.fst (Prod.fst v2) then
    some (((Bool.false, ()), ()))
   else
    obind (R.spec_l01In K (Prod.fst p0) 1 6) fun v4 =>
     bif !Prod.fst (Prod.fst v4) then
      some (((Bool.false, ()), ()))
     else
      obind (R.spec_l01Edits K (Prod.snd (Prod.snd (Prod.snd (Prod.snd p0))))) fun v6 =>
       bif !Prod.fst (Prod.fst v6) then
        some (((Bool.false, ()), ()))
       else
        bif Prod.fst p0 != 3 then
         bif Decidable.decide ((↑(List.length (Prod.snd (Prod.snd (Prod.snd (Prod.snd p0))))) : Int) > 0) then
          some (((Bool.false, ()), ()))
         else
          bif Prod.fst p0 == 1 then
           obind (R.spec_l00Word K (Prod.fst (Prod.snd (Prod.snd p0)))) fun v11 =>
            bif Prod.fst (Prod.fst v11) then
             bif Prod.fst p0 == 5 then
              obind (R.spec_l00Word K (Prod.fst (Prod.snd (Prod.snd (Prod.snd p0))))) fun v14 =>
               bif Prod.fst (Prod.fst v14) then
                some (((Bool.true, ()), ()))
               else
                bif !Prod.fst p0 == 5 then
                 some (((Prod.fst (Prod.snd (Prod.snd (Prod.snd p0))) == Array.toList (ByteArray.data (ByteArray.mk #[])), ()), ()))
                else
                 some (((Bool.false, ()), ()))
             else
              bif !Prod.fst p0 == 5 then
               some (((Prod.fst (Prod.snd (Prod.snd (Prod.snd p0))) == Array.toList (ByteArray.data (ByteArray.mk #[])), ()), ()))
              else
               some (((Bool.false, ()), ()))
            else
             some (((Bool.false, ()), ()))
          else
           bif Prod.fst p0 == 4 then
            obind (R.spec_l00Word K (Prod.fst (Prod.snd (Prod.snd p0)))) fun v12 =>
             bif Prod.fst (Prod.fst v12) then
              bif Prod.fst p0 == 5 then
               obind (R.spec_l00Word K (Prod.fst (Prod.snd (Prod.snd (Prod.snd p0))))) fun v15 =>
                bif Prod.fst (Prod.fst v15) then
                 some (((Bool.true, ()), ()))
                else
                 bif !Prod.fst p0 == 5 then
                  some (((Prod.fst (Prod.snd (Prod.snd (Prod.snd p0))) == Array.toList (ByteArray.data (ByteArray.mk #[])), ()), ()))
                 else
                  some (((Bool.false, ()), ()))
              else
               bif !Prod.fst p0 == 5 then
                some (((Prod.fst (Prod.snd (Prod.snd (Prod.snd p0))) == Array.toList (ByteArray.data (ByteArray.mk #[])), ()), ()))
               else
                some (((Bool.false, ()), ()))
             else
              bif !Prod.fst p0 == 4 then
               bif Prod.fst (Prod.snd (Prod.snd p0)) == Array.toList (ByteArray.data (ByteArray.mk #[])) then
                bif Prod.fst p0 == 5 then
                 obind (R.spec_l00Word K (Prod.fst (Prod.snd (Prod.snd (Prod.snd p0))))) fun v17 =>
                  bif Prod.fst (Prod.fst v17) then
                   some (((Bool.true, ()), ()))
                  else
                   bif !Prod.fst p0 == 5 then
                    some (((Prod.fst (Prod.snd (Prod.snd (Prod.snd p0))) == Array.toList (ByteArray.data (ByteArray.mk #[])), ()), ()))
                   else
                    some (((Bool.false, ()), ()))
                else
                 bif !Prod.fst p0 == 5 then
                  some (((Prod.fst (Prod.snd (Prod.snd (Prod.snd p0))) == Array.toList (ByteArray.data (ByteArray.mk #[])), ()), ()))
                 else
                  some (((Bool.false, ()), ()))
               else
                some (((Bool.false, ()), ()))
              else
               some (((Bool.false, ()), ()))
           else
            bif !Prod.fst p0 == 4 then
             bif Prod.fst (Prod.snd (Prod.snd p0)) == Array.toList (ByteArray.data (ByteArray.mk #[])) then
              bif Prod.fst p0 == 5 then
               obind (R.spec_l00Word K (Prod.fst (Prod.snd (Prod.snd (Prod.snd p0))))) fun v15 =>
                bif Prod.fst (Prod.fst v15) then
                 some (((Bool.true, ()), ()))
                else
                 bif !Prod.fst p0 == 5 then
                  some (((Prod.fst (Prod.snd (Prod.snd (Prod.snd p0))) == Array.toList (ByteArray.data (ByteArray.mk #[])), ()), ()))
                 else
                  some (((Bool.false, ()), ()))
              else
               bif !Prod.fst p0 == 5 then
                some (((Prod.fst (Prod.snd (Prod.snd (Prod.snd p0))) == Array.toList (ByteArray.data (ByteArray.mk #[])), ()), ()))
               else
                some (((Bool.false, ()), ()))
             else
              some (((Bool.false, ()), ()))
            else
             some (((Bool.false, ()), ()))
        else
         bif Prod.fst p0 == 1 then
          obind (R.spec_l00Word K (Prod.fst (Prod.snd (Prod.snd p0)))) fun v10 =>
           bif Prod.fst (Prod.fst v10) then
            bif Prod.fst p0 == 5 then
             obind (R.spec_l00Word K (Prod.fst (Prod.snd (Prod.snd (Prod.snd p0))))) fun v13 =>
              bif Prod.fst (Prod.fst v13) then
               some (((Bool.true, ()), ()))
              else
               bif !Prod.fst p0 == 5 then
                some (((Prod.fst (Prod.snd (Prod.snd (Prod.snd p0))) == Array.toList (ByteArray.data (ByteArray.mk #[])), ()), ()))
               else
                some (((Bool.false, ()), ()))
            else
             bif !Prod.fst p0 == 5 then
              some (((Prod.fst (Prod.snd (Prod.snd (Prod.snd p0))) == Array.toList (ByteArray.data (ByteArray.mk #[])), ()), ()))
             else
              some (((Bool.false, ()), ()))
           else
            some (((Bool.false, ()), ()))
         else
          bif Prod.fst p0 == 4 then
           obind (R.spec_l00Word K (Prod.fst (Prod.snd (Prod.snd p0)))) fun v11 =>
            bif Prod.fst (Prod.fst v11) then
             bif Prod.fst p0 == 5 then
              obind (R.spec_l00Word K (Prod.fst (Prod.snd (Prod.snd (Prod.snd p0))))) fun v14 =>
               bif Prod.fst (Prod.fst v14) then
                some (((Bool.true, ()), ()))
               else
                bif !Prod.fst p0 == 5 then
                 some (((Prod.fst (Prod.snd (Prod.snd (Prod.snd p0))) == Array.toList (ByteArray.data (ByteArray.mk #[])), ()), ()))
                else
                 some (((Bool.false, ()), ()))
             else
              bif !Prod.fst p0 == 5 then
               some (((Prod.fst (Prod.snd (Prod.snd (Prod.snd p0))) == Array.toList (ByteArray.data (ByteArray.mk #[])), ()), ()))
              else
               some (((Bool.false, ()), ()))
            else
             bif !Prod.fst p0 == 4 then
              bif Prod.fst (Prod.snd (Prod.snd p0)) == Array.toList (ByteArray.data (ByteArray.mk #[])) then
               bif Prod.fst p0 == 5 then
                obind (R.spec_l00Word K (Prod.fst (Prod.snd (Prod.snd (Prod.snd p0))))) fun v16 =>
                 bif Prod.fst (Prod.fst v16) then
                  some (((Bool.true, ()), ()))
                 else
                  bif !Prod.fst p0 == 5 then
                   some (((Prod.fst (Prod.snd (Prod.snd (Prod.snd p0))) == Array.toList (ByteArray.data (ByteArray.mk #[])), ()), ()))
                  else
                   some (((Bool.false, ()), ()))
               else
                bif !Prod.fst p0 == 5 then
                 some (((Prod.fst (Prod.snd (Prod.snd (Prod.snd p0))) == Array.toList (ByteArray.data (ByteArray.mk #[])), ()), ()))
                else
                 some (((Bool.false, ()), ()))
              else
               some (((Bool.false, ()), ()))
             else
              some (((Bool.false, ()), ()))
          else
           bif !Prod.fst p0 == 4 then
            bif Prod.fst (Prod.snd (Prod.snd p0)) == Array.toList (ByteArray.data (ByteArray.mk #[])) then
             bif Prod.fst p0 == 5 then
              obind (R.spec_l00Word K (Prod.fst (Prod.snd (Prod.snd (Prod.snd p0))))) fun v14 =>
               bif Prod.fst (Prod.fst v14) then
                some (((Bool.true, ()), ()))
               else
                bif !Prod.fst p0 == 5 then
                 some (((Prod.fst (Prod.snd (Prod.snd (Prod.snd p0))) == Array.toList (ByteArray.data (ByteArray.mk #[])), ()), ()))
                else
                 some (((Bool.false, ()), ()))
             else
              bif !Prod.fst p0 == 5 then
               some (((Prod.fst (Prod.snd (Prod.snd (Prod.snd p0))) == Array.toList (ByteArray.data (ByteArray.mk #[])), ()), ()))
              else
               some (((Bool.false, ()), ()))
            else
             some (((Bool.false, ()), ()))
           else
            some (((Bool.false, ()), ()))

noncomputable def R.spec_l13Kinds (K : Nat) : Option (((List (List UInt8)) × Unit) × Unit) :=
  some ((([Array.toList (ByteArray.data (ByteArray.mk #[99, 114, 101, 97, 116, 101])), Array.toList (ByteArray.data (ByteArray.mk #[100, 101, 108, 101, 116, 101])), Array.toList (ByteArray.data (ByteArray.mk #[99, 111, 109, 109, 105, 116])), Array.toList (ByteArray.data (ByteArray.mk #[109, 101, 114, 103, 101])), Array.toList (ByteArray.data (ByteArray.mk #[103, 101, 116])), Array.toList (ByteArray.data (ByteArray.mk #[115, 99, 97, 110]))], ()), ()))

noncomputable def R.step_spec_l00Digits (K : Nat) (rec : (Int) → Option (((List UInt8) × Unit) × Unit)) (p0 : Int) : Option (((List UInt8) × Unit) × Unit) :=
  bif p0 == -9223372036854775808 then
   some (((Array.toList (ByteArray.data (ByteArray.mk #[45, 57, 50, 50, 51, 51, 55, 50, 48, 51, 54, 56, 53, 52, 55, 55, 53, 56, 48, 56])), ()), ()))
  else
   bif Decidable.decide (p0 < 0) then
    obind (rec (Go.IntKind.wrap Go.IntKind.i64 (0 - p0))) fun v4 =>
     bif Nat.ble (List.length (Array.toList (ByteArray.data (ByteArray.mk #[45]))) + List.length (Prod.fst (Prod.fst v4))) 268435456 then
      some (((Array.toList (ByteArray.data (ByteArray.mk #[45])) ++ Prod.fst (Prod.fst v4), ()), ()))
     else
      none
   else
    bif Decidable.decide (p0 < 10) then
     some (((Fw.bytesOut [Go.IntKind.wrap Go.IntKind.u8 (Go.IntKind.wrap Go.IntKind.i64 (48 + p0))], ()), ()))
    else
     obind (
       Fw.alt (
        obind (rec (Go.IntKind.wrap Go.IntKind.i64 (Int.tdiv p0 10))) fun v8 =>
         bif Nat.ble (List.length (Prod.fst (Prod.fst v8)) + List.length (Fw.bytesOut [Go.IntKind.wrap Go.IntKind.u8 (Go.IntKind.wrap Go.IntKind.i64 (48 + Int.tmod p0 10))])) 268435456 then
          some ((Prod.fst (Prod.fst v8) ++ Fw.bytesOut [Go.IntKind.wrap Go.IntKind.u8 (Go.IntKind.wrap Go.IntKind.i64 (48 + Int.tmod p0 10))], ()))
         else
          none
       ) (
        Fw.dup (
         obind (rec (Go.IntKind.wrap Go.IntKind.i64 (Int.tdiv p0 10))) fun v9 =>
          bif Nat.ble (List.length (Prod.fst (Prod.fst v9)) + List.length (Fw.bytesOut [Go.IntKind.wrap Go.IntKind.u8 (Go.IntKind.wrap Go.IntKind.i64 (48 + Int.tmod p0 10))])) 268435456 then
           some ((Prod.fst (Prod.fst v9) ++ Fw.bytesOut [Go.IntKind.wrap Go.IntKind.u8 (Go.IntKind.wrap Go.IntKind.i64 (48 + Int.tmod p0 10))], ()))
          else
           none
        )
       )
      ) fun (v5 : List UInt8 × PUnit) =>
      some (((Prod.fst v5, ()), ()))

noncomputable def R.spec_l00Digits (K : Nat) : Nat → (Int) → Option (((List UInt8) × Unit) × Unit)
  | 0, _ => none
  | n + 1, p0 => R.step_spec_l00Digits K (fun p0 => R.spec_l00Digits K n p0) p0
noncomputable def R.L_spec_l13Edits_0 (K : Nat) : Nat → ((List ((List UInt8) × ((Int) × (Bool)))) × ((List UInt8) × ((List UInt8) × ((Int) × Unit)))) → Option (((List UInt8) × ((List UInt8) × Unit)) ⊕ Unit)
  | 0, _ => none
  | n + 1, (q0, (q1, (q2, (q3, ())))) =>
    bif Decidable.decide (q3 < (↑(List.length q0) : Int)) then
     bif Decidable.decide (q3 > 0) then
      bif Nat.ble (List.length q2 + List.length (Array.toList (ByteArray.data (ByteArray.mk #[44])))) 268435456 then
       bif Decidable.decide (0 ≤ q3) && Decidable.decide (q3 < (↑(List.length q0) : Int)) then
        bif Prod.snd (Prod.snd (List.getD q0 (Int.toNat q3) ([], 0, Bool.false))) then
         bif Decidable.decide (0 ≤ q3) && Decidable.decide (q3 < (↑(List.length q0) : Int)) then
          bif Nat.ble (List.length (Array.toList (ByteArray.data (ByteArray.mk #[33]))) + List.length (Prod.fst (List.getD q0 (Int.toNat q3) ([], 0, Bool.false)))) 268435456 then
           bif Nat.ble (List.length (q2 ++ Array.toList (ByteArray.data (ByteArray.mk #[44]))) + List.length (Array.toList (ByteArray.data (ByteArray.mk #[33])) ++ Prod.fst (List.getD q0 (Int.toNat q3) ([], 0, Bool.false)))) 268435456 then
            R.L_spec_l13Edits_0 K n (q0, q1, q2 ++ Array.toList (ByteArray.data (ByteArray.mk #[44])) ++ (Array.toList (ByteArray.data (ByteArray.mk #[33])) ++ Prod.fst (List.getD q0 (Int.toNat q3) ([], 0, Bool.false))), Go.IntKind.wrap Go.IntKind.i64 (q3 + 1), ())
           else
            none
          else
           none
         else
          none
        else
         bif Decidable.decide (0 ≤ q3) && Decidable.decide (q3 < (↑(List.length q0) : Int)) then
          bif Nat.ble (List.length (Prod.fst (List.getD q0 (Int.toNat q3) ([], 0, Bool.false))) + List.length (Array.toList (ByteArray.data (ByteArray.mk #[61])))) 268435456 then
           bif Decidable.decide (0 ≤ q3) && Decidable.decide (q3 < (↑(List.length q0) : Int)) then
            obind (R.spec_l00Digits K K (Prod.fst (Prod.snd (List.getD q0 (Int.toNat q3) ([], 0, Bool.false))))) fun v12 =>
             bif Nat.ble (List.length (Prod.fst (List.getD q0 (Int.toNat q3) ([], 0, Bool.false)) ++ Array.toList (ByteArray.data (ByteArray.mk #[61]))) + List.length (Prod.fst (Prod.fst v12))) 268435456 then
              bif Nat.ble (List.length (q2 ++ Array.toList (ByteArray.data (ByteArray.mk #[44]))) + List.length (Prod.fst (List.getD q0 (Int.toNat q3) ([], 0, Bool.false)) ++ Array.toList (ByteArray.data (ByteArray.mk #[61])) ++ Prod.fst (Prod.fst v12))) 268435456 then
               R.L_spec_l13Edits_0 K n (q0, q1, q2 ++ Array.toList (ByteArray.data (ByteArray.mk #[44])) ++ (Prod.fst (List.getD q0 (Int.toNat q3) ([], 0, Bool.false)) ++ Array.toList (ByteArray.data (ByteArray.mk #[61])) ++ Prod.fst (Prod.fst v12)), Go.IntKind.wrap Go.IntKind.i64 (q3 + 1), ())
              else
               none
             else
              none
           else
            none
          else
           none
         else
          none
       else
        none
      else
       none
     else
      bif Decidable.decide (0 ≤ q3) && Decidable.decide (q3 < (↑(List.length q0) : Int)) then
       bif Prod.snd (Prod.snd (List.getD q0 (Int.toNat q3) ([], 0, Bool.false))) then
        bif Decidable.decide (0 ≤ q3) && Decidable.decide (q3 < (↑(List.length q0) : Int)) then
         bif Nat.ble (List.length (Array.toList (ByteArray.data (ByteArray.mk #[33]))) + List.length (Prod.fst (List.getD q0 (Int.toNat q3) ([], 0, Bool.false)))) 268435456 then
          bif Nat.ble (List.length q2 + List.length (Array.toList (ByteArray.data (ByteArray.mk #[33])) ++ Prod.fst (List.getD q0 (Int.toNat q3) ([], 0, Bool.false)))) 268435456 then
           R.L_spec_l13Edits_0 K n (q0, q1, q2 ++ (Array.toList (ByteArray.data (ByteArray.mk #[33])) ++ Prod.fst (List.getD q0 (Int.toNat q3) ([], 0, Bool.false))), Go.IntKind.wrap Go.IntKind.i64 (q3 + 1), ())
          else
           none
         else
          none
        else
         none
       else
        bif Decidable.decide (0 ≤ q3) && Decidable.decide (q3 < (↑(List.length q0) : Int)) then
         bif Nat.ble (List.length (Prod.fst (List.getD q0 (Int.toNat q3) ([], 0, Bool.false))) + List.length (Array.toList (ByteArray.data (ByteArray.mk #[61])))) 268435456 then
          bif Decidable.decide (0 ≤ q3) && Decidable.decide (q3 < (↑(List.length q0) : Int)) then
           obind (R.spec_l00Digits K K (Prod.fst (Prod.snd (List.getD q0 (Int.toNat q3) ([], 0, Bool.false))))) fun v11 =>
            bif Nat.ble (List.length (Prod.fst (List.getD q0 (Int.toNat q3) ([], 0, Bool.false)) ++ Array.toList (ByteArray.data (ByteArray.mk #[61]))) + List.length (Prod.fst (Prod.fst v11))) 268435456 then
             bif Nat.ble (List.length q2 + List.length (Prod.fst (List.getD q0 (Int.toNat q3) ([], 0, Bool.false)) ++ Array.toList (ByteArray.data (ByteArray.mk #[61])) ++ Prod.fst (Prod.fst v11))) 268435456 then
              R.L_spec_l13Edits_0 K n (q0, q1, q2 ++ (Prod.fst (List.getD q0 (Int.toNat q3) ([], 0, Bool.false)) ++ Array.toList (ByteArray.data (ByteArray.mk #[61])) ++ Prod.fst (Prod.fst v11)), Go.IntKind.wrap Go.IntKind.i64 (q3 + 1), ())
             else
              none
            else
             none
          else
           none
         else
          none
        else
         none
      else
       none
    else
     some (Sum.inl (q1, q2, ()))

noncomputable def R.spec_l13Edits (K : Nat) (p0 : List ((List UInt8) × ((Int) × (Bool)))) : Option (((List UInt8) × Unit) × Unit) :=
  bif (↑(List.length p0) : Int) == 0 then
   some (((Array.toList (ByteArray.data (ByteArray.mk #[45])), ()), ()))
  else
   obind (R.L_spec_l13Edits_0 K K (p0, Array.toList (ByteArray.data (ByteArray.mk #[])), Array.toList (ByteArray.data (ByteArray.mk #[])), 0, ())) fun v3 =>
    (match v3 with
    | .inl v4 =>
     some (((Prod.fst (Prod.snd v4), ()), ()))
    | .inr v4 =>
     none
    )

noncomputable def R.spec_l13Wish (K : Nat) (p0 : (Int) × ((List UInt8) × ((List UInt8) × ((List UInt8) × (List ((List UInt8) × ((Int) × (Bool)))))))) : Option (((List UInt8) × Unit) × Unit) :=
  bif Decidable.decide (0 ≤ Go.IntKind.wrap Go.IntKind.i64 (Prod.fst p0 - 1)) && Decidable.decide (Go.IntKind.wrap Go.IntKind.i64 (Prod.fst p0 - 1) < (↑(List.length [Array.toList (ByteArray.data (ByteArray.mk #[99, 114, 101, 97, 116, 101])), Array.toList (ByteArray.data (ByteArray.mk #[100, 101, 108, 101, 116, 101])), Array.toList (ByteArray.data (ByteArray.mk #[99, 111, 109, 109, 105, 116])), Array.toList (ByteArray.data (ByteArray.mk #[109, 101, 114, 103, 101])), Array.toList (ByteArray.data (ByteArray.mk #[103, 101, 116])), Array.toList (ByteArray.data (ByteArray.mk #[115, 99, 97, 110]))]) : Int)) then
   bif Nat.ble (List.length (List.getD [Array.toList (ByteArray.data (ByteArray.mk #[99, 114, 101, 97, 116, 101])), Array.toList (ByteArray.data (ByteArray.mk #[100, 101, 108, 101, 116, 101])), Array.toList (ByteArray.data (ByteArray.mk #[99, 111, 109, 109, 105, 116])), Array.toList (ByteArray.data (ByteArray.mk #[109, 101, 114, 103, 101])), Array.toList (ByteArray.data (ByteArray.mk #[103, 101, 116])), Array.toList (ByteArray.data (ByteArray.mk #[115, 99, 97, 110]))] (Int.toNat (Go.IntKind.wrap Go.IntKind.i64 (Prod.fst p0 - 1))) []) + List.length (Array.toList (ByteArray.data (ByteArray.mk #[32])))) 268435456 then
    bif Nat.ble (List.length (List.getD [Array.toList (ByteArray.data (ByteArray.mk #[99, 114, 101, 97, 116, 101])), Array.toList (ByteArray.data (ByteArray.mk #[100, 101, 108, 101, 116, 101])), Array.toList (ByteArray.data (ByteArray.mk #[99, 111, 109, 109, 105, 116])), Array.toList (ByteArray.data (ByteArray.mk #[109, 101, 114, 103, 101])), Array.toList (ByteArray.data (ByteArray.mk #[103, 101, 116])), Array.toList (ByteArray.data (ByteArray.mk #[115, 99, 97, 110]))] (Int.toNat (Go.IntKind.wrap Go.IntKind.i64 (Prod.fst p0 - 1))) [] ++ Array.toList (ByteArray.data (ByteArray.mk #[32]))) + List.length (Prod.fst (Prod.snd p0))) 268435456 then
     bif Prod.fst p0 == 1 then
      bif Prod.fst p0 == 1 then
       bif Nat.ble (List.length (List.getD [Array.toList (ByteArray.data (ByteArray.mk #[99, 114, 101, 97, 116, 101])), Array.toList (ByteArray.data (ByteArray.mk #[100, 101, 108, 101, 116, 101])), Array.toList (ByteArray.data (ByteArray.mk #[99, 111, 109, 109, 105, 116])), Array.toList (ByteArray.data (ByteArray.mk #[109, 101, 114, 103, 101])), Array.toList (ByteArray.data (ByteArray.mk #[103, 101, 116])), Array.toList (ByteArray.data (ByteArray.mk #[115, 99, 97, 110]))] (Int.toNat (Go.IntKind.wrap Go.IntKind.i64 (Prod.fst p0 - 1))) [] ++ Array.toList (ByteArray.data (ByteArray.mk #[32])) ++ Prod.fst (Prod.snd p0)) + List.length (Array.toList (ByteArray.data (ByteArray.mk #[32])))) 268435456 then
        bif Nat.ble (List.length (List.getD [Array.toList (ByteArray.data (ByteArray.mk #[99, 114, 101, 97, 116, 101])), Array.toList (ByteArray.data (ByteArray.mk #[100, 101, 108, 101, 116, 101])), Array.toList (ByteArray.data (ByteArray.mk #[99, 111, 109, 109, 105, 116])), Array.toList (ByteArray.data (ByteArray.mk #[109, 101, 114, 103, 101])), Array.toList (ByteArray.data (ByteArray.mk #[103, 101, 116])), Array.toList (ByteArray.data (ByteArray.mk #[115, 99, 97, 110]))] (Int.toNat (Go.IntKind.wrap Go.IntKind.i64 (Prod.fst p0 - 1))) [] ++ Array.toList (ByteArray.data (ByteArray.mk #[32])) ++ Prod.fst (Prod.snd p0) ++ Array.toList (ByteArray.data (ByteArray.mk #[32]))) + List.length (Prod.fst (Prod.snd (Prod.snd p0)))) 268435456 then
         some (((List.getD [Array.toList (ByteArray.data (ByteArray.mk #[99, 114, 101, 97, 116, 101])), Array.toList (ByteArray.data (ByteArray.mk #[100, 101, 108, 101, 116, 101])), Array.toList (ByteArray.data (ByteArray.mk #[99, 111, 109, 109, 105, 116])), Array.toList (ByteArray.data (ByteArray.mk #[109, 101, 114, 103, 101])), Array.toList (ByteArray.data (ByteArray.mk #[103, 101, 116])), Array.toList (ByteArray.data (ByteArray.mk #[115, 99, 97, 110]))] (Int.toNat (Go.IntKind.wrap Go.IntKind.i64 (Prod.fst p0 - 1))) [] ++ Array.toList (ByteArray.data (ByteArray.mk #[32])) ++ Prod.fst (Prod.snd p0) ++ Array.toList (ByteArray.data (ByteArray.mk #[32])) ++ Prod.fst (Prod.snd (Prod.snd p0)), ()), ()))
        else
         none
       else
        none
      else
       bif Prod.fst p0 == 3 then
        bif Nat.ble (List.length (List.getD [Array.toList (ByteArray.data (ByteArray.mk #[99, 114, 101, 97, 116, 101])), Array.toList (ByteArray.data (ByteArray.mk #[100, 101, 108, 101, 116, 101])), Array.toList (ByteArray.data (ByteArray.mk #[99, 111, 109, 109, 105, 116])), Array.toList (ByteArray.data (ByteArray.mk #[109, 101, 114, 103, 101])), Array.toList (ByteArray.data (ByteArray.mk #[103, 101, 116])), Array.toList (ByteArray.data (ByteArray.mk #[115, 99, 97, 110]))] (Int.toNat (Go.IntKind.wrap Go.IntKind.i64 (Prod.fst p0 - 1))) [] ++ Array.toList (ByteArray.data (ByteArray.mk #[32])) ++ Prod.fst (Prod.snd p0)) + List.length (Array.toList (ByteArray.data (ByteArray.mk #[32])))) 268435456 then
         obind (R.spec_l13Edits K (Prod.snd (Prod.snd (Prod.snd (Prod.snd p0))))) fun v9 =>
          bif Nat.ble (List.length (List.getD [Array.toList (ByteArray.data (ByteArray.mk #[99, 114, 101, 97, 116, 101])), Array.toList (ByteArray.data (ByteArray.mk #[100, 101, 108, 101, 116, 101])), Array.toList (ByteArray.data (ByteArray.mk #[99, 111, 109, 109, 105, 116])), Array.toList (ByteArray.data (ByteArray.mk #[109, 101, 114, 103, 101])), Array.toList (ByteArray.data (ByteArray.mk #[103, 101, 116])), Array.toList (ByteArray.data (ByteArray.mk #[115, 99, 97, 110]))] (Int.toNat (Go.IntKind.wrap Go.IntKind.i64 (Prod.fst p0 - 1))) [] ++ Array.toList (ByteArray.data (ByteArray.mk #[32])) ++ Prod.fst (Prod.snd p0) ++ Array.toList (ByteArray.data (ByteArray.mk #[32]))) + List.length (Prod.fst (Prod.fst v9))) 268435456 then
           some (((List.getD [Array.toList (ByteArray.data (ByteArray.mk #[99, 114, 101, 97, 116, 101])), Array.toList (ByteArray.data (ByteArray.mk #[100, 101, 108, 101, 116, 101])), Array.toList (ByteArray.data (ByteArray.mk #[99, 111, 109, 109, 105, 116])), Array.toList (ByteArray.data (ByteArray.mk #[109, 101, 114, 103, 101])), Array.toList (ByteArray.data (ByteArray.mk #[103, 101, 116])), Array.toList (ByteArray.data (ByteArray.mk #[115, 99, 97, 110]))] (Int.toNat (Go.IntKind.wrap Go.IntKind.i64 (Prod.fst p0 - 1))) [] ++ Array.toList (ByteArray.data (ByteArray.mk #[32])) ++ Prod.fst (Prod.snd p0) ++ Array.toList (ByteArray.data (ByteArray.mk #[32])) ++ Prod.fst (Prod.fst v9), ()), ()))
          else
           none
        else
         none
       else
        bif Prod.fst p0 == 5 then
         bif Nat.ble (List.length (List.getD [Array.toList (ByteArray.data (ByteArray.mk #[99, 114, 101, 97, 116, 101])), Array.toList (ByteArray.data (ByteArray.mk #[100, 101, 108, 101, 116, 101])), Array.toList (ByteArray.data (ByteArray.mk #[99, 111, 109, 109, 105, 116])), Array.toList (ByteArray.data (ByteArray.mk #[109, 101, 114, 103, 101])), Array.toList (ByteArray.data (ByteArray.mk #[103, 101, 116])), Array.toList (ByteArray.data (ByteArray.mk #[115, 99, 97, 110]))] (Int.toNat (Go.IntKind.wrap Go.IntKind.i64 (Prod.fst p0 - 1))) [] ++ Array.toList (ByteArray.data (ByteArray.mk #[32])) ++ Prod.fst (Prod.snd p0)) + List.length (Array.toList (ByteArray.data (ByteArray.mk #[32])))) 268435456 then
          bif Nat.ble (List.length (List.getD [Array.toList (ByteArray.data (ByteArray.mk #[99, 114, 101, 97, 116, 101])), Array.toList (ByteArray.data (ByteArray.mk #[100, 101, 108, 101, 116, 101])), Array.toList (ByteArray.data (ByteArray.mk #[99, 111, 109, 109, 105, 116])), Array.toList (ByteArray.data (ByteArray.mk #[109, 101, 114, 103, 101])), Array.toList (ByteArray.data (ByteArray.mk #[103, 101, 116])), Array.toList (ByteArray.data (ByteArray.mk #[115, 99, 97, 110]))] (Int.toNat (Go.IntKind.wrap Go.IntKind.i64 (Prod.fst p0 - 1))) [] ++ Array.toList (ByteArray.data (ByteArray.mk #[32])) ++ Prod.fst (Prod.snd p0) ++ Array.toList (ByteArray.data (ByteArray.mk #[32]))) + List.length (Prod.fst (Prod.snd (Prod.snd (Prod.snd p0))))) 268435456 then
           some (((List.getD [Array.toList (ByteArray.data (ByteArray.mk #[99, 114, 101, 97, 116, 101])), Array.toList (ByteArray.data (ByteArray.mk #[100, 101, 108, 101, 116, 101])), Array.toList (ByteArray.data (ByteArray.mk #[99, 111, 109, 109, 105, 116])), Array.toList (ByteArray.data (ByteArray.mk #[109, 101, 114, 103, 101])), Array.toList (ByteArray.data (ByteArray.mk #[103, 101, 116])), Array.toList (ByteArray.data (ByteArray.mk #[115, 99, 97, 110]))] (Int.toNat (Go.IntKind.wrap Go.IntKind.i64 (Prod.fst p0 - 1))) [] ++ Array.toList (ByteArray.data (ByteArray.mk #[32])) ++ Prod.fst (Prod.snd p0) ++ Array.toList (ByteArray.data (ByteArray.mk #[32])) ++ Prod.fst (Prod.snd (Prod.snd (Prod.snd p0))), ()), ()))
          else
           none
         else
          none
        else
         some (((List.getD [Array.toList (ByteArray.data (ByteArray.mk #[99, 114, 101, 97, 116, 101])), Array.toList (ByteArray.data (ByteArray.mk #[100, 101, 108, 101, 116, 101])), Array.toList (ByteArray.data (ByteArray.mk #[99, 111, 109, 109, 105, 116])), Array.toList (ByteArray.data (ByteArray.mk #[109, 101, 114, 103, 101])), Array.toList (ByteArray.data (ByteArray.mk #[103, 101, 116])), Array.toList (ByteArray.data (ByteArray.mk #[115, 99, 97, 110]))] (Int.toNat (Go.IntKind.wrap Go.IntKind.i64 (Prod.fst p0 - 1))) [] ++ Array.toList (ByteArray.data (ByteArray.mk #[32])) ++ Prod.fst (Prod.snd p0), ()), ()))
     else
      bif Prod.fst p0 == 4 then
       bif Nat.ble (List.length (List.getD [Array.toList (ByteArray.data (ByteArray.mk #[99, 114, 101, 97, 116, 101])), Array.toList (ByteArray.data (ByteArray.mk #[100, 101, 108, 101, 116, 101])), Array.toList (ByteArray.data (ByteArray.mk #[99, 111, 109, 109, 105, 116])), Array.toList (ByteArray.data (ByteArray.mk #[109, 101, 114, 103, 101])), Array.toList (ByteArray.data (ByteArray.mk #[103, 101, 116])), Array.toList (ByteArray.data (ByteArray.mk #[115, 99, 97, 110]))] (Int.toNat (Go.IntKind.wrap Go.IntKind.i64 (Prod.fst p0 - 1))) [] ++ Array.toList (ByteArray.data (ByteArray.mk #[32])) ++ Prod.fst (Prod.snd p0)) + List.length (Array.toList (ByteArray.data (ByteArray.mk #[32])))) 268435456 then
        bif Nat.ble (List.length (List.getD [Array.toList (ByteArray.data (ByteArray.mk #[99, 114, 101, 97, 116, 101])), Array.toList (ByteArray.data (ByteArray.mk #[100, 101, 108, 101, 116, 101])), Array.toList (ByteArray.data (ByteArray.mk #[99, 111, 109, 109, 105, 116])), Array.toList (ByteArray.data (ByteArray.mk #[109, 101, 114, 103, 101])), Array.toList (ByteArray.data (ByteArray.mk #[103, 101, 116])), Array.toList (ByteArray.data (ByteArray.mk #[115, 99, 97, 110]))] (Int.toNat (Go.IntKind.wrap Go.IntKind.i64 (Prod.fst p0 - 1))) [] ++ Array.toList (ByteArray.data (ByteArray.mk #[32])) ++ Prod.fst (Prod.snd p0) ++ Array.toList (ByteArray.data (ByteArray.mk #[32]))) + List.length (Prod.fst (Prod.snd (Prod.snd p0)))) 268435456 then
         some (((List.getD [Array.toList (ByteArray.data (ByteArray.mk #[99, 114, 101, 97, 116, 101])), Array.toList (ByteArray.data (ByteArray.mk #[100, 101, 108, 101, 116, 101])), Array.toList (ByteArray.data (ByteArray.mk #[99, 111, 109, 109, 105, 116])), Array.toList (ByteArray.data (ByteArray.mk #[109, 101, 114, 103, 101])), Array.toList (ByteArray.data (ByteArray.mk #[103, 101, 116])), Array.toList (ByteArray.data (ByteArray.mk #[115, 99, 97, 110]))] (Int.toNat (Go.IntKind.wrap Go.IntKind.i64 (Prod.fst p0 - 1))) [] ++ Array.toList (ByteArray.data (ByteArray.mk #[32])) ++ Prod.fst (Prod.snd p0) ++ Array.toList (ByteArray.data (ByteArray.mk #[32])) ++ Prod.fst (Prod.snd (Prod.snd p0)), ()), ()))
        else
         none
       else
        none
      else
       bif Prod.fst p0 == 3 then
        bif Nat.ble (List.length (List.getD [Array.toList (ByteArray.data (ByteArray.mk #[99, 114, 101, 97, 116, 101])), Array.toList (ByteArray.data (ByteArray.mk #[100, 101, 108, 101, 116, 101])), Array.toList (ByteArray.data (ByteArray.mk #[99, 111, 109, 109, 105, 116])), Array.toList (ByteArray.data (ByteArray.mk #[109, 101, 114, 103, 101])), Array.toList (ByteArray.data (ByteArray.mk #[103, 101, 116])), Array.toList (ByteArray.data (ByteArray.mk #[115, 99, 97, 110]))] (Int.toNat (Go.IntKind.wrap Go.IntKind.i64 (Prod.fst p0 - 1))) [] ++ Array.toList (ByteArray.data (ByteArray.mk #[32])) ++ Prod.fst (Prod.snd p0)) + List.length (Array.toList (ByteArray.data (ByteArray.mk #[32])))) 268435456 then
         obind (R.spec_l13Edits K (Prod.snd (Prod.snd (Prod.snd (Prod.snd p0))))) fun v9 =>
          bif Nat.ble (List.length (List.getD [Array.toList (ByteArray.data (ByteArray.mk #[99, 114, 101, 97, 116, 101])), Array.toList (ByteArray.data (ByteArray.mk #[100, 101, 108, 101, 116, 101])), Array.toList (ByteArray.data (ByteArray.mk #[99, 111, 109, 109, 105, 116])), Array.toList (ByteArray.data (ByteArray.mk #[109, 101, 114, 103, 101])), Array.toList (ByteArray.data (ByteArray.mk #[103, 101, 116])), Array.toList (ByteArray.data (ByteArray.mk #[115, 99, 97, 110]))] (Int.toNat (Go.IntKind.wrap Go.IntKind.i64 (Prod.fst p0 - 1))) [] ++ Array.toList (ByteArray.data (ByteArray.mk #[32])) ++ Prod.fst (Prod.snd p0) ++ Array.toList (ByteArray.data (ByteArray.mk #[32]))) + List.length (Prod.fst (Prod.fst v9))) 268435456 then
           some (((List.getD [Array.toList (ByteArray.data (ByteArray.mk #[99, 114, 101, 97, 116, 101])), Array.toList (ByteArray.data (ByteArray.mk #[100, 101, 108, 101, 116, 101])), Array.toList (ByteArray.data (ByteArray.mk #[99, 111, 109, 109, 105, 116])), Array.toList (ByteArray.data (ByteArray.mk #[109, 101, 114, 103, 101])), Array.toList (ByteArray.data (ByteArray.mk #[103, 101, 116])), Array.toList (ByteArray.data (ByteArray.mk #[115, 99, 97, 110]))] (Int.toNat (Go.IntKind.wrap Go.IntKind.i64 (Prod.fst p0 - 1))) [] ++ Array.toList (ByteArray.data (ByteArray.mk #[32])) ++ Prod.fst (Prod.snd p0) ++ Array.toList (ByteArray.data (ByteArray.mk #[32])) ++ Prod.fst (Prod.fst v9), ()), ()))
          else
           none
        else
         none
       else
        bif Prod.fst p0 == 5 then
         bif Nat.ble (List.length (List.getD [Array.toList (ByteArray.data (ByteArray.mk #[99, 114, 101, 97, 116, 101])), Array.toList (ByteArray.data (ByteArray.mk #[100, 101, 108, 101, 116, 101])), Array.toList (ByteArray.data (ByteArray.mk #[99, 111, 109, 109, 105, 116])), Array.toList (ByteArray.data (ByteArray.mk #[109, 101, 114, 103, 101])), Array.toList (ByteArray.data (ByteArray.mk #[103, 101, 116])), Array.toList (ByteArray.data (ByteArray.mk #[115, 99, 97, 110]))] (Int.toNat (Go.IntKind.wrap Go.IntKind.i64 (Prod.fst p0 - 1))) [] ++ Array.toList (ByteArray.data (ByteArray.mk #[32])) ++ Prod.fst (Prod.snd p0)) + List.length (Array.toList (ByteArray.data (ByteArray.mk #[32])))) 268435456 then
          bif Nat.ble (List.length (List.getD [Array.toList (ByteArray.data (ByteArray.mk #[99, 114, 101, 97, 116, 101])), Array.toList (ByteArray.data (ByteArray.mk #[100, 101, 108, 101, 116, 101])), Array.toList (ByteArray.data (ByteArray.mk #[99, 111, 109, 109, 105, 116])), Array.toList (ByteArray.data (ByteArray.mk #[109, 101, 114, 103, 101])), Array.toList (ByteArray.data (ByteArray.mk #[103, 101, 116])), Array.toList (ByteArray.data (ByteArray.mk #[115, 99, 97, 110]))] (Int.toNat (Go.IntKind.wrap Go.IntKind.i64 (Prod.fst p0 - 1))) [] ++ Array.toList (ByteArray.data (ByteArray.mk #[32])) ++ Prod.fst (Prod.snd p0) ++ Array.toList (ByteArray.data (ByteArray.mk #[32]))) + List.length (Prod.fst (Prod.snd (Prod.snd (Prod.snd p0))))) 268435456 then
           some (((List.getD [Array.toList (ByteArray.data (ByteArray.mk #[99, 114, 101, 97, 116, 101])), Array.toList (ByteArray.data (ByteArray.mk #[100, 101, 108, 101, 116, 101])), Array.toList (ByteArray.data (ByteArray.mk #[99, 111, 109, 109, 105, 116])), Array.toList (ByteArray.data (ByteArray.mk #[109, 101, 114, 103, 101])), Array.toList (ByteArray.data (ByteArray.mk #[103, 101, 116])), Array.toList (ByteArray.data (ByteArray.mk #[115, 99, 97, 110]))] (Int.toNat (Go.IntKind.wrap Go.IntKind.i64 (Prod.fst p0 - 1))) [] ++ Array.toList (ByteArray.data (ByteArray.mk #[32])) ++ Prod.fst (Prod.snd p0) ++ Array.toList (ByteArray.data (ByteArray.mk #[32])) ++ Prod.fst (Prod.snd (Prod.snd (Prod.snd p0))), ()), ()))
          else
           none
         else
          none
        else
         some (((List.getD [Array.toList (ByteArray.data (ByteArray.mk #[99, 114, 101, 97, 116, 101])), Array.toList (ByteArray.data (ByteArray.mk #[100, 101, 108, 101, 116, 101])), Array.toList (ByteArray.data (ByteArray.mk #[99, 111, 109, 109, 105, 116])), Array.toList (ByteArray.data (ByteArray.mk #[109, 101, 114, 103, 101])), Array.toList (ByteArray.data (ByteArray.mk #[103, 101, 116])), Array.toList (ByteArray.data (ByteArray.mk #[115, 99, 97, 110]))] (Int.toNat (Go.IntKind.wrap Go.IntKind.i64 (Prod.fst p0 - 1))) [] ++ Array.toList (ByteArray.data (ByteArray.mk #[32])) ++ Prod.fst (Prod.snd p0), ()), ()))
    else
     none
   else
    none
  else
   none

noncomputable def R.spec_WishText (K : Nat) (p0 : (Int) × ((List UInt8) × ((List UInt8) × ((List UInt8) × (List ((List UInt8) × ((Int) × (Bool)))))))) : Option (((List UInt8) × ((Int) × Unit)) × Unit) :=
  obind (R.spec_l07Wish K p0) fun v2 =>
   bif !Prod.fst (Prod.fst v2) then
    some (((Array.toList (ByteArray.data (ByteArray.mk #[])), 1, ()), ()))
   else
    obind (R.spec_l13Wish K p0) fun v4 =>
     some (((Prod.fst (Prod.fst v4), 0, ()), ()))

noncomputable def R.impl_hasSource (K : Nat) (p0 : Int) : Option (((Bool) × Unit) × Unit) :=
  bif p0 == 1 then
   some (((Bool.true, ()), ()))
  else
   some (((p0 == 4, ()), ()))

noncomputable def R.slices_Clone_impl_Edit (K : Nat) (p0 : List ((List UInt8) × ((Int) × (Bool)))) : Option (((List ((List UInt8) × ((Int) × (Bool)))) × Unit) × Unit) :=
  bif List.isEmpty p0 then
   Fw.alt (
    some ((([], ()), ()))
   ) (
    bif Nat.ble (0 + List.length p0) 268435456 then
     some (((p0, ()), ()))
    else
     none
   )
  else
   bif Nat.ble (0 + List.length p0) 268435456 then
    some (((p0, ()), ()))
   else
    none

noncomputable def R.impl_Wish_op (K : Nat) (p0 : (Int) × ((List UInt8) × ((List UInt8) × ((List UInt8) × (List ((List UInt8) × ((Int) × (Bool)))))))) (p1 : Int) : Option ((((Int) × ((Int) × ((List UInt8) × ((List UInt8) × (List ((List UInt8) × ((Int) × (Bool)))))))) × Unit) × Unit) :=
  obind (R.slices_Clone_impl_Edit K (Prod.snd (Prod.snd (Prod.snd (Prod.snd p0))))) fun v2 =>
   some ((((Prod.fst p0, p1, Prod.fst (Prod.snd p0), Prod.fst (Prod.snd (Prod.snd (Prod.snd p0))), Prod.fst (Prod.fst v2)), ()), ()))

noncomputable def R.impl_within (K : Nat) (p0 : Int) (p1 : Int) (p2 : Int) : Option (((Bool) × Unit) × Unit) :=
  bif Decidable.decide (p1 ≤ p0) then
   some (((Decidable.decide (p0 ≤ p2), ()), ()))
  else
   some (((Bool.false, ()), ()))

noncomputable def R.impl_isLetter (K : Nat) (p0 : Int) : Option (((Bool) × Unit) × Unit) :=
  bif Decidable.decide (p0 ≥ 97) then
   bif Decidable.decide (p0 ≤ 122) then
    some (((Bool.true, ()), ()))
   else
    bif Decidable.decide (p0 ≥ 65) then
     bif Decidable.decide (p0 ≤ 90) then
      some (((Bool.true, ()), ()))
     else
      some (((p0 == 95, ()), ()))
    else
     some (((p0 == 95, ()), ()))
  else
   bif Decidable.decide (p0 ≥ 65) then
    bif Decidable.decide (p0 ≤ 90) then
     some (((Bool.true, ()), ()))
    else
     some (((p0 == 95, ()), ()))
   else
    some (((p0 == 95, ()), ()))

noncomputable def R.impl_isDigit (K : Nat) (p0 : Int) : Option (((Bool) × Unit) × Unit) :=
  bif Decidable.decide (p0 ≥ 48) then
   some (((Decidable.decide (p0 ≤ 57), ()), ()))
  else
   some (((Bool.false, ()), ()))

noncomputable def R.impl_NameOK_1 (K : Nat) (p0 : Int) : Option (((Bool) × Unit) × Unit) :=
  obind (R.impl_isLetter K p0) fun v2 =>
   bif Prod.fst (Prod.fst v2) then
    some (((Bool.true, ()), ()))
   else
    obind (R.impl_isDigit K p0) fun v4 =>
     some (((Prod.fst (Prod.fst v4), ()), ()))

noncomputable def R.L_impl_areAll_byte__impl_NameOK_1_0 (K : Nat) : Nat → ((List (Int)) × ((Bool) × ((List (Int)) × ((List (Int)) × ((Bool) × ((List (Int)) × ((List (Int)) × ((Int) × ((Int) × ((Int) × Unit)))))))))) → Option (((List (Int)) × ((Bool) × ((List (Int)) × ((List (Int)) × ((Bool) × ((List (Int)) × ((Int) × Unit))))))) ⊕ ((List (Int)) × ((Bool) × ((List (Int)) × ((List (Int)) × ((Bool) × ((List (Int)) × ((Int) × Unit))))))))
  | 0, _ => none
  | n + 1, (q0, (q1, (q2, (q3, (q4, (q5, (q6, (q7, (q8, (q9, ())))))))))) =>
    bif Decidable.decide (q9 < q8) then
     bif Decidable.decide (0 ≤ q9) && Decidable.decide (q9 < (↑(List.length q6) : Int)) then
      obind (R.impl_NameOK_1 K (List.getD q6 (Int.toNat q9) 0)) fun v6 =>
       bif !Prod.fst (Prod.fst v6) then
        some (Sum.inr (q0, q1, q2, q3, q4, q5, q9, ()))
       else
        R.L_impl_areAll_byte__impl_NameOK_1_0 K n (q0, q1, q2, q3, q4, q5, q6, q7, q8, Go.IntKind.wrap Go.IntKind.i64 (q9 + 1), ())
     else
      none
    else
     some (Sum.inl (q0, q1, q2, q3, q4, q5, q7, ()))

noncomputable def R.impl_areAll_byte__impl_NameOK_1 (K : Nat) (p0 : List (Int)) : Option (((Bool) × Unit) × Unit) :=
  obind (R.L_impl_areAll_byte__impl_NameOK_1_0 K K (p0, Bool.false, p0, p0, Bool.false, p0, p0, 0, (↑(List.length p0) : Int), 0, ())) fun v2 =>
   (match v2 with
   | .inl v3 =>
    some (((!Decidable.decide (-1 ≥ 0), ()), ()))
   | .inr v3 =>
    some (((!Decidable.decide (Prod.fst (Prod.snd (Prod.snd (Prod.snd (Prod.snd (Prod.snd (Prod.snd v3)))))) ≥ 0), ()), ()))
   )

noncomputable def R.impl_NameOK (K : Nat) (p0 : List UInt8) : Option (((Bool) × Unit) × Unit) :=
  obind (R.impl_within K (↑(List.length p0) : Int) 1 12) fun v2 =>
   bif Prod.fst (Prod.fst v2) then
    bif Decidable.decide (0 ≤ 0) && Decidable.decide (0 < (↑(List.length p0) : Int)) then
     obind (R.impl_isLetter K (↑(UInt8.toNat (List.getD p0 (Int.toNat 0) 0)) : Int)) fun v5 =>
      bif Prod.fst (Prod.fst v5) then
       obind (R.impl_areAll_byte__impl_NameOK_1 K (Fw.bytesIn p0)) fun v7 =>
        some (((Prod.fst (Prod.fst v7), ()), ()))
      else
       some (((Bool.false, ()), ()))
    else
     none
   else
    some (((Bool.false, ()), ()))

noncomputable def R.impl_isHead (K : Nat) (p0 : Int) : Option (((Bool) × Unit) × Unit) :=
  obind (R.impl_within K p0 1 60) fun v2 =>
   some (((Prod.fst (Prod.fst v2), ()), ()))

noncomputable def R.impl_isValue (K : Nat) (p0 : Int) : Option (((Bool) × Unit) × Unit) :=
  obind (R.impl_within K p0 (-1000000) 1000000) fun v2 =>
   some (((Prod.fst (Prod.fst v2), ()), ()))

noncomputable def R.L_impl_EditsOK_0 (K : Nat) : Nat → ((List ((List UInt8) × ((Int) × (Bool)))) × ((Bool) × ((List ((List UInt8) × ((Int) × (Bool)))) × ((Int) × ((Int) × Unit))))) → Option (((List ((List UInt8) × ((Int) × (Bool)))) × ((Bool) × Unit)) ⊕ ((Bool) × Unit))
  | 0, _ => none
  | n + 1, (q0, (q1, (q2, (q3, (q4, ()))))) =>
    bif Decidable.decide (q4 < q3) then
     bif Decidable.decide (0 ≤ q4) && Decidable.decide (q4 < (↑(List.length q2) : Int)) then
      obind (R.impl_NameOK K (Prod.fst (List.getD q2 (Int.toNat q4) ([], 0, Bool.false)))) fun v6 =>
       bif !Prod.fst (Prod.fst v6) then
        some (Sum.inr (Bool.false, ()))
       else
        obind (R.impl_isValue K (Prod.fst (Prod.snd (List.getD q2 (Int.toNat q4) ([], 0, Bool.false))))) fun v8 =>
         bif !Prod.fst (Prod.fst v8) then
          some (Sum.inr (Bool.false, ()))
         else
          bif Prod.snd (Prod.snd (List.getD q2 (Int.toNat q4) ([], 0, Bool.false))) then
           bif Prod.fst (Prod.snd (List.getD q2 (Int.toNat q4) ([], 0, Bool.false))) != 0 then
            some (Sum.inr (Bool.false, ()))
           else
            bif Decidable.decide (q4 > 0) then
             bif Decidable.decide (0 ≤ Go.IntKind.wrap Go.IntKind.i64 (q4 - 1)) && Decidable.decide (Go.IntKind.wrap Go.IntKind.i64 (q4 - 1) < (↑(List.length q0) : Int)) then
              bif !Fw.sless (Prod.fst (List.getD q0 (Int.toNat (Go.IntKind.wrap Go.IntKind.i64 (q4 - 1))) ([], 0, Bool.false))) (Prod.fst (List.getD q2 (Int.toNat q4) ([], 0, Bool.false))) then
               some (Sum.inr (Bool.false, ()))
              else
               R.L_impl_EditsOK_0 K n (q0, q1, q2, q3, Go.IntKind.wrap Go.IntKind.i64 (q4 + 1), ())
             else
              none
            else
             R.L_impl_EditsOK_0 K n (q0, q1, q2, q3, Go.IntKind.wrap Go.IntKind.i64 (q4 + 1), ())
          else
           bif Decidable.decide (q4 > 0) then
            bif Decidable.decide (0 ≤ Go.IntKind.wrap Go.IntKind.i64 (q4 - 1)) && Decidable.decide (Go.IntKind.wrap Go.IntKind.i64 (q4 - 1) < (↑(List.length q0) : Int)) then
             bif !Fw.sless (Prod.fst (List.getD q0 (Int.toNat (Go.IntKind.wrap Go.IntKind.i64 (q4 - 1))) ([], 0, Bool.false))) (Prod.fst (List.getD q2 (Int.toNat q4) ([], 0, Bool.false))) then
              some (Sum.inr (Bool.false, ()))
             else
              R.L_impl_EditsOK_0 K n (q0, q1, q2, q3, Go.IntKind.wrap Go.IntKind.i64 (q4 + 1), ())
            else
             none
           else
            R.L_impl_EditsOK_0 K n (q0, q1, q2, q3, Go.IntKind.wrap Go.IntKind.i64 (q4 + 1), ())
     else
      none
    else
     some (Sum.inl (q0, q1, ()))

noncomputable def R.impl_EditsOK (K : Nat) (p0 : List ((List UInt8) × ((Int) × (Bool)))) : Option (((Bool) × Unit) × Unit) :=
  obind (R.L_impl_EditsOK_0 K K (p0, Bool.false, p0, (↑(List.length p0) : Int), 0, ())) fun v2 =>
   (match v2 with
   | .inl v3 =>
    some (((Decidable.decide ((↑(List.length (Prod.fst v3)) : Int) ≤ 6), ()), ()))
   | .inr v3 =>
    some (((Prod.fst v3, ()), ()))
   )

noncomputable def R.impl_OpOK (K : Nat) (p0 : (Int) × ((Int) × ((List UInt8) × ((List UInt8) × (List ((List UInt8) × ((Int) × (Bool)))))))) : Option (((Bool) × Unit) × Unit) :=
  obind (R.impl_NameOK K (Prod.fst (Prod.snd (Prod.snd p0)))) fun v2 =>
   bif !Prod.fst (Prod.fst v2) then
    some (((Bool.false, ()), ()))
   else
    bif Prod.fst p0 != 5 then
     bif !Prod.fst (Prod.snd (Prod.snd (Prod.snd p0))) == Array.toList (ByteArray.data (ByteArray.mk #[])) then
      some (((Bool.false, ()), ()))
     else
      bif Prod.fst p0 != 3 then
       bif Decidable.decide ((↑(List.length (Prod.snd (Prod.snd (Prod.snd (Prod.snd p0))))) : Int) > 0) then
        some (((Bool.false, ()), ()))
       else
        bif Prod.fst p0 == 1 then
         bif Prod.fst p0 == 1 then
          obind (R.impl_isHead K (Prod.fst (Prod.snd p0))) fun v10 =>
           some (((Prod.fst (Prod.fst v10), ()), ()))
         else
          bif Prod.fst p0 == 2 then
           bif Prod.fst p0 == 2 then
            some (((Prod.fst (Prod.snd p0) == 0, ()), ()))
           else
            bif Prod.fst p0 == 3 then
             obind (R.impl_within K (Prod.fst (Prod.snd p0)) 0 60) fun v13 =>
              bif Prod.fst (Prod.fst v13) then
               obind (R.impl_EditsOK K (Prod.snd (Prod.snd (Prod.snd (Prod.snd p0))))) fun v15 =>
                some (((Prod.fst (Prod.fst v15), ()), ()))
              else
               some (((Bool.false, ()), ()))
            else
             bif Prod.fst p0 == 5 then
              bif Prod.fst (Prod.snd p0) == 0 then
               obind (R.impl_NameOK K (Prod.fst (Prod.snd (Prod.snd (Prod.snd p0))))) fun v15 =>
                some (((Prod.fst (Prod.fst v15), ()), ()))
              else
               some (((Bool.false, ()), ()))
             else
              some (((Bool.false, ()), ()))
          else
           bif Prod.fst p0 == 6 then
            some (((Prod.fst (Prod.snd p0) == 0, ()), ()))
           else
            bif Prod.fst p0 == 3 then
             obind (R.impl_within K (Prod.fst (Prod.snd p0)) 0 60) fun v13 =>
              bif Prod.fst (Prod.fst v13) then
               obind (R.impl_EditsOK K (Prod.snd (Prod.snd (Prod.snd (Prod.snd p0))))) fun v15 =>
                some (((Prod.fst (Prod.fst v15), ()), ()))
              else
               some (((Bool.false, ()), ()))
            else
             bif Prod.fst p0 == 5 then
              bif Prod.fst (Prod.snd p0) == 0 then
               obind (R.impl_NameOK K (Prod.fst (Prod.snd (Prod.snd (Prod.snd p0))))) fun v15 =>
                some (((Prod.fst (Prod.fst v15), ()), ()))
              else
               some (((Bool.false, ()), ()))
             else
              some (((Bool.false, ()), ()))
        else
         bif Prod.fst p0 == 4 then
          obind (R.impl_isHead K (Prod.fst (Prod.snd p0))) fun v10 =>
           some (((Prod.fst (Prod.fst v10), ()), ()))
         else
          bif Prod.fst p0 == 2 then
           bif Prod.fst p0 == 2 then
            some (((Prod.fst (Prod.snd p0) == 0, ()), ()))
           else
            bif Prod.fst p0 == 3 then
             obind (R.impl_within K (Prod.fst (Prod.snd p0)) 0 60) fun v13 =>
              bif Prod.fst (Prod.fst v13) then
               obind (R.impl_EditsOK K (Prod.snd (Prod.snd (Prod.snd (Prod.snd p0))))) fun v15 =>
                some (((Prod.fst (Prod.fst v15), ()), ()))
              else
               some (((Bool.false, ()), ()))
            else
             bif Prod.fst p0 == 5 then
              bif Prod.fst (Prod.snd p0) == 0 then
               obind (R.impl_NameOK K (Prod.fst (Prod.snd (Prod.snd (Prod.snd p0))))) fun v15 =>
                some (((Prod.fst (Prod.fst v15), ()), ()))
              else
               some (((Bool.false, ()), ()))
             else
              some (((Bool.false, ()), ()))
          else
           bif Prod.fst p0 == 6 then
            some (((Prod.fst (Prod.snd p0) == 0, ()), ()))
           else
            bif Prod.fst p0 == 3 then
             obind (R.impl_within K (Prod.fst (Prod.snd p0)) 0 60) fun v13 =>
              bif Prod.fst (Prod.fst v13) then
               obind (R.impl_EditsOK K (Prod.snd (Prod.snd (Prod.snd (Prod.snd p0))))) fun v15 =>
                some (((Prod.fst (Prod.fst v15), ()), ()))
              else
               some (((Bool.false, ()), ()))
            else
             bif Prod.fst p0 == 5 then
              bif Prod.fst (Prod.snd p0) == 0 then
               obind (R.impl_NameOK K (Prod.fst (Prod.snd (Prod.snd (Prod.snd p0))))) fun v15 =>
                some (((Prod.fst (Prod.fst v15), ()), ()))
              else
               some (((Bool.false, ()), ()))
             else
              some (((Bool.false, ()), ()))
      else
       bif Prod.fst p0 == 1 then
        bif Prod.fst p0 == 1 then
         obind (R.impl_isHead K (Prod.fst (Prod.snd p0))) fun v9 =>
          some (((Prod.fst (Prod.fst v9), ()), ()))
        else
         bif Prod.fst p0 == 2 then
          bif Prod.fst p0 == 2 then
           some (((Prod.fst (Prod.snd p0) == 0, ()), ()))
          else
           bif Prod.fst p0 == 3 then
            obind (R.impl_within K (Prod.fst (Prod.snd p0)) 0 60) fun v12 =>
             bif Prod.fst (Prod.fst v12) then
              obind (R.impl_EditsOK K (Prod.snd (Prod.snd (Prod.snd (Prod.snd p0))))) fun v14 =>
               some (((Prod.fst (Prod.fst v14), ()), ()))
             else
              some (((Bool.false, ()), ()))
           else
            bif Prod.fst p0 == 5 then
             bif Prod.fst (Prod.snd p0) == 0 then
              obind (R.impl_NameOK K (Prod.fst (Prod.snd (Prod.snd (Prod.snd p0))))) fun v14 =>
               some (((Prod.fst (Prod.fst v14), ()), ()))
             else
              some (((Bool.false, ()), ()))
            else
             some (((Bool.false, ()), ()))
         else
          bif Prod.fst p0 == 6 then
           some (((Prod.fst (Prod.snd p0) == 0, ()), ()))
          else
           bif Prod.fst p0 == 3 then
            obind (R.impl_within K (Prod.fst (Prod.snd p0)) 0 60) fun v12 =>
             bif Prod.fst (Prod.fst v12) then
              obind (R.impl_EditsOK K (Prod.snd (Prod.snd (Prod.snd (Prod.snd p0))))) fun v14 =>
               some (((Prod.fst (Prod.fst v14), ()), ()))
             else
              some (((Bool.false, ()), ()))
           else
            bif Prod.fst p0 == 5 then
             bif Prod.fst (Prod.snd p0) == 0 then
              obind (R.impl_NameOK K (Prod.fst (Prod.snd (Prod.snd (Prod.snd p0))))) fun v14 =>
               some (((Prod.fst (Prod.fst v14), ()), ()))
             else
              some (((Bool.false, ()), ()))
            else
             some (((Bool.false, ()), ()))
       else
        bif Prod.fst p0 == 4 then
         obind (R.impl_isHead K (Prod.fst (Prod.snd p0))) fun v9 =>
          some (((Prod.fst (Prod.fst v9), ()), ()))
        else
         bif Prod.fst p0 == 2 then
          bif Prod.fst p0 == 2 then
           some (((Prod.fst (Prod.snd p0) == 0, ()), ()))
          else
           bif Prod.fst p0 == 3 then
            obind (R.impl_within K (Prod.fst (Prod.snd p0)) 0 60) fun v12 =>
             bif Prod.fst (Prod.fst v12) then
              obind (R.impl_EditsOK K (Prod.snd (Prod.snd (Prod.snd (Prod.snd p0))))) fun v14 =>
               some (((Prod.fst (Prod.fst v14), ()), ()))
             else
              some (((Bool.false, ()), ()))
           else
            bif Prod.fst p0 == 5 then
             bif Prod.fst (Prod.snd p0) == 0 then
              obind (R.impl_NameOK K (Prod.fst (Prod.snd (Prod.snd (Prod.snd p0))))) fun v14 =>
               some (((Prod.fst (Prod.fst v14), ()), ()))
             else
              some (((Bool.false, ()), ()))
            else
             some (((Bool.false, ()), ()))
         else
          bif Prod.fst p0 == 6 then
           some (((Prod.fst (Prod.snd p0) == 0, ()), ()))
          else
           bif Prod.fst p0 == 3 then
            obind (R.impl_within K (Prod.fst (Prod.snd p0)) 0 60) fun v12 =>
             bif Prod.fst (Prod.fst v12) then
              obind (R.impl_EditsOK K (Prod.snd (Prod.snd (Prod.snd (Prod.snd p0))))) fun v14 =>
               some (((Prod.fst (Prod.fst v14), ()), ()))
             else
              some (((Bool.false, ()), ()))
           else
            bif Prod.fst p0 == 5 then
             bif Prod.fst (Prod.snd p0) == 0 then
              obind (R.impl_NameOK K (Prod.fst (Prod.snd (Prod.snd (Prod.snd p0))))) fun v14 =>
               some (((Prod.fst (Prod.fst v14), ()), ()))
             else
              some (((Bool.false, ()), ()))
            else
             some (((Bool.false, ()), ()))
    else
     bif Prod.fst p0 != 3 then
      bif Decidable.decide ((↑(List.length (Prod.snd (Prod.snd (Prod.snd (Prod.snd p0))))) : Int) > 0) then
       some (((Bool.false, ()), ()))
      else
       bif Prod.fst p0 == 1 then
        bif Prod.fst p0 == 1 then
         obind (R.impl_isHead K (Prod.fst (Prod.snd p0))) fun v9 =>
          some (((Prod.fst (Prod.fst v9), ()), ()))
        else
         bif Prod.fst p0 == 2 then
          bif Prod.fst p0 == 2 then
           some (((Prod.fst (Prod.snd p0) == 0, ()), ()))
          else
           bif Prod.fst p0 == 3 then
            obind (R.impl_within K (Prod.fst (Prod.snd p0)) 0 60) fun v12 =>
             bif Prod.fst (Prod.fst v12) then
              obind (R.impl_EditsOK K (Prod.snd (Prod.snd (Prod.snd (Prod.snd p0))))) fun v14 =>
               some (((Prod.fst (Prod.fst v14), ()), ()))
             else
              some (((Bool.false, ()), ()))
           else
            bif Prod.fst p0 == 5 then
             bif Prod.fst (Prod.snd p0) == 0 then
              obind (R.impl_NameOK K (Prod.fst (Prod.snd (Prod.snd (Prod.snd p0))))) fun v14 =>
               some (((Prod.fst (Prod.fst v14), ()), ()))
             else
              some (((Bool.false, ()), ()))
            else
             some (((Bool.false, ()), ()))
         else
          bif Prod.fst p0 == 6 then
           some (((Prod.fst (Prod.snd p0) == 0, ()), ()))
          else
           bif Prod.fst p0 == 3 then
            obind (R.impl_within K (Prod.fst (Prod.snd p0)) 0 60) fun v12 =>
             bif Prod.fst (Prod.fst v12) then
              obind (R.impl_EditsOK K (Prod.snd (Prod.snd (Prod.snd (Prod.snd p0))))) fun v14 =>
               some (((Prod.fst (Prod.fst v14), ()), ()))
             else
              some (((Bool.false, ()), ()))
           else
            bif Prod.fst p0 == 5 then
             bif Prod.fst (Prod.snd p0) == 0 then
              obind (R.impl_NameOK K (Prod.fst (Prod.snd (Prod.snd (Prod.snd p0))))) fun v14 =>
               some (((Prod.fst (Prod.fst v14), ()), ()))
             else
              some (((Bool.false, ()), ()))
            else
             some (((Bool.false, ()), ()))
       else
        bif Prod.fst p0 == 4 then
         obind (R.impl_isHead K (Prod.fst (Prod.snd p0))) fun v9 =>
          some (((Prod.fst (Prod.fst v9), ()), ()))
        else
         bif Prod.fst p0 == 2 then
          bif Prod.fst p0 == 2 then
           some (((Prod.fst (Prod.snd p0) == 0, ()), ()))
          else
           bif Prod.fst p0 == 3 then
            obind (R.impl_within K (Prod.fst (Prod.snd p0)) 0 60) fun v12 =>
             bif Prod.fst (Prod.fst v12) then
              obind (R.impl_EditsOK K (Prod.snd (Prod.snd (Prod.snd (Prod.snd p0))))) fun v14 =>
               some (((Prod.fst (Prod.fst v14), ()), ()))
             else
              some (((Bool.false, ()), ()))
           else
            bif Prod.fst p0 == 5 then
             bif Prod.fst (Prod.snd p0) == 0 then
              obind (R.impl_NameOK K (Prod.fst (Prod.snd (Prod.snd (Prod.snd p0))))) fun v14 =>
               some (((Prod.fst (Prod.fst v14), ()), ()))
             else
              some (((Bool.false, ()), ()))
            else
             some (((Bool.false, ()), ()))
         else
          bif Prod.fst p0 == 6 then
           some (((Prod.fst (Prod.snd p0) == 0, ()), ()))
          else
           bif Prod.fst p0 == 3 then
            obind (R.impl_within K (Prod.fst (Prod.snd p0)) 0 60) fun v12 =>
             bif Prod.fst (Prod.fst v12) then
              obind (R.impl_EditsOK K (Prod.snd (Prod.snd (Prod.snd (Prod.snd p0))))) fun v14 =>
               some (((Prod.fst (Prod.fst v14), ()), ()))
             else
              some (((Bool.false, ()), ()))
           else
            bif Prod.fst p0 == 5 then
             bif Prod.fst (Prod.snd p0) == 0 then
              obind (R.impl_NameOK K (Prod.fst (Prod.snd (Prod.snd (Prod.snd p0))))) fun v14 =>
               some (((Prod.fst (Prod.fst v14), ()), ()))
             else
              some (((Bool.false, ()), ()))
            else
             some (((Bool.false, ()), ()))
     else
      bif Prod.fst p0 == 1 then
       bif Prod.fst p0 == 1 then
        obind (R.impl_isHead K (Prod.fst (Prod.snd p0))) fun v8 =>
         some (((Prod.fst (Prod.fst v8), ()), ()))
       else
        bif Prod.fst p0 == 2 then
         bif Prod.fst p0 == 2 then
          some (((Prod.fst (Prod.snd p0) == 0, ()), ()))
         else
          bif Prod.fst p0 == 3 then
           obind (R.impl_within K (Prod.fst (Prod.snd p0)) 0 60) fun v11 =>
            bif Prod.fst (Prod.fst v11) then
             obind (R.impl_EditsOK K (Prod.snd (Prod.snd (Prod.snd (Prod.snd p0))))) fun v13 =>
              some (((Prod.fst (Prod.fst v13), ()), ()))
            else
             some (((Bool.false, ()), ()))
          else
           bif Prod.fst p0 == 5 then
            bif Prod.fst (Prod.snd p0) == 0 then
             obind (R.impl_NameOK K (Prod.fst (Prod.snd (Prod.snd (Prod.snd p0))))) fun v13 =>
              some (((Prod.fst (Prod.fst v13), ()), ()))
            else
             some (((Bool.false, ()), ()))
           else
            some (((Bool.false, ()), ()))
        else
         bif Prod.fst p0 == 6 then
          some (((Prod.fst (Prod.snd p0) == 0, ()), ()))
         else
          bif Prod.fst p0 == 3 then
           obind (R.impl_within K (Prod.fst (Prod.snd p0)) 0 60) fun v11 =>
            bif Prod.fst (Prod.fst v11) then
             obind (R.impl_EditsOK K (Prod.snd (Prod.snd (Prod.snd (Prod.snd p0))))) fun v13 =>
              some (((Prod.fst (Prod.fst v13), ()), ()))
            else
             some (((Bool.false, ()), ()))
          else
           bif Prod.fst p0 == 5 then
            bif Prod.fst (Prod.snd p0) == 0 then
             obind (R.impl_NameOK K (Prod.fst (Prod.snd (Prod.snd (Prod.snd p0))))) fun v13 =>
              some (((Prod.fst (Prod.fst v13), ()), ()))
            else
             some (((Bool.false, ()), ()))
           else
            some (((Bool.false, ()), ()))
      else
       bif Prod.fst p0 == 4 then
        obind (R.impl_isHead K (Prod.fst (Prod.snd p0))) fun v8 =>
         some (((Prod.fst (Prod.fst v8), ()), ()))
       else
        bif Prod.fst p0 == 2 then
         bif Prod.fst p0 == 2 then
          some (((Prod.fst (Prod.snd p0) == 0, ()), ()))
         else
          bif Prod.fst p0 == 3 then
           obind (R.impl_within K (Prod.fst (Prod.snd p0)) 0 60) fun v11 =>
            bif Prod.fst (Prod.fst v11) then
             obind (R.impl_EditsOK K (Prod.snd (Prod.snd (Prod.snd (Prod.snd p0))))) fun v13 =>
              some (((Prod.fst (Prod.fst v13), ()), ()))
            else
             some (((Bool.false, ()), ()))
          else
           bif Prod.fst p0 == 5 then
            bif Prod.fst (Prod.snd p0) == 0 then
             obind (R.impl_NameOK K (Prod.fst (Prod.snd (Prod.snd (Prod.snd p0))))) fun v13 =>
              some (((Prod.fst (Prod.fst v13), ()), ()))
            else
             some (((Bool.false, ()), ()))
           else
            some (((Bool.false, ()), ()))
        else
         bif Prod.fst p0 == 6 then
          some (((Prod.fst (Prod.snd p0) == 0, ()), ()))
         else
          bif Prod.fst p0 == 3 then
           obind (R.impl_within K (Prod.fst (Prod.snd p0)) 0 60) fun v11 =>
            bif Prod.fst (Prod.fst v11) then
             obind (R.impl_EditsOK K (Prod.snd (Prod.snd (Prod.snd (Prod.snd p0))))) fun v13 =>
              some (((Prod.fst (Prod.fst v13), ()), ()))
            else
             some (((Bool.false, ()), ()))
          else
           bif Prod.fst p0 == 5 then
            bif Prod.fst (Prod.snd p0) == 0 then
             obind (R.impl_NameOK K (Prod.fst (Prod.snd (Prod.snd (Prod.snd p0))))) fun v13 =>
              some (((Prod.fst (Prod.fst v13), ()), ()))
            else
             some (((Bool.false, ()), ()))
           else
            some (((Bool.false, ()), ()))

noncomputable def R.impl_WishOK (K : Nat) (p0 : (Int) × ((List UInt8) × ((List UInt8) × ((List UInt8) × (List ((List UInt8) × ((Int) × (Bool)))))))) : Option (((Bool) × Unit) × Unit) :=
  obind (R.impl_hasSource K (Prod.fst p0)) fun v2 =>
   bif !Prod.fst (Prod.fst v2) then
    bif Prod.fst (Prod.snd (Prod.snd p0)) == Array.toList (ByteArray.data (ByteArray.mk #[])) then
     obind (R.impl_Wish_op K p0 0) fun v5 =>
      obind (R.impl_OpOK K (Prod.fst (Prod.fst v5))) fun v6 =>
       some (((Prod.fst (Prod.fst v6), ()), ()))
    else
     some (((Bool.false, ()), ()))
   else
    obind (R.impl_NameOK K (Prod.fst (Prod.snd (Prod.snd p0)))) fun v4 =>
     bif Prod.fst (Prod.fst v4) then
      obind (R.impl_Wish_op K p0 1) fun v6 =>
       obind (R.impl_OpOK K (Prod.fst (Prod.fst v6))) fun v7 =>
        some (((Prod.fst (Prod.fst v7), ()), ()))
     else
      some (((Bool.false, ()), ()))

noncomputable def R.impl_kindWords (K : Nat) : Option (((List (List UInt8)) × Unit) × Unit) :=
  some ((([Array.toList (ByteArray.data (ByteArray.mk #[])), Array.toList (ByteArray.data (ByteArray.mk #[99, 114, 101, 97, 116, 101])), Array.toList (ByteArray.data (ByteArray.mk #[100, 101, 108, 101, 116, 101])), Array.toList (ByteArray.data (ByteArray.mk #[99, 111, 109, 109, 105, 116])), Array.toList (ByteArray.data (ByteArray.mk #[109, 101, 114, 103, 101])), Array.toList (ByteArray.data (ByteArray.mk #[103, 101, 116])), Array.toList (ByteArray.data (ByteArray.mk #[115, 99, 97, 110]))], ()), ()))

noncomputable def R.strconv_Itoa (K : Nat) (p0 : Int) : Option (((List UInt8) × Unit) × Unit) := Fw.itoaF p0
noncomputable def R.strings_Join (K : Nat) (p0 : List (List UInt8)) (p1 : List UInt8) : Option (((List UInt8) × Unit) × Unit) := Fw.joinF p0 p1
noncomputable def R.impl_listed (K : Nat) (p0 : List (List UInt8)) : Option (((List UInt8) × Unit) × Unit) :=
  bif (↑(List.length p0) : Int) == 0 then
   some (((Array.toList (ByteArray.data (ByteArray.mk #[45])), ()), ()))
  else
   obind (R.strings_Join K p0 (Array.toList (ByteArray.data (ByteArray.mk #[44])))) fun v3 =>
    some (((Prod.fst (Prod.fst v3), ()), ()))

noncomputable def R.L_impl_editsText_0 (K : Nat) : Nat → ((List UInt8) × ((List ((List UInt8) × ((Int) × (Bool)))) × ((Int) × ((Int) × ((List (List UInt8)) × Unit))))) → Option (((List UInt8) × ((List (List UInt8)) × Unit)) ⊕ Unit)
  | 0, _ => none
  | n + 1, (q0, (q1, (q2, (q3, (q4, ()))))) =>
    bif Decidable.decide (q3 < q2) then
     bif Decidable.decide (0 ≤ q3) && Decidable.decide (q3 < (↑(List.length q1) : Int)) then
      bif Prod.snd (Prod.snd (List.getD q1 (Int.toNat q3) ([], 0, Bool.false))) then
       bif Nat.ble (List.length (Array.toList (ByteArray.data (ByteArray.mk #[33]))) + List.length (Prod.fst (List.getD q1 (Int.toNat q3) ([], 0, Bool.false)))) 268435456 then
        bif Nat.ble (List.length q4 + List.length [Array.toList (ByteArray.data (ByteArray.mk #[33])) ++ Prod.fst (List.getD q1 (Int.toNat q3) ([], 0, Bool.false))]) 268435456 then
         R.L_impl_editsText_0 K n (q0, q1, q2, Go.IntKind.wrap Go.IntKind.i64 (q3 + 1), q4 ++ [Array.toList (ByteArray.data (ByteArray.mk #[33])) ++ Prod.fst (List.getD q1 (Int.toNat q3) ([], 0, Bool.false))], ())
        else
         none
       else
        none
      else
       bif Nat.ble (List.length (Prod.fst (List.getD q1 (Int.toNat q3) ([], 0, Bool.false))) + List.length (Array.toList (ByteArray.data (ByteArray.mk #[61])))) 268435456 then
        obind (R.strconv_Itoa K (Prod.fst (Prod.snd (List.getD q1 (Int.toNat q3) ([], 0, Bool.false))))) fun v8 =>
         bif Nat.ble (List.length (Prod.fst (List.getD q1 (Int.toNat q3) ([], 0, Bool.false)) ++ Array.toList (ByteArray.data (ByteArray.mk #[61]))) + List.length (Prod.fst (Prod.fst v8))) 268435456 then
          bif Nat.ble (List.length q4 + List.length [Prod.fst (List.getD q1 (Int.toNat q3) ([], 0, Bool.false)) ++ Array.toList (ByteArray.data (ByteArray.mk #[61])) ++ Prod.fst (Prod.fst v8)]) 268435456 then
           R.L_impl_editsText_0 K n (q0, q1, q2, Go.IntKind.wrap Go.IntKind.i64 (q3 + 1), q4 ++ [Prod.fst (List.getD q1 (Int.toNat q3) ([], 0, Bool.false)) ++ Array.toList (ByteArray.data (ByteArray.mk #[61])) ++ Prod.fst (Prod.fst v8)], ())
          else
           none
         else
          none
       else
        none
     else
      none
    else
     some (Sum.inl (q0, q4, ()))

noncomputable def R.impl_editsText (K : Nat) (p0 : List ((List UInt8) × ((Int) × (Bool)))) : Option (((List UInt8) × Unit) × Unit) :=
  obind (R.L_impl_editsText_0 K K (Array.toList (ByteArray.data (ByteArray.mk #[])), p0, (↑(List.length p0) : Int), 0, [], ())) fun v2 =>
   (match v2 with
   | .inl v3 =>
    obind (R.impl_listed K (Prod.fst (Prod.snd v3))) fun v4 =>
     some (((Prod.fst (Prod.fst v4), ()), ()))
   | .inr v3 =>
    none
   )

noncomputable def R.impl_wishText (K : Nat) (p0 : (Int) × ((List UInt8) × ((List UInt8) × ((List UInt8) × (List ((List UInt8) × ((Int) × (Bool)))))))) : Option (((List UInt8) × Unit) × Unit) :=
  bif Decidable.decide (0 ≤ Prod.fst p0) && Decidable.decide (Prod.fst p0 < (↑(List.length [Array.toList (ByteArray.data (ByteArray.mk #[])), Array.toList (ByteArray.data (ByteArray.mk #[99, 114, 101, 97, 116, 101])), Array.toList (ByteArray.data (ByteArray.mk #[100, 101, 108, 101, 116, 101])), Array.toList (ByteArray.data (ByteArray.mk #[99, 111, 109, 109, 105, 116])), Array.toList (ByteArray.data (ByteArray.mk #[109, 101, 114, 103, 101])), Array.toList (ByteArray.data (ByteArray.mk #[103, 101, 116])), Array.toList (ByteArray.data (ByteArray.mk #[115, 99, 97, 110]))]) : Int)) then
   bif Nat.ble (List.length (List.getD [Array.toList (ByteArray.data (ByteArray.mk #[])), Array.toList (ByteArray.data (ByteArray.mk #[99, 114, 101, 97, 116, 101])), Array.toList (ByteArray.data (ByteArray.mk #[100, 101, 108, 101, 116, 101])), Array.toList (ByteArray.data (ByteArray.mk #[99, 111, 109, 109, 105, 116])), Array.toList (ByteArray.data (ByteArray.mk #[109, 101, 114, 103, 101])), Array.toList (ByteArray.data (ByteArray.mk #[103, 101, 116])), Array.toList (ByteArray.data (ByteArray.mk #[115, 99, 97, 110]))] (Int.toNat (Prod.fst p0)) []) + List.length (Array.toList (ByteArray.data (ByteArray.mk #[32])))) 268435456 then
    bif Nat.ble (List.length (List.getD [Array.toList (ByteArray.data (ByteArray.mk #[])), Array.toList (ByteArray.data (ByteArray.mk #[99, 114, 101, 97, 116, 101])), Array.toList (ByteArray.data (ByteArray.mk #[100, 101, 108, 101, 116, 101])), Array.toList (ByteArray.data (ByteArray.mk #[99, 111, 109, 109, 105, 116])), Array.toList (ByteArray.data (ByteArray.mk #[109, 101, 114, 103, 101])), Array.toList (ByteArray.data (ByteArray.mk #[103, 101, 116])), Array.toList (ByteArray.data (ByteArray.mk #[115, 99, 97, 110]))] (Int.toNat (Prod.fst p0)) [] ++ Array.toList (ByteArray.data (ByteArray.mk #[32]))) + List.length (Prod.fst (Prod.snd p0))) 268435456 then
     bif Prod.fst p0 == 1 then
      bif Prod.fst p0 == 1 then
       bif Nat.ble (List.length (List.getD [Array.toList (ByteArray.data (ByteArray.mk #[])), Array.toList (ByteArray.data (ByteArray.mk #[99, 114, 101, 97, 116, 101])), Array.toList (ByteArray.data (ByteArray.mk #[100, 101, 108, 101, 116, 101])), Array.toList (ByteArray.data (ByteArray.mk #[99, 111, 109, 109, 105, 116])), Array.toList (ByteArray.data (ByteArray.mk #[109, 101, 114, 103, 101])), Array.toList (ByteArray.data (ByteArray.mk #[103, 101, 116])), Array.toList (ByteArray.data (ByteArray.mk #[115, 99, 97, 110]))] (Int.toNat (Prod.fst p0)) [] ++ Array.toList (ByteArray.data (ByteArray.mk #[32])) ++ Prod.fst (Prod.snd p0)) + List.length (Array.toList (ByteArray.data (ByteArray.mk #[32])))) 268435456 then
        bif Nat.ble (List.length (List.getD [Array.toList (ByteArray.data (ByteArray.mk #[])), Array.toList (ByteArray.data (ByteArray.mk #[99, 114, 101, 97, 116, 101])), Array.toList (ByteArray.data (ByteArray.mk #[100, 101, 108, 101, 116, 101])), Array.toList (ByteArray.data (ByteArray.mk #[99, 111, 109, 109, 105, 116])), Array.toList (ByteArray.data (ByteArray.mk #[109, 101, 114, 103, 101])), Array.toList (ByteArray.data (ByteArray.mk #[103, 101, 116])), Array.toList (ByteArray.data (ByteArray.mk #[115, 99, 97, 110]))] (Int.toNat (Prod.fst p0)) [] ++ Array.toList (ByteArray.data (ByteArray.mk #[32])) ++ Prod.fst (Prod.snd p0) ++ Array.toList (ByteArray.data (ByteArray.mk #[32]))) + List.length (Prod.fst (Prod.snd (Prod.snd p0)))) 268435456 then
         some (((List.getD [Array.toList (ByteArray.data (ByteArray.mk #[])), Array.toList (ByteArray.data (ByteArray.mk #[99, 114, 101, 97, 116, 101])), Array.toList (ByteArray.data (ByteArray.mk #[100, 101, 108, 101, 116, 101])), Array.toList (ByteArray.data (ByteArray.mk #[99, 111, 109, 109, 105, 116])), Array.toList (ByteArray.data (ByteArray.mk #[109, 101, 114, 103, 101])), Array.toList (ByteArray.data (ByteArray.mk #[103, 101, 116])), Array.toList (ByteArray.data (ByteArray.mk #[115, 99, 97, 110]))] (Int.toNat (Prod.fst p0)) [] ++ Array.toList (ByteArray.data (ByteArray.mk #[32])) ++ Prod.fst (Prod.snd p0) ++ Array.toList (ByteArray.data (ByteArray.mk #[32])) ++ Prod.fst (Prod.snd (Prod.snd p0)), ()), ()))
        else
         none
       else
        none
      else
       bif Prod.fst p0 == 3 then
        bif Nat.ble (List.length (List.getD [Array.toList (ByteArray.data (ByteArray.mk #[])), Array.toList (ByteArray.data (ByteArray.mk #[99, 114, 101, 97, 116, 101])), Array.toList (ByteArray.data (ByteArray.mk #[100, 101, 108, 101, 116, 101])), Array.toList (ByteArray.data (ByteArray.mk #[99, 111, 109, 109, 105, 116])), Array.toList (ByteArray.data (ByteArray.mk #[109, 101, 114, 103, 101])), Array.toList (ByteArray.data (ByteArray.mk #[103, 101, 116])), Array.toList (ByteArray.data (ByteArray.mk #[115, 99, 97, 110]))] (Int.toNat (Prod.fst p0)) [] ++ Array.toList (ByteArray.data (ByteArray.mk #[32])) ++ Prod.fst (Prod.snd p0)) + List.length (Array.toList (ByteArray.data (ByteArray.mk #[32])))) 268435456 then
         obind (R.impl_editsText K (Prod.snd (Prod.snd (Prod.snd (Prod.snd p0))))) fun v9 =>
          bif Nat.ble (List.length (List.getD [Array.toList (ByteArray.data (ByteArray.mk #[])), Array.toList (ByteArray.data (ByteArray.mk #[99, 114, 101, 97, 116, 101])), Array.toList (ByteArray.data (ByteArray.mk #[100, 101, 108, 101, 116, 101])), Array.toList (ByteArray.data (ByteArray.mk #[99, 111, 109, 109, 105, 116])), Array.toList (ByteArray.data (ByteArray.mk #[109, 101, 114, 103, 101])), Array.toList (ByteArray.data (ByteArray.mk #[103, 101, 116])), Array.toList (ByteArray.data (ByteArray.mk #[115, 99, 97, 110]))] (Int.toNat (Prod.fst p0)) [] ++ Array.toList (ByteArray.data (ByteArray.mk #[32])) ++ Prod.fst (Prod.snd p0) ++ Array.toList (ByteArray.data (ByteArray.mk #[32]))) + List.length (Prod.fst (Prod.fst v9))) 268435456 then
           some (((List.getD [Array.toList (ByteArray.data (ByteArray.mk #[])), Array.toList (ByteArray.data (ByteArray.mk #[99, 114, 101, 97, 116, 101])), Array.toList (ByteArray.data (ByteArray.mk #[100, 101, 108, 101, 116, 101])), Array.toList (ByteArray.data (ByteArray.mk #[99, 111, 109, 109, 105, 116])), Array.toList (ByteArray.data (ByteArray.mk #[109, 101, 114, 103, 101])), Array.toList (ByteArray.data (ByteArray.mk #[103, 101, 116])), Array.toList (ByteArray.data (ByteArray.mk #[115, 99, 97, 110]))] (Int.toNat (Prod.fst p0)) [] ++ Array.toList (ByteArray.data (ByteArray.mk #[32])) ++ Prod.fst (Prod.snd p0) ++ Array.toList (ByteArray.data (ByteArray.mk #[32])) ++ Prod.fst (Prod.fst v9), ()), ()))
          else
           none
        else
         none
       else
        bif Prod.fst p0 == 5 then
         bif Nat.ble (List.length (List.getD [Array.toList (ByteArray.data (ByteArray.mk #[])), Array.toList (ByteArray.data (ByteArray.mk #[99, 114, 101, 97, 116, 101])), Array.toList (ByteArray.data (ByteArray.mk #[100, 101, 108, 101, 116, 101])), Array.toList (ByteArray.data (ByteArray.mk #[99, 111, 109, 109, 105, 116])), Array.toList (ByteArray.data (ByteArray.mk #[109, 101, 114, 103, 101])), Array.toList (ByteArray.data (ByteArray.mk #[103, 101, 116])), Array.toList (ByteArray.data (ByteArray.mk #[115, 99, 97, 110]))] (Int.toNat (Prod.fst p0)) [] ++ Array.toList (ByteArray.data (ByteArray.mk #[32])) ++ Prod.fst (Prod.snd p0)) + List.length (Array.toList (ByteArray.data (ByteArray.mk #[32])))) 268435456 then
          bif Nat.ble (List.length (List.getD [Array.toList (ByteArray.data (ByteArray.mk #[])), Array.toList (ByteArray.data (ByteArray.mk #[99, 114, 101, 97, 116, 101])), Array.toList (ByteArray.data (ByteArray.mk #[100, 101, 108, 101, 116, 101])), Array.toList (ByteArray.data (ByteArray.mk #[99, 111, 109, 109, 105, 116])), Array.toList (ByteArray.data (ByteArray.mk #[109, 101, 114, 103, 101])), Array.toList (ByteArray.data (ByteArray.mk #[103, 101, 116])), Array.toList (ByteArray.data (ByteArray.mk #[115, 99, 97, 110]))] (Int.toNat (Prod.fst p0)) [] ++ Array.toList (ByteArray.data (ByteArray.mk #[32])) ++ Prod.fst (Prod.snd p0) ++ Array.toList (ByteArray.data (ByteArray.mk #[32]))) + List.length (Prod.fst (Prod.snd (Prod.snd (Prod.snd p0))))) 268435456 then
           some (((List.getD [Array.toList (ByteArray.data (ByteArray.mk #[])), Array.toList (ByteArray.data (ByteArray.mk #[99, 114, 101, 97, 116, 101])), Array.toList (ByteArray.data (ByteArray.mk #[100, 101, 108, 101, 116, 101])), Array.toList (ByteArray.data (ByteArray.mk #[99, 111, 109, 109, 105, 116])), Array.toList (ByteArray.data (ByteArray.mk #[109, 101, 114, 103, 101])), Array.toList (ByteArray.data (ByteArray.mk #[103, 101, 116])), Array.toList (ByteArray.data (ByteArray.mk #[115, 99, 97, 110]))] (Int.toNat (Prod.fst p0)) [] ++ Array.toList (ByteArray.data (ByteArray.mk #[32])) ++ Prod.fst (Prod.snd p0) ++ Array.toList (ByteArray.data (ByteArray.mk #[32])) ++ Prod.fst (Prod.snd (Prod.snd (Prod.snd p0))), ()), ()))
          else
           none
         else
          none
        else
         some (((List.getD [Array.toList (ByteArray.data (ByteArray.mk #[])), Array.toList (ByteArray.data (ByteArray.mk #[99, 114, 101, 97, 116, 101])), Array.toList (ByteArray.data (ByteArray.mk #[100, 101, 108, 101, 116, 101])), Array.toList (ByteArray.data (ByteArray.mk #[99, 111, 109, 109, 105, 116])), Array.toList (ByteArray.data (ByteArray.mk #[109, 101, 114, 103, 101])), Array.toList (ByteArray.data (ByteArray.mk #[103, 101, 116])), Array.toList (ByteArray.data (ByteArray.mk #[115, 99, 97, 110]))] (Int.toNat (Prod.fst p0)) [] ++ Array.toList (ByteArray.data (ByteArray.mk #[32])) ++ Prod.fst (Prod.snd p0), ()), ()))
     else
      bif Prod.fst p0 == 4 then
       bif Nat.ble (List.length (List.getD [Array.toList (ByteArray.data (ByteArray.mk #[])), Array.toList (ByteArray.data (ByteArray.mk #[99, 114, 101, 97, 116, 101])), Array.toList (ByteArray.data (ByteArray.mk #[100, 101, 108, 101, 116, 101])), Array.toList (ByteArray.data (ByteArray.mk #[99, 111, 109, 109, 105, 116])), Array.toList (ByteArray.data (ByteArray.mk #[109, 101, 114, 103, 101])), Array.toList (ByteArray.data (ByteArray.mk #[103, 101, 116])), Array.toList (ByteArray.data (ByteArray.mk #[115, 99, 97, 110]))] (Int.toNat (Prod.fst p0)) [] ++ Array.toList (ByteArray.data (ByteArray.mk #[32])) ++ Prod.fst (Prod.snd p0)) + List.length (Array.toList (ByteArray.data (ByteArray.mk #[32])))) 268435456 then
        bif Nat.ble (List.length (List.getD [Array.toList (ByteArray.data (ByteArray.mk #[])), Array.toList (ByteArray.data (ByteArray.mk #[99, 114, 101, 97, 116, 101])), Array.toList (ByteArray.data (ByteArray.mk #[100, 101, 108, 101, 116, 101])), Array.toList (ByteArray.data (ByteArray.mk #[99, 111, 109, 109, 105, 116])), Array.toList (ByteArray.data (ByteArray.mk #[109, 101, 114, 103, 101])), Array.toList (ByteArray.data (ByteArray.mk #[103, 101, 116])), Array.toList (ByteArray.data (ByteArray.mk #[115, 99, 97, 110]))] (Int.toNat (Prod.fst p0)) [] ++ Array.toList (ByteArray.data (ByteArray.mk #[32])) ++ Prod.fst (Prod.snd p0) ++ Array.toList (ByteArray.data (ByteArray.mk #[32]))) + List.length (Prod.fst (Prod.snd (Prod.snd p0)))) 268435456 then
         some (((List.getD [Array.toList (ByteArray.data (ByteArray.mk #[])), Array.toList (ByteArray.data (ByteArray.mk #[99, 114, 101, 97, 116, 101])), Array.toList (ByteArray.data (ByteArray.mk #[100, 101, 108, 101, 116, 101])), Array.toList (ByteArray.data (ByteArray.mk #[99, 111, 109, 109, 105, 116])), Array.toList (ByteArray.data (ByteArray.mk #[109, 101, 114, 103, 101])), Array.toList (ByteArray.data (ByteArray.mk #[103, 101, 116])), Array.toList (ByteArray.data (ByteArray.mk #[115, 99, 97, 110]))] (Int.toNat (Prod.fst p0)) [] ++ Array.toList (ByteArray.data (ByteArray.mk #[32])) ++ Prod.fst (Prod.snd p0) ++ Array.toList (ByteArray.data (ByteArray.mk #[32])) ++ Prod.fst (Prod.snd (Prod.snd p0)), ()), ()))
        else
         none
       else
        none
      else
       bif Prod.fst p0 == 3 then
        bif Nat.ble (List.length (List.getD [Array.toList (ByteArray.data (ByteArray.mk #[])), Array.toList (ByteArray.data (ByteArray.mk #[99, 114, 101, 97, 116, 101])), Array.toList (ByteArray.data (ByteArray.mk #[100, 101, 108, 101, 116, 101])), Array.toList (ByteArray.data (ByteArray.mk #[99, 111, 109, 109, 105, 116])), Array.toList (ByteArray.data (ByteArray.mk #[109, 101, 114, 103, 101])), Array.toList (ByteArray.data (ByteArray.mk #[103, 101, 116])), Array.toList (ByteArray.data (ByteArray.mk #[115, 99, 97, 110]))] (Int.toNat (Prod.fst p0)) [] ++ Array.toList (ByteArray.data (ByteArray.mk #[32])) ++ Prod.fst (Prod.snd p0)) + List.length (Array.toList (ByteArray.data (ByteArray.mk #[32])))) 268435456 then
         obind (R.impl_editsText K (Prod.snd (Prod.snd (Prod.snd (Prod.snd p0))))) fun v9 =>
          bif Nat.ble (List.length (List.getD [Array.toList (ByteArray.data (ByteArray.mk #[])), Array.toList (ByteArray.data (ByteArray.mk #[99, 114, 101, 97, 116, 101])), Array.toList (ByteArray.data (ByteArray.mk #[100, 101, 108, 101, 116, 101])), Array.toList (ByteArray.data (ByteArray.mk #[99, 111, 109, 109, 105, 116])), Array.toList (ByteArray.data (ByteArray.mk #[109, 101, 114, 103, 101])), Array.toList (ByteArray.data (ByteArray.mk #[103, 101, 116])), Array.toList (ByteArray.data (ByteArray.mk #[115, 99, 97, 110]))] (Int.toNat (Prod.fst p0)) [] ++ Array.toList (ByteArray.data (ByteArray.mk #[32])) ++ Prod.fst (Prod.snd p0) ++ Array.toList (ByteArray.data (ByteArray.mk #[32]))) + List.length (Prod.fst (Prod.fst v9))) 268435456 then
           some (((List.getD [Array.toList (ByteArray.data (ByteArray.mk #[])), Array.toList (ByteArray.data (ByteArray.mk #[99, 114, 101, 97, 116, 101])), Array.toList (ByteArray.data (ByteArray.mk #[100, 101, 108, 101, 116, 101])), Array.toList (ByteArray.data (ByteArray.mk #[99, 111, 109, 109, 105, 116])), Array.toList (ByteArray.data (ByteArray.mk #[109, 101, 114, 103, 101])), Array.toList (ByteArray.data (ByteArray.mk #[103, 101, 116])), Array.toList (ByteArray.data (ByteArray.mk #[115, 99, 97, 110]))] (Int.toNat (Prod.fst p0)) [] ++ Array.toList (ByteArray.data (ByteArray.mk #[32])) ++ Prod.fst (Prod.snd p0) ++ Array.toList (ByteArray.data (ByteArray.mk #[32])) ++ Prod.fst (Prod.fst v9), ()), ()))
          else
           none
        else
         none
       else
        bif Prod.fst p0 == 5 then
         bif Nat.ble (List.length (List.getD [Array.toList (ByteArray.data (ByteArray.mk #[])), Array.toList (ByteArray.data (ByteArray.mk #[99, 114, 101, 97, 116, 101])), Array.toList (ByteArray.data (ByteArray.mk #[100, 101, 108, 101, 116, 101])), Array.toList (ByteArray.data (ByteArray.mk #[99, 111, 109, 109, 105, 116])), Array.toList (ByteArray.data (ByteArray.mk #[109, 101, 114, 103, 101])), Array.toList (ByteArray.data (ByteArray.mk #[103, 101, 116])), Array.toList (ByteArray.data (ByteArray.mk #[115, 99, 97, 110]))] (Int.toNat (Prod.fst p0)) [] ++ Array.toList (ByteArray.data (ByteArray.mk #[32])) ++ Prod.fst (Prod.snd p0)) + List.length (Array.toList (ByteArray.data (ByteArray.mk #[32])))) 268435456 then
          bif Nat.ble (List.length (List.getD [Array.toList (ByteArray.data (ByteArray.mk #[])), Array.toList (ByteArray.data (ByteArray.mk #[99, 114, 101, 97, 116, 101])), Array.toList (ByteArray.data (ByteArray.mk #[100, 101, 108, 101, 116, 101])), Array.toList (ByteArray.data (ByteArray.mk #[99, 111, 109, 109, 105, 116])), Array.toList (ByteArray.data (ByteArray.mk #[109, 101, 114, 103, 101])), Array.toList (ByteArray.data (ByteArray.mk #[103, 101, 116])), Array.toList (ByteArray.data (ByteArray.mk #[115, 99, 97, 110]))] (Int.toNat (Prod.fst p0)) [] ++ Array.toList (ByteArray.data (ByteArray.mk #[32])) ++ Prod.fst (Prod.snd p0) ++ Array.toList (ByteArray.data (ByteArray.mk #[32]))) + List.length (Prod.fst (Prod.snd (Prod.snd (Prod.snd p0))))) 268435456 then
           some (((List.getD [Array.toList (ByteArray.data (ByteArray.mk #[])), Array.toList (ByteArray.data (ByteArray.mk #[99, 114, 101, 97, 116, 101])), Array.toList (ByteArray.data (ByteArray.mk #[100, 101, 108, 101, 116, 101])), Array.toList (ByteArray.data (ByteArray.mk #[99, 111, 109, 109, 105, 116])), Array.toList (ByteArray.data (ByteArray.mk #[109, 101, 114, 103, 101])), Array.toList (ByteArray.data (ByteArray.mk #[103, 101, 116])), Array.toList (ByteArray.data (ByteArray.mk #[115, 99, 97, 110]))] (Int.toNat (Prod.fst p0)) [] ++ Array.toList (ByteArray.data (ByteArray.mk #[32])) ++ Prod.fst (Prod.snd p0) ++ Array.toList (ByteArray.data (ByteArray.mk #[32])) ++ Prod.fst (Prod.snd (Prod.snd (Prod.snd p0))), ()), ()))
          else
           none
         else
          none
        else
         some (((List.getD [Array.toList (ByteArray.data (ByteArray.mk #[])), Array.toList (ByteArray.data (ByteArray.mk #[99, 114, 101, 97, 116, 101])), Array.toList (ByteArray.data (ByteArray.mk #[100, 101, 108, 101, 116, 101])), Array.toList (ByteArray.data (ByteArray.mk #[99, 111, 109, 109, 105, 116])), Array.toList (ByteArray.data (ByteArray.mk #[109, 101, 114, 103, 101])), Array.toList (ByteArray.data (ByteArray.mk #[103, 101, 116])), Array.toList (ByteArray.data (ByteArray.mk #[115, 99, 97, 110]))] (Int.toNat (Prod.fst p0)) [] ++ Array.toList (ByteArray.data (ByteArray.mk #[32])) ++ Prod.fst (Prod.snd p0), ()), ()))
    else
     none
   else
    none
  else
   none

noncomputable def R.impl_WishText (K : Nat) (p0 : (Int) × ((List UInt8) × ((List UInt8) × ((List UInt8) × (List ((List UInt8) × ((Int) × (Bool)))))))) : Option (((List UInt8) × ((Int) × Unit)) × Unit) :=
  obind (R.impl_WishOK K p0) fun v2 =>
   bif !Prod.fst (Prod.fst v2) then
    some (((Array.toList (ByteArray.data (ByteArray.mk #[])), 1, ()), ()))
   else
    obind (R.impl_wishText K p0) fun v4 =>
     some (((Prod.fst (Prod.fst v4), 0, ()), ()))

noncomputable def R.laws_eqEdit (K : Nat) (p0 : (List UInt8) × ((Int) × (Bool))) (p1 : (List UInt8) × ((Int) × (Bool))) : Option (((Bool) × Unit) × Unit) :=
  bif !Prod.fst p0 == Prod.fst p1 then
   some (((Bool.false, ()), ()))
  else
   bif Prod.fst (Prod.snd p0) != Prod.fst (Prod.snd p1) then
    some (((Bool.false, ()), ()))
   else
    bif !Prod.snd (Prod.snd p0) == Prod.snd (Prod.snd p1) then
     some (((Bool.false, ()), ()))
    else
     some (((Bool.true, ()), ()))

noncomputable def R.L_laws_eqEditS_0 (K : Nat) : Nat → ((List ((List UInt8) × ((Int) × (Bool)))) × ((List ((List UInt8) × ((Int) × (Bool)))) × ((Bool) × ((Int) × Unit)))) → Option (((Bool) × Unit) ⊕ ((Bool) × Unit))
  | 0, _ => none
  | n + 1, (q0, (q1, (q2, (q3, ())))) =>
    bif Decidable.decide (q3 < (↑(List.length q0) : Int)) then
     bif Decidable.decide (0 ≤ q3) && Decidable.decide (q3 < (↑(List.length q0) : Int)) then
      bif Decidable.decide (0 ≤ q3) && Decidable.decide (q3 < (↑(List.length q1) : Int)) then
       obind (R.laws_eqEdit K (List.getD q0 (Int.toNat q3) ([], 0, Bool.false)) (List.getD q1 (Int.toNat q3) ([], 0, Bool.false))) fun v7 =>
        bif !Prod.fst (Prod.fst v7) then
         some (Sum.inr (Bool.false, ()))
        else
         R.L_laws_eqEditS_0 K n (q0, q1, q2, Go.IntKind.wrap Go.IntKind.i64 (q3 + 1), ())
      else
       none
     else
      none
    else
     some (Sum.inl (q2, ()))

noncomputable def R.laws_eqEditS (K : Nat) (p0 : List ((List UInt8) × ((Int) × (Bool)))) (p1 : List ((List UInt8) × ((Int) × (Bool)))) : Option (((Bool) × Unit) × Unit) :=
  bif (↑(List.length p0) : Int) != (↑(List.length p1) : Int) then
   some (((Bool.false, ()), ()))
  else
   obind (R.L_laws_eqEditS_0 K K (p0, p1, Bool.false, 0, ())) fun v3 =>
    (match v3 with
    | .inl v4 =>
     some (((Bool.true, ()), ()))
    | .inr v4 =>
     some (((Prod.fst v4, ()), ()))
    )

noncomputable def R.laws_eqWish (K : Nat) (p0 : (Int) × ((List UInt8) × ((List UInt8) × ((List UInt8) × (List ((List UInt8) × ((Int) × (Bool)))))))) (p1 : (Int) × ((List UInt8) × ((List UInt8) × ((List UInt8) × (List ((List UInt8) × ((Int) × (Bool)))))))) : Option (((Bool) × Unit) × Unit) :=
  bif Prod.fst p0 != Prod.fst p1 then
   some (((Bool.false, ()), ()))
  else
   bif !Prod.fst (Prod.snd p0) == Prod.fst (Prod.snd p1) then
    some (((Bool.false, ()), ()))
   else
    bif !Prod.fst (Prod.snd (Prod.snd p0)) == Prod.fst (Prod.snd (Prod.snd p1)) then
     some (((Bool.false, ()), ()))
    else
     bif !Prod.fst (Prod.snd (Prod.snd (Prod.snd p0))) == Prod.fst (Prod.snd (Prod.snd (Prod.snd p1))) then
      some (((Bool.false, ()), ()))
     else
      obind (R.laws_eqEditS K (Prod.snd (Prod.snd (Prod.snd (Prod.snd p0)))) (Prod.snd (Prod.snd (Prod.snd (Prod.snd p1))))) fun v6 =>
       bif !Prod.fst (Prod.fst v6) then
        some (((Bool.false, ()), ()))
       else
        some (((Bool.true, ()), ()))

noncomputable def R.laws_FnExactWishText (K : Nat) (p0 : (Int) × ((List UInt8) × ((List UInt8) × ((List UInt8) × (List ((List UInt8) × ((Int) × (Bool)))))))) : Option (((Bool) × Unit) × Unit) :=
  obind (R.laws_szWish K p0 1048576) fun v2 =>
   bif Decidable.decide (Prod.fst (Prod.fst v2) < 0) then
    some (((Bool.true, ()), ()))
   else
    obind (R.laws_toWish K p0) fun v4 =>
     obind (R.spec_WishText K (Prod.fst (Prod.fst v4))) fun v5 =>
      obind (R.laws_toWish K p0) fun v6 =>
       obind (R.impl_WishText K (Prod.fst (Prod.fst v6))) fun v7 =>
        bif !Prod.fst (Prod.fst v7) == Prod.fst (Prod.fst v5) then
         some (((Bool.false, ()), ()))
        else
         bif Prod.fst (Prod.snd (Prod.fst v7)) != Prod.fst (Prod.snd (Prod.fst v5)) then
          some (((Bool.false, ()), ()))
         else
          obind (R.laws_toWish K p0) fun v10 =>
           obind (R.laws_eqWish K (Prod.fst (Prod.fst v6)) (Prod.fst (Prod.fst v10))) fun v11 =>
            bif !Prod.fst (Prod.fst v11) then
             some (((Bool.false, ()), ()))
            else
             some (((Bool.true, ()), ()))

noncomputable def R.L_laws_szStringS_0 (K : Nat) : Nat → ((List (List UInt8)) × ((Int) × ((Int) × ((Int) × Unit)))) → Option (((Int) × ((Int) × Unit)) ⊕ ((Int) × Unit))
  | 0, _ => none
  | n + 1, (q0, (q1, (q2, (q3, ())))) =>
    bif Decidable.decide (q3 < (↑(List.length q0) : Int)) then
     bif Decidable.decide (0 ≤ q3) && Decidable.decide (q3 < (↑(List.length q0) : Int)) then
      bif Decidable.decide (Go.IntKind.wrap Go.IntKind.i64 (q1 - (↑(List.length (List.getD q0 (Int.toNat q3) [])) : Int)) < 0) then
       some (Sum.inr (-1, ()))
      else
       R.L_laws_szStringS_0 K n (q0, Go.IntKind.wrap Go.IntKind.i64 (q1 - (↑(List.length (List.getD q0 (Int.toNat q3) [])) : Int)), q2, Go.IntKind.wrap Go.IntKind.i64 (q3 + 1), ())
     else
      none
    else
     some (Sum.inl (q1, q2, ()))

noncomputable def R.laws_szStringS (K : Nat) (p0 : List (List UInt8)) (p1 : Int) : Option (((Int) × Unit) × Unit) :=
  bif Decidable.decide (Go.IntKind.wrap Go.IntKind.i64 (p1 - (↑(List.length p0) : Int)) < 0) then
   some (((-1, ()), ()))
  else
   obind (R.L_laws_szStringS_0 K K (p0, Go.IntKind.wrap Go.IntKind.i64 (p1 - (↑(List.length p0) : Int)), 0, 0, ())) fun v3 =>
    (match v3 with
    | .inl v4 =>
     some (((Prod.fst v4, ()), ()))
    | .inr v4 =>
     some (((Prod.fst v4, ()), ()))
    )

noncomputable def R.laws_szEntry (K : Nat) (p0 : (List UInt8) × (Int)) (p1 : Int) : Option (((Int) × Unit) × Unit) :=
  bif Decidable.decide (Go.IntKind.wrap Go.IntKind.i64 (p1 - (↑(List.length (Prod.fst p0)) : Int)) < 0) then
   some (((-1, ()), ()))
  else
   some (((Go.IntKind.wrap Go.IntKind.i64 (p1 - (↑(List.length (Prod.fst p0)) : Int)), ()), ()))

noncomputable def R.L_laws_szEntryS_0 (K : Nat) : Nat → ((List ((List UInt8) × (Int))) × ((Int) × ((Int) × ((Int) × Unit)))) → Option (((Int) × ((Int) × Unit)) ⊕ ((Int) × Unit))
  | 0, _ => none
  | n + 1, (q0, (q1, (q2, (q3, ())))) =>
    bif Decidable.decide (q3 < (↑(List.length q0) : Int)) then
     bif Decidable.decide (0 ≤ q3) && Decidable.decide (q3 < (↑(List.length q0) : Int)) then
      obind (R.laws_szEntry K (List.getD q0 (Int.toNat q3) ([], 0)) q1) fun v6 =>
       bif Decidable.decide (Prod.fst (Prod.fst v6) < 0) then
        some (Sum.inr (-1, ()))
       else
        R.L_laws_szEntryS_0 K n (q0, Prod.fst (Prod.fst v6), q2, Go.IntKind.wrap Go.IntKind.i64 (q3 + 1), ())
     else
      none
    else
     some (Sum.inl (q1, q2, ()))

noncomputable def R.laws_szEntryS (K : Nat) (p0 : List ((List UInt8) × (Int))) (p1 : Int) : Option (((Int) × Unit) × Unit) :=
  bif Decidable.decide (Go.IntKind.wrap Go.IntKind.i64 (p1 - (↑(List.length p0) : Int)) < 0) then
   some (((-1, ()), ()))
  else
   obind (R.L_laws_szEntryS_0 K K (p0, Go.IntKind.wrap Go.IntKind.i64 (p1 - (↑(List.length p0) : Int)), 0, 0, ())) fun v3 =>
    (match v3 with
    | .inl v4 =>
     some (((Prod.fst v4, ()), ()))
    | .inr v4 =>
     some (((Prod.fst v4, ()), ()))
    )

noncomputable def R.laws_szResult (K : Nat) (p0 : (Int) × ((Int) × ((Int) × ((List (List UInt8)) × (List ((List UInt8) × (Int))))))) (p1 : Int) : Option (((Int) × Unit) × Unit) :=
  obind (R.laws_szStringS K (Prod.fst (Prod.snd (Prod.snd (Prod.snd p0)))) p1) fun v2 =>
   bif Decidable.decide (Prod.fst (Prod.fst v2) < 0) then
    some (((-1, ()), ()))
   else
    obind (R.laws_szEntryS K (Prod.snd (Prod.snd (Prod.snd (Prod.snd p0)))) (Prod.fst (Prod.fst v2))) fun v4 =>
     bif Decidable.decide (Prod.fst (Prod.fst v4) < 0) then
      some (((-1, ()), ()))
     else
      some (((Prod.fst (Prod.fst v4), ()), ()))

noncomputable def R.L_laws_toStringS_0 (K : Nat) : Nat → ((List (List UInt8)) × ((Int) × ((List (List UInt8)) × ((List (List UInt8)) × Unit)))) → Option (((List (List UInt8)) × ((List (List UInt8)) × Unit)) ⊕ Unit)
  | 0, _ => none
  | n + 1, (q0, (q1, (q2, (q3, ())))) =>
    bif Decidable.decide (q1 < (↑(List.length q0) : Int)) then
     bif Decidable.decide (0 ≤ q1) && Decidable.decide (q1 < (↑(List.length q0) : Int)) then
      bif Decidable.decide (0 ≤ q1) && Decidable.decide (q1 < (↑(List.length q3) : Int)) then
       R.L_laws_toStringS_0 K n (q0, Go.IntKind.wrap Go.IntKind.i64 (q1 + 1), q2, List.set q3 (Int.toNat q1) (List.getD q0 (Int.toNat q1) []), ())
      else
       none
     else
      none
    else
     some (Sum.inl (q2, q3, ()))

noncomputable def R.laws_toStringS (K : Nat) (p0 : List (List UInt8)) : Option (((List (List UInt8)) × Unit) × Unit) :=
  bif Decidable.decide (0 ≤ (↑(List.length p0) : Int)) && Decidable.decide ((↑(List.length p0) : Int) ≤ (↑(List.length p0) : Int)) && Decidable.decide ((↑(List.length p0) : Int) ≤ (↑268435456 : Int)) then
   obind (R.L_laws_toStringS_0 K K (p0, 0, [], List.replicate (Int.toNat (↑(List.length p0) : Int)) [], ())) fun v3 =>
    (match v3 with
    | .inl v4 =>
     some (((Prod.fst (Prod.snd v4), ()), ()))
    | .inr v4 =>
     none
    )
  else
   none

noncomputable def R.laws_toEntry (K : Nat) (p0 : (List UInt8) × (Int)) : Option ((((List UInt8) × (Int)) × Unit) × Unit) :=
  some (((p0, ()), ()))

noncomputable def R.L_laws_toEntryS_0 (K : Nat) : Nat → ((List ((List UInt8) × (Int))) × ((Int) × ((List ((List UInt8) × (Int))) × ((List ((List UInt8) × (Int))) × Unit)))) → Option (((List ((List UInt8) × (Int))) × ((List ((List UInt8) × (Int))) × Unit)) ⊕ Unit)
  | 0, _ => none
  | n + 1, (q0, (q1, (q2, (q3, ())))) =>
    bif Decidable.decide (q1 < (↑(List.length q0) : Int)) then
     bif Decidable.decide (0 ≤ q1) && Decidable.decide (q1 < (↑(List.length q0) : Int)) then
      bif Decidable.decide (0 ≤ q1) && Decidable.decide (q1 < (↑(List.length q3) : Int)) then
       R.L_laws_toEntryS_0 K n (q0, Go.IntKind.wrap Go.IntKind.i64 (q1 + 1), q2, List.set q3 (Int.toNat q1) (List.getD q0 (Int.toNat q1) ([], 0)), ())
      else
       none
     else
      none
    else
     some (Sum.inl (q2, q3, ()))

noncomputable def R.laws_toEntryS (K : Nat) (p0 : List ((List UInt8) × (Int))) : Option (((List ((List UInt8) × (Int))) × Unit) × Unit) :=
  bif Decidable.decide (0 ≤ (↑(List.length p0) : Int)) && Decidable.decide ((↑(List.length p0) : Int) ≤ (↑(List.length p0) : Int)) && Decidable.decide ((↑(List.length p0) : Int) ≤ (↑268435456 : Int)) then
   obind (R.L_laws_toEntryS_0 K K (p0, 0, [], List.replicate (Int.toNat (↑(List.length p0) : Int)) ([], 0), ())) fun v3 =>
    (match v3 with
    | .inl v4 =>
     some (((Prod.fst (Prod.snd v4), ()), ()))
    | .inr v4 =>
     none
    )
  else
   none

noncomputable def R.laws_toResult (K : Nat) (p0 : (Int) × ((Int) × ((Int) × ((List (List UInt8)) × (List ((List UInt8) × (Int))))))) : Option ((((Int) × ((Int) × ((Int) × ((List (List UInt8)) × (List ((List UInt8) × (Int))))))) × Unit) × Unit) :=
  obind (R.laws_toStringS K (Prod.fst (Prod.snd (Prod.snd (Prod.snd p0))))) fun v2 =>
   obind (R.laws_toEntryS K (Prod.snd (Prod.snd (Prod.snd (Prod.snd p0))))) fun v3 =>
    some ((((Prod.fst p0, Prod.fst (Prod.snd p0), Prod.fst (Prod.snd (Prod.snd p0)), Prod.fst (Prod.fst v2), Prod.fst (Prod.fst v3)), ()), ()))

noncomputable def R.L_spec_l01OK_0 (K : Nat) : Nat → ((List ((List UInt8) × (Int))) × ((Bool) × ((Int) × Unit))) → Option (((Bool) × Unit) ⊕ ((Bool) × Unit))
  | 0, _ => none
  | n + 1, (q0, (q1, (q2, ()))) =>
    bif Decidable.decide (q2 < (↑(List.length q0) : Int)) then
     bif Decidable.decide (0 ≤ q2) && Decidable.decide (q2 < (↑(List.length q0) : Int)) then
      obind (R.spec_l00Word K (Prod.fst (List.getD q0 (Int.toNat q2) ([], 0)))) fun v6 =>
       bif !Prod.fst (Prod.fst v6) then
        some (Sum.inr (Bool.false, ()))
       else
        bif Decidable.decide (0 ≤ q2) && Decidable.decide (q2 < (↑(List.length q0) : Int)) then
         obind (R.spec_l01In K (Prod.snd (List.getD q0 (Int.toNat q2) ([], 0))) (-1000000) 1000000) fun v9 =>
          bif !Prod.fst (Prod.fst v9) then
           some (Sum.inr (Bool.false, ()))
          else
           bif Decidable.decide (q2 > 0) then
            bif Decidable.decide (0 ≤ q2) && Decidable.decide (q2 < (↑(List.length q0) : Int)) then
             bif Decidable.decide (0 ≤ Go.IntKind.wrap Go.IntKind.i64 (q2 - 1)) && Decidable.decide (Go.IntKind.wrap Go.IntKind.i64 (q2 - 1) < (↑(List.length q0) : Int)) then
              bif Fw.sless (Prod.fst (List.getD q0 (Int.toNat q2) ([], 0))) (Prod.fst (List.getD q0 (Int.toNat (Go.IntKind.wrap Go.IntKind.i64 (q2 - 1))) ([], 0))) || Prod.fst (List.getD q0 (Int.toNat q2) ([], 0)) == Prod.fst (List.getD q0 (Int.toNat (Go.IntKind.wrap Go.IntKind.i64 (q2 - 1))) ([], 0)) then
               some (Sum.inr (Bool.false, ()))
              else
               R.L_spec_l01OK_0 K n (q0, q1, Go.IntKind.wrap Go.IntKind.i64 (q2 + 1), ())
             else
              none
            else
             none
           else
            R.L_spec_l01OK_0 K n (q0, q1, Go.IntKind.wrap Go.IntKind.i64 (q2 + 1), ())
        else
         none
     else
      none
    else
     some (Sum.inl (q1, ()))

noncomputable def R.spec_l01OK (K : Nat) (p0 : List ((List UInt8) × (Int))) : Option (((Bool) × Unit) × Unit) :=
  bif Decidable.decide ((↑(List.length p0) : Int) > 12) then
   some (((Bool.false, ()), ()))
  else
   obind (R.L_spec_l01OK_0 K K (p0, Bool.false, 0, ())) fun v3 =>
    (match v3 with
    | .inl v4 =>
     some (((Bool.true, ()), ()))
    | .inr v4 =>
     some (((Prod.fst v4, ()), ()))
    )

noncomputable def R.L_spec_l13OK_0 (K : Nat) : Nat → ((Bool) × ((Int) × ((Int) × ((Int) × ((Int) × ((List (List UInt8)) × ((List ((List UInt8) × (Int))) × Unit))))))) → Option (((Bool) × Unit) ⊕ ((Bool) × Unit))
  | 0, _ => none
  | n + 1, (q0, (q1, (q2, (q3, (q4, (q5, (q6, ()))))))) =>
    bif Decidable.decide (q1 < (↑(List.length q5) : Int)) then
     bif Decidable.decide (0 ≤ q1) && Decidable.decide (q1 < (↑(List.length q5) : Int)) then
      obind (R.spec_l00Word K (List.getD q5 (Int.toNat q1) [])) fun v6 =>
       bif !Prod.fst (Prod.fst v6) then
        some (Sum.inr (Bool.false, ()))
       else
        R.L_spec_l13OK_0 K n (q0, Go.IntKind.wrap Go.IntKind.i64 (q1 + 1), q2, q3, q4, q5, q6, ())
     else
      none
    else
     some (Sum.inl (q0, ()))

noncomputable def R.spec_l13OK (K : Nat) (p0 : (Int) × ((Int) × ((Int) × ((List (List UInt8)) × (List ((List UInt8) × (Int))))))) : Option (((Bool) × Unit) × Unit) :=
  obind (R.spec_l01In K (Prod.fst p0) 0 18) fun v2 =>
   bif !Prod.fst (Prod.fst v2) then
    some (((Bool.false, ()), ()))
   else
    obind (R.spec_l01In K (Prod.fst (Prod.snd p0)) 0 60) fun v4 =>
     bif !Prod.fst (Prod.fst v4) then
      some (((Bool.false, ()), ()))
     else
      obind (R.spec_l01In K (Prod.fst (Prod.snd (Prod.snd p0))) (-1000000) 1000000) fun v6 =>
       bif !Prod.fst (Prod.fst v6) then
        some (((Bool.false, ()), ()))
       else
        bif Decidable.decide ((↑(List.length (Prod.fst (Prod.snd (Prod.snd (Prod.snd p0))))) : Int) > 24) then
         some (((Bool.false, ()), ()))
        else
         obind (R.spec_l01OK K (Prod.snd (Prod.snd (Prod.snd (Prod.snd p0))))) fun v9 =>
          bif !Prod.fst (Prod.fst v9) then
           some (((Bool.false, ()), ()))
          else
           obind (R.L_spec_l13OK_0 K K (Bool.false, 0, Prod.fst p0, Prod.fst (Prod.snd p0), Prod.fst (Prod.snd (Prod.snd p0)), Prod.fst (Prod.snd (Prod.snd (Prod.snd p0))), Prod.snd (Prod.snd (Prod.snd (Prod.snd p0))), ())) fun v11 =>
            (match v11 with
            | .inl v12 =>
             some (((Bool.true, ()), ()))
            | .inr v12 =>
             some (((Prod.fst v12, ()), ()))
            )

noncomputable def R.spec_CodeWord (K : Nat) (p0 : Int) : Option (((List UInt8) × Unit) × Unit) :=
  bif Decidable.decide (p0 < 0) then
   some (((Array.toList (ByteArray.data (ByteArray.mk #[])), ()), ()))
  else
   bif Decidable.decide (p0 ≥ (↑(List.length [Array.toList (ByteArray.data (ByteArray.mk #[111, 107])), Array.toList (ByteArray.data (ByteArray.mk #[98, 97, 100])), Array.toList (ByteArray.data (ByteArray.mk #[108, 111, 110, 103])), Array.toList (ByteArray.data (ByteArray.mk #[102, 111, 114, 109])), Array.toList (ByteArray.data (ByteArray.mk #[114, 97, 110, 103, 101])), Array.toList (ByteArray.data (ByteArray.mk #[110, 111, 110, 101])), Array.toList (ByteArray.data (ByteArray.mk #[109, 97, 110, 121])), Array.toList (ByteArray.data (ByteArray.mk #[102, 117, 108, 108])), Array.toList (ByteArray.data (ByteArray.mk #[115, 105, 122, 101])), Array.toList (ByteArray.data (ByteArray.mk #[107, 105, 110, 100])), Array.toList (ByteArray.data (ByteArray.mk #[110, 97, 109, 101])), Array.toList (ByteArray.data (ByteArray.mk #[99, 111, 110, 102, 108, 105, 99, 116])), Array.toList (ByteArray.data (ByteArray.mk #[114, 101, 116, 114, 105, 101, 115])), Array.toList (ByteArray.data (ByteArray.mk #[115, 116, 97, 108, 101])), Array.toList (ByteArray.data (ByteArray.mk #[101, 120, 105, 115, 116, 115])), Array.toList (ByteArray.data (ByteArray.mk #[100, 111, 110, 101])), Array.toList (ByteArray.data (ByteArray.mk #[111, 114, 100, 101, 114])), Array.toList (ByteArray.data (ByteArray.mk #[108, 97, 103])), Array.toList (ByteArray.data (ByteArray.mk #[115, 97, 109, 101]))]) : Int)) then
    some (((Array.toList (ByteArray.data (ByteArray.mk #[])), ()), ()))
   else
    bif Decidable.decide (0 ≤ p0) && Decidable.decide (p0 < (↑(List.length [Array.toList (ByteArray.data (ByteArray.mk #[111, 107])), Array.toList (ByteArray.data (ByteArray.mk #[98, 97, 100])), Array.toList (ByteArray.data (ByteArray.mk #[108, 111, 110, 103])), Array.toList (ByteArray.data (ByteArray.mk #[102, 111, 114, 109])), Array.toList (ByteArray.data (ByteArray.mk #[114, 97, 110, 103, 101])), Array.toList (ByteArray.data (ByteArray.mk #[110, 111, 110, 101])), Array.toList (ByteArray.data (ByteArray.mk #[109, 97, 110, 121])), Array.toList (ByteArray.data (ByteArray.mk #[102, 117, 108, 108])), Array.toList (ByteArray.data (ByteArray.mk #[115, 105, 122, 101])), Array.toList (ByteArray.data (ByteArray.mk #[107, 105, 110, 100])), Array.toList (ByteArray.data (ByteArray.mk #[110, 97, 109, 101])), Array.toList (ByteArray.data (ByteArray.mk #[99, 111, 110, 102, 108, 105, 99, 116])), Array.toList (ByteArray.data (ByteArray.mk #[114, 101, 116, 114, 105, 101, 115])), Array.toList (ByteArray.data (ByteArray.mk #[115, 116, 97, 108, 101])), Array.toList (ByteArray.data (ByteArray.mk #[101, 120, 105, 115, 116, 115])), Array.toList (ByteArray.data (ByteArray.mk #[100, 111, 110, 101])), Array.toList (ByteArray.data (ByteArray.mk #[111, 114, 100, 101, 114])), Array.toList (ByteArray.data (ByteArray.mk #[108, 97, 103])), Array.toList (ByteArray.data (ByteArray.mk #[115, 97, 109, 101]))]) : Int)) then
     some (((List.getD [Array.toList (ByteArray.data (ByteArray.mk #[111, 107])), Array.toList (ByteArray.data (ByteArray.mk #[98, 97, 100])), Array.toList (ByteArray.data (ByteArray.mk #[108, 111, 110, 103])), Array.toList (ByteArray.data (ByteArray.mk #[102, 111, 114, 109])), Array.toList (ByteArray.data (ByteArray.mk #[114, 97, 110, 103, 101])), Array.toList (ByteArray.data (ByteArray.mk #[110, 111, 110, 101])), Array.toList (ByteArray.data (ByteArray.mk #[109, 97, 110, 121])), Array.toList (ByteArray.data (ByteArray.mk #[102, 117, 108, 108])), Array.toList (ByteArray.data (ByteArray.mk #[115, 105, 122, 101])), Array.toList (ByteArray.data (ByteArray.mk #[107, 105, 110, 100])), Array.toList (ByteArray.data (ByteArray.mk #[110, 97, 109, 101])), Array.toList (ByteArray.data (ByteArray.mk #[99, 111, 110, 102, 108, 105, 99, 116])), Array.toList (ByteArray.data (ByteArray.mk #[114, 101, 116, 114, 105, 101, 115])), Array.toList (ByteArray.data (ByteArray.mk #[115, 116, 97, 108, 101])), Array.toList (ByteArray.data (ByteArray.mk #[101, 120, 105, 115, 116, 115])), Array.toList (ByteArray.data (ByteArray.mk #[100, 111, 110, 101])), Array.toList (ByteArray.data (ByteArray.mk #[111, 114, 100, 101, 114])), Array.toList (ByteArray.data (ByteArray.mk #[108, 97, 103])), Array.toList (ByteArray.data (ByteArray.mk #[115, 97, 109, 101]))] (Int.toNat p0) [], ()), ()))
    else
     none

noncomputable def R.L_spec_l00Join_0 (K : Nat) : Nat → ((List (List UInt8)) × ((List UInt8) × ((List UInt8) × ((List UInt8) × ((Int) × Unit))))) → Option (((List UInt8) × ((List UInt8) × Unit)) ⊕ Unit)
  | 0, _ => none
  | n + 1, (q0, (q1, (q2, (q3, (q4, ()))))) =>
    bif Decidable.decide (q4 < (↑(List.length q0) : Int)) then
     bif Decidable.decide (q4 > 0) then
      bif Nat.ble (List.length q3 + List.length q1) 268435456 then
       bif Decidable.decide (0 ≤ q4) && Decidable.decide (q4 < (↑(List.length q0) : Int)) then
        bif Nat.ble (List.length (q3 ++ q1) + List.length (List.getD q0 (Int.toNat q4) [])) 268435456 then
         R.L_spec_l00Join_0 K n (q0, q1, q2, q3 ++ q1 ++ List.getD q0 (Int.toNat q4) [], Go.IntKind.wrap Go.IntKind.i64 (q4 + 1), ())
        else
         none
       else
        none
      else
       none
     else
      bif Decidable.decide (0 ≤ q4) && Decidable.decide (q4 < (↑(List.length q0) : Int)) then
       bif Nat.ble (List.length q3 + List.length (List.getD q0 (Int.toNat q4) [])) 268435456 then
        R.L_spec_l00Join_0 K n (q0, q1, q2, q3 ++ List.getD q0 (Int.toNat q4) [], Go.IntKind.wrap Go.IntKind.i64 (q4 + 1), ())
       else
        none
      else
       none
    else
     some (Sum.inl (q2, q3, ()))

noncomputable def R.spec_l00Join (K : Nat) (p0 : List (List UInt8)) (p1 : List UInt8) : Option (((List UInt8) × Unit) × Unit) :=
  obind (R.L_spec_l00Join_0 K K (p0, p1, Array.toList (ByteArray.data (ByteArray.mk #[])), Array.toList (ByteArray.data (ByteArray.mk #[])), 0, ())) fun v2 =>
   (match v2 with
   | .inl v3 =>
    some (((Prod.fst (Prod.snd v3), ()), ()))
   | .inr v3 =>
    none
   )

noncomputable def R.L_spec_l13Map_0 (K : Nat) : Nat → ((List ((List UInt8) × (Int))) × ((List UInt8) × ((List UInt8) × ((Int) × Unit)))) → Option (((List UInt8) × ((List UInt8) × Unit)) ⊕ Unit)
  | 0, _ => none
  | n + 1, (q0, (q1, (q2, (q3, ())))) =>
    bif Decidable.decide (q3 < (↑(List.length q0) : Int)) then
     bif Decidable.decide (q3 > 0) then
      bif Nat.ble (List.length q2 + List.length (Array.toList (ByteArray.data (ByteArray.mk #[44])))) 268435456 then
       bif Decidable.decide (0 ≤ q3) && Decidable.decide (q3 < (↑(List.length q0) : Int)) then
        bif Nat.ble (List.length (Prod.fst (List.getD q0 (Int.toNat q3) ([], 0))) + List.length (Array.toList (ByteArray.data (ByteArray.mk #[61])))) 268435456 then
         bif Decidable.decide (0 ≤ q3) && Decidable.decide (q3 < (↑(List.length q0) : Int)) then
          obind (R.spec_l00Digits K K (Prod.snd (List.getD q0 (Int.toNat q3) ([], 0)))) fun v10 =>
           bif Nat.ble (List.length (Prod.fst (List.getD q0 (Int.toNat q3) ([], 0)) ++ Array.toList (ByteArray.data (ByteArray.mk #[61]))) + List.length (Prod.fst (Prod.fst v10))) 268435456 then
            bif Nat.ble (List.length (q2 ++ Array.toList (ByteArray.data (ByteArray.mk #[44]))) + List.length (Prod.fst (List.getD q0 (Int.toNat q3) ([], 0)) ++ Array.toList (ByteArray.data (ByteArray.mk #[61])) ++ Prod.fst (Prod.fst v10))) 268435456 then
             R.L_spec_l13Map_0 K n (q0, q1, q2 ++ Array.toList (ByteArray.data (ByteArray.mk #[44])) ++ (Prod.fst (List.getD q0 (Int.toNat q3) ([], 0)) ++ Array.toList (ByteArray.data (ByteArray.mk #[61])) ++ Prod.fst (Prod.fst v10)), Go.IntKind.wrap Go.IntKind.i64 (q3 + 1), ())
            else
             none
           else
            none
         else
          none
        else
         none
       else
        none
      else
       none
     else
      bif Decidable.decide (0 ≤ q3) && Decidable.decide (q3 < (↑(List.length q0) : Int)) then
       bif Nat.ble (List.length (Prod.fst (List.getD q0 (Int.toNat q3) ([], 0))) + List.length (Array.toList (ByteArray.data (ByteArray.mk #[61])))) 268435456 then
        bif Decidable.decide (0 ≤ q3) && Decidable.decide (q3 < (↑(List.length q0) : Int)) then
         obind (R.spec_l00Digits K K (Prod.snd (List.getD q0 (Int.toNat q3) ([], 0)))) fun v9 =>
          bif Nat.ble (List.length (Prod.fst (List.getD q0 (Int.toNat q3) ([], 0)) ++ Array.toList (ByteArray.data (ByteArray.mk #[61]))) + List.length (Prod.fst (Prod.fst v9))) 268435456 then
           bif Nat.ble (List.length q2 + List.length (Prod.fst (List.getD q0 (Int.toNat q3) ([], 0)) ++ Array.toList (ByteArray.data (ByteArray.mk #[61])) ++ Prod.fst (Prod.fst v9))) 268435456 then
            R.L_spec_l13Map_0 K n (q0, q1, q2 ++ (Prod.fst (List.getD q0 (Int.toNat q3) ([], 0)) ++ Array.toList (ByteArray.data (ByteArray.mk #[61])) ++ Prod.fst (Prod.fst v9)), Go.IntKind.wrap Go.IntKind.i64 (q3 + 1), ())
           else
            none
          else
           none
        else
         none
       else
        none
      else
       none
    else
     some (Sum.inl (q1, q2, ()))

noncomputable def R.spec_l13Map (K : Nat) (p0 : List ((List UInt8) × (Int))) : Option (((List UInt8) × Unit) × Unit) :=
  bif (↑(List.length p0) : Int) == 0 then
   some (((Array.toList (ByteArray.data (ByteArray.mk #[45])), ()), ()))
  else
   obind (R.L_spec_l13Map_0 K K (p0, Array.toList (ByteArray.data (ByteArray.mk #[])), Array.toList (ByteArray.data (ByteArray.mk #[])), 0, ())) fun v3 =>
    (match v3 with
    | .inl v4 =>
     some (((Prod.fst (Prod.snd v4), ()), ()))
    | .inr v4 =>
     none
    )

noncomputable def R.spec_l13Result (K : Nat) (p0 : (Int) × ((Int) × ((Int) × ((List (List UInt8)) × (List ((List UInt8) × (Int))))))) : Option (((List UInt8) × Unit) × Unit) :=
  obind (R.spec_CodeWord K (Prod.fst p0)) fun v2 =>
   bif Decidable.decide (Prod.fst (Prod.snd p0) > 0) then
    obind (R.spec_l00Digits K K (Prod.fst (Prod.snd p0))) fun v4 =>
     bif Nat.ble (List.length (Array.toList (ByteArray.data (ByteArray.mk #[32, 99, 111, 109, 109, 105, 116, 32]))) + List.length (Prod.fst (Prod.fst v4))) 268435456 then
      bif Nat.ble (List.length (Prod.fst (Prod.fst v2)) + List.length (Array.toList (ByteArray.data (ByteArray.mk #[32, 99, 111, 109, 109, 105, 116, 32])) ++ Prod.fst (Prod.fst v4))) 268435456 then
       bif Prod.fst (Prod.snd (Prod.snd p0)) != 0 then
        obind (R.spec_l00Digits K K (Prod.fst (Prod.snd (Prod.snd p0)))) fun v8 =>
         bif Nat.ble (List.length (Array.toList (ByteArray.data (ByteArray.mk #[32, 118, 97, 108, 117, 101, 32]))) + List.length (Prod.fst (Prod.fst v8))) 268435456 then
          bif Nat.ble (List.length (Prod.fst (Prod.fst v2) ++ (Array.toList (ByteArray.data (ByteArray.mk #[32, 99, 111, 109, 109, 105, 116, 32])) ++ Prod.fst (Prod.fst v4))) + List.length (Array.toList (ByteArray.data (ByteArray.mk #[32, 118, 97, 108, 117, 101, 32])) ++ Prod.fst (Prod.fst v8))) 268435456 then
           bif Decidable.decide ((↑(List.length (Prod.fst (Prod.snd (Prod.snd (Prod.snd p0))))) : Int) > 0) then
            obind (R.spec_l00Join K (Prod.fst (Prod.snd (Prod.snd (Prod.snd p0)))) (Array.toList (ByteArray.data (ByteArray.mk #[44])))) fun v12 =>
             bif Nat.ble (List.length (Array.toList (ByteArray.data (ByteArray.mk #[32, 107, 101, 121, 115, 32]))) + List.length (Prod.fst (Prod.fst v12))) 268435456 then
              bif Nat.ble (List.length (Prod.fst (Prod.fst v2) ++ (Array.toList (ByteArray.data (ByteArray.mk #[32, 99, 111, 109, 109, 105, 116, 32])) ++ Prod.fst (Prod.fst v4)) ++ (Array.toList (ByteArray.data (ByteArray.mk #[32, 118, 97, 108, 117, 101, 32])) ++ Prod.fst (Prod.fst v8))) + List.length (Array.toList (ByteArray.data (ByteArray.mk #[32, 107, 101, 121, 115, 32])) ++ Prod.fst (Prod.fst v12))) 268435456 then
               bif Decidable.decide ((↑(List.length (Prod.snd (Prod.snd (Prod.snd (Prod.snd p0))))) : Int) > 0) then
                obind (R.spec_l13Map K (Prod.snd (Prod.snd (Prod.snd (Prod.snd p0))))) fun v16 =>
                 bif Nat.ble (List.length (Array.toList (ByteArray.data (ByteArray.mk #[32, 109, 97, 112, 32]))) + List.length (Prod.fst (Prod.fst v16))) 268435456 then
                  bif Nat.ble (List.length (Prod.fst (Prod.fst v2) ++ (Array.toList (ByteArray.data (ByteArray.mk #[32, 99, 111, 109, 109, 105, 116, 32])) ++ Prod.fst (Prod.fst v4)) ++ (Array.toList (ByteArray.data (ByteArray.mk #[32, 118, 97, 108, 117, 101, 32])) ++ Prod.fst (Prod.fst v8)) ++ (Array.toList (ByteArray.data (ByteArray.mk #[32, 107, 101, 121, 115, 32])) ++ Prod.fst (Prod.fst v12))) + List.length (Array.toList (ByteArray.data (ByteArray.mk #[32, 109, 97, 112, 32])) ++ Prod.fst (Prod.fst v16))) 268435456 then
                   some (((Prod.fst (Prod.fst v2) ++ (Array.toList (ByteArray.data (ByteArray.mk #[32, 99, 111, 109, 109, 105, 116, 32])) ++ Prod.fst (Prod.fst v4)) ++ (Array.toList (ByteArray.data (ByteArray.mk #[32, 118, 97, 108, 117, 101, 32])) ++ Prod.fst (Prod.fst v8)) ++ (Array.toList (ByteArray.data (ByteArray.mk #[32, 107, 101, 121, 115, 32])) ++ Prod.fst (Prod.fst v12)) ++ (Array.toList (ByteArray.data (ByteArray.mk #[32, 109, 97, 112, 32])) ++ Prod.fst (Prod.fst v16)), ()), ()))
                  else
                   none
                 else
                  none
               else
                some (((Prod.fst (Prod.fst v2) ++ (Array.toList (ByteArray.data (ByteArray.mk #[32, 99, 111, 109, 109, 105, 116, 32])) ++ Prod.fst (Prod.fst v4)) ++ (Array.toList (ByteArray.data (ByteArray.mk #[32, 118, 97, 108, 117, 101, 32])) ++ Prod.fst (Prod.fst v8)) ++ (Array.toList (ByteArray.data (ByteArray.mk #[32, 107, 101, 121, 115, 32])) ++ Prod.fst (Prod.fst v12)), ()), ()))
              else
               none
             else
              none
           else
            bif Decidable.decide ((↑(List.length (Prod.snd (Prod.snd (Prod.snd (Prod.snd p0))))) : Int) > 0) then
             obind (R.spec_l13Map K (Prod.snd (Prod.snd (Prod.snd (Prod.snd p0))))) fun v13 =>
              bif Nat.ble (List.length (Array.toList (ByteArray.data (ByteArray.mk #[32, 109, 97, 112, 32]))) + List.length (Prod.fst (Prod.fst v13))) 268435456 then
               bif Nat.ble (List.length (Prod.fst (Prod.fst v2) ++ (Array.toList (ByteArray.data (ByteArray.mk #[32, 99, 111, 109, 109, 105, 116, 32])) ++ Prod.fst (Prod.fst v4)) ++ (Array.toList (ByteArray.data (ByteArray.mk #[32, 118, 97, 108, 117, 101, 32])) ++ Prod.fst (Prod.fst v8))) + List.length (Array.toList (ByteArray.data (ByteArray.mk #[32, 109, 97, 112, 32])) ++ Prod.fst (Prod.fst v13))) 268435456 then
                some (((Prod.fst (Prod.fst v2) ++ (Array.toList (ByteArray.data (ByteArray.mk #[32, 99, 111, 109, 109, 105, 116, 32])) ++ Prod.fst (Prod.fst v4)) ++ (Array.toList (ByteArray.data (ByteArray.mk #[32, 118, 97, 108, 117, 101, 32])) ++ Prod.fst (Prod.fst v8)) ++ (Array.toList (ByteArray.data (ByteArray.mk #[32, 109, 97, 112, 32])) ++ Prod.fst (Prod.fst v13)), ()), ()))
               else
                none
              else
               none
            else
             some (((Prod.fst (Prod.fst v2) ++ (Array.toList (ByteArray.data (ByteArray.mk #[32, 99, 111, 109, 109, 105, 116, 32])) ++ Prod.fst (Prod.fst v4)) ++ (Array.toList (ByteArray.data (ByteArray.mk #[32, 118, 97, 108, 117, 101, 32])) ++ Prod.fst (Prod.fst v8)), ()), ()))
          else
           none
         else
          none
       else
        bif Decidable.decide ((↑(List.length (Prod.fst (Prod.snd (Prod.snd (Prod.snd p0))))) : Int) > 0) then
         obind (R.spec_l00Join K (Prod.fst (Prod.snd (Prod.snd (Prod.snd p0)))) (Array.toList (ByteArray.data (ByteArray.mk #[44])))) fun v9 =>
          bif Nat.ble (List.length (Array.toList (ByteArray.data (ByteArray.mk #[32, 107, 101, 121, 115, 32]))) + List.length (Prod.fst (Prod.fst v9))) 268435456 then
           bif Nat.ble (List.length (Prod.fst (Prod.fst v2) ++ (Array.toList (ByteArray.data (ByteArray.mk #[32, 99, 111, 109, 109, 105, 116, 32])) ++ Prod.fst (Prod.fst v4))) + List.length (Array.toList (ByteArray.data (ByteArray.mk #[32, 107, 101, 121, 115, 32])) ++ Prod.fst (Prod.fst v9))) 268435456 then
            bif Decidable.decide ((↑(List.length (Prod.snd (Prod.snd (Prod.snd (Prod.snd p0))))) : Int) > 0) then
             obind (R.spec_l13Map K (Prod.snd (Prod.snd (Prod.snd (Prod.snd p0))))) fun v13 =>
              bif Nat.ble (List.length (Array.toList (ByteArray.data (ByteArray.mk #[32, 109, 97, 112, 32]))) + List.length (Prod.fst (Prod.fst v13))) 268435456 then
               bif Nat.ble (List.length (Prod.fst (Prod.fst v2) ++ (Array.toList (ByteArray.data (ByteArray.mk #[32, 99, 111, 109, 109, 105, 116, 32])) ++ Prod.fst (Prod.fst v4)) ++ (Array.toList (ByteArray.data (ByteArray.mk #[32, 107, 101, 121, 115, 32])) ++ Prod.fst (Prod.fst v9))) + List.length (Array.toList (ByteArray.data (ByteArray.mk #[32, 109, 97, 112, 32])) ++ Prod.fst (Prod.fst v13))) 268435456 then
                some (((Prod.fst (Prod.fst v2) ++ (Array.toList (ByteArray.data (ByteArray.mk #[32, 99, 111, 109, 109, 105, 116, 32])) ++ Prod.fst (Prod.fst v4)) ++ (Array.toList (ByteArray.data (ByteArray.mk #[32, 107, 101, 121, 115, 32])) ++ Prod.fst (Prod.fst v9)) ++ (Array.toList (ByteArray.data (ByteArray.mk #[32, 109, 97, 112, 32])) ++ Prod.fst (Prod.fst v13)), ()), ()))
               else
                none
              else
               none
            else
             some (((Prod.fst (Prod.fst v2) ++ (Array.toList (ByteArray.data (ByteArray.mk #[32, 99, 111, 109, 109, 105, 116, 32])) ++ Prod.fst (Prod.fst v4)) ++ (Array.toList (ByteArray.data (ByteArray.mk #[32, 107, 101, 121, 115, 32])) ++ Prod.fst (Prod.fst v9)), ()), ()))
           else
            none
          else
           none
        else
         bif Decidable.decide ((↑(List.length (Prod.snd (Prod.snd (Prod.snd (Prod.snd p0))))) : Int) > 0) then
          obind (R.spec_l13Map K (Prod.snd (Prod.snd (Prod.snd (Prod.snd p0))))) fun v10 =>
           bif Nat.ble (List.length (Array.toList (ByteArray.data (ByteArray.mk #[32, 109, 97, 112, 32]))) + List.length (Prod.fst (Prod.fst v10))) 268435456 then
            bif Nat.ble (List.length (Prod.fst (Prod.fst v2) ++ (Array.toList (ByteArray.data (ByteArray.mk #[32, 99, 111, 109, 109, 105, 116, 32])) ++ Prod.fst (Prod.fst v4))) + List.length (Array.toList (ByteArray.data (ByteArray.mk #[32, 109, 97, 112, 32])) ++ Prod.fst (Prod.fst v10))) 268435456 then
             some (((Prod.fst (Prod.fst v2) ++ (Array.toList (ByteArray.data (ByteArray.mk #[32, 99, 111, 109, 109, 105, 116, 32])) ++ Prod.fst (Prod.fst v4)) ++ (Array.toList (ByteArray.data (ByteArray.mk #[32, 109, 97, 112, 32])) ++ Prod.fst (Prod.fst v10)), ()), ()))
            else
             none
           else
            none
         else
          some (((Prod.fst (Prod.fst v2) ++ (Array.toList (ByteArray.data (ByteArray.mk #[32, 99, 111, 109, 109, 105, 116, 32])) ++ Prod.fst (Prod.fst v4)), ()), ()))
      else
       none
     else
      none
   else
    bif Prod.fst (Prod.snd (Prod.snd p0)) != 0 then
     obind (R.spec_l00Digits K K (Prod.fst (Prod.snd (Prod.snd p0)))) fun v5 =>
      bif Nat.ble (List.length (Array.toList (ByteArray.data (ByteArray.mk #[32, 118, 97, 108, 117, 101, 32]))) + List.length (Prod.fst (Prod.fst v5))) 268435456 then
       bif Nat.ble (List.length (Prod.fst (Prod.fst v2)) + List.length (Array.toList (ByteArray.data (ByteArray.mk #[32, 118, 97, 108, 117, 101, 32])) ++ Prod.fst (Prod.fst v5))) 268435456 then
        bif Decidable.decide ((↑(List.length (Prod.fst (Prod.snd (Prod.snd (Prod.snd p0))))) : Int) > 0) then
         obind (R.spec_l00Join K (Prod.fst (Prod.snd (Prod.snd (Prod.snd p0)))) (Array.toList (ByteArray.data (ByteArray.mk #[44])))) fun v9 =>
          bif Nat.ble (List.length (Array.toList (ByteArray.data (ByteArray.mk #[32, 107, 101, 121, 115, 32]))) + List.length (Prod.fst (Prod.fst v9))) 268435456 then
           bif Nat.ble (List.length (Prod.fst (Prod.fst v2) ++ (Array.toList (ByteArray.data (ByteArray.mk #[32, 118, 97, 108, 117, 101, 32])) ++ Prod.fst (Prod.fst v5))) + List.length (Array.toList (ByteArray.data (ByteArray.mk #[32, 107, 101, 121, 115, 32])) ++ Prod.fst (Prod.fst v9))) 268435456 then
            bif Decidable.decide ((↑(List.length (Prod.snd (Prod.snd (Prod.snd (Prod.snd p0))))) : Int) > 0) then
             obind (R.spec_l13Map K (Prod.snd (Prod.snd (Prod.snd (Prod.snd p0))))) fun v13 =>
              bif Nat.ble (List.length (Array.toList (ByteArray.data (ByteArray.mk #[32, 109, 97, 112, 32]))) + List.length (Prod.fst (Prod.fst v13))) 268435456 then
               bif Nat.ble (List.length (Prod.fst (Prod.fst v2) ++ (Array.toList (ByteArray.data (ByteArray.mk #[32, 118, 97, 108, 117, 101, 32])) ++ Prod.fst (Prod.fst v5)) ++ (Array.toList (ByteArray.data (ByteArray.mk #[32, 107, 101, 121, 115, 32])) ++ Prod.fst (Prod.fst v9))) + List.length (Array.toList (ByteArray.data (ByteArray.mk #[32, 109, 97, 112, 32])) ++ Prod.fst (Prod.fst v13))) 268435456 then
                some (((Prod.fst (Prod.fst v2) ++ (Array.toList (ByteArray.data (ByteArray.mk #[32, 118, 97, 108, 117, 101, 32])) ++ Prod.fst (Prod.fst v5)) ++ (Array.toList (ByteArray.data (ByteArray.mk #[32, 107, 101, 121, 115, 32])) ++ Prod.fst (Prod.fst v9)) ++ (Array.toList (ByteArray.data (ByteArray.mk #[32, 109, 97, 112, 32])) ++ Prod.fst (Prod.fst v13)), ()), ()))
               else
                none
              else
               none
            else
             some (((Prod.fst (Prod.fst v2) ++ (Array.toList (ByteArray.data (ByteArray.mk #[32, 118, 97, 108, 117, 101, 32])) ++ Prod.fst (Prod.fst v5)) ++ (Array.toList (ByteArray.data (ByteArray.mk #[32, 107, 101, 121, 115, 32])) ++ Prod.fst (Prod.fst v9)), ()), ()))
           else
            none
          else
           none
        else
         bif Decidable.decide ((↑(List.length (Prod.snd (Prod.snd (Prod.snd (Prod.snd p0))))) : Int) > 0) then
          obind (R.spec_l13Map K (Prod.snd (Prod.snd (Prod.snd (Prod.snd p0))))) fun v10 =>
           bif Nat.ble (List.length (Array.toList (ByteArray.data (ByteArray.mk #[32, 109, 97, 112, 32]))) + List.length (Prod.fst (Prod.fst v10))) 268435456 then
            bif Nat.ble (List.length (Prod.fst (Prod.fst v2) ++ (Array.toList (ByteArray.data (ByteArray.mk #[32, 118, 97, 108, 117, 101, 32])) ++ Prod.fst (Prod.fst v5))) + List.length (Array.toList (ByteArray.data (ByteArray.mk #[32, 109, 97, 112, 32])) ++ Prod.fst (Prod.fst v10))) 268435456 then
             some (((Prod.fst (Prod.fst v2) ++ (Array.toList (ByteArray.data (ByteArray.mk #[32, 118, 97, 108, 117, 101, 32])) ++ Prod.fst (Prod.fst v5)) ++ (Array.toList (ByteArray.data (ByteArray.mk #[32, 109, 97, 112, 32])) ++ Prod.fst (Prod.fst v10)), ()), ()))
            else
             none
           else
            none
         else
          some (((Prod.fst (Prod.fst v2) ++ (Array.toList (ByteArray.data (ByteArray.mk #[32, 118, 97, 108, 117, 101, 32])) ++ Prod.fst (Prod.fst v5)), ()), ()))
       else
        none
      else
       none
    else
     bif Decidable.decide ((↑(List.length (Prod.fst (Prod.snd (Prod.snd (Prod.snd p0))))) : Int) > 0) then
      obind (R.spec_l00Join K (Prod.fst (Prod.snd (Prod.snd (Prod.snd p0)))) (Array.toList (ByteArray.data (ByteArray.mk #[44])))) fun v6 =>
       bif Nat.ble (List.length (Array.toList (ByteArray.data (ByteArray.mk #[32, 107, 101, 121, 115, 32]))) + List.length (Prod.fst (Prod.fst v6))) 268435456 then
        bif Nat.ble (List.length (Prod.fst (Prod.fst v2)) + List.length (Array.toList (ByteArray.data (ByteArray.mk #[32, 107, 101, 121, 115, 32])) ++ Prod.fst (Prod.fst v6))) 268435456 then
         bif Decidable.decide ((↑(List.length (Prod.snd (Prod.snd (Prod.snd (Prod.snd p0))))) : Int) > 0) then
          obind (R.spec_l13Map K (Prod.snd (Prod.snd (Prod.snd (Prod.snd p0))))) fun v10 =>
           bif Nat.ble (List.length (Array.toList (ByteArray.data (ByteArray.mk #[32, 109, 97, 112, 32]))) + List.length (Prod.fst (Prod.fst v10))) 268435456 then
            bif Nat.ble (List.length (Prod.fst (Prod.fst v2) ++ (Array.toList (ByteArray.data (ByteArray.mk #[32, 107, 101, 121, 115, 32])) ++ Prod.fst (Prod.fst v6))) + List.length (Array.toList (ByteArray.data (ByteArray.mk #[32, 109, 97, 112, 32])) ++ Prod.fst (Prod.fst v10))) 268435456 then
             some (((Prod.fst (Prod.fst v2) ++ (Array.toList (ByteArray.data (ByteArray.mk #[32, 107, 101, 121, 115, 32])) ++ Prod.fst (Prod.fst v6)) ++ (Array.toList (ByteArray.data (ByteArray.mk #[32, 109, 97, 112, 32])) ++ Prod.fst (Prod.fst v10)), ()), ()))
            else
             none
           else
            none
         else
          some (((Prod.fst (Prod.fst v2) ++ (Array.toList (ByteArray.data (ByteArray.mk #[32, 107, 101, 121, 115, 32])) ++ Prod.fst (Prod.fst v6)), ()), ()))
        else
         none
       else
        none
     else
      bif Decidable.decide ((↑(List.length (Prod.snd (Prod.snd (Prod.snd (Prod.snd p0))))) : Int) > 0) then
       obind (R.spec_l13Map K (Prod.snd (Prod.snd (Prod.snd (Prod.snd p0))))) fun v7 =>
        bif Nat.ble (List.length (Array.toList (ByteArray.data (ByteArray.mk #[32, 109, 97, 112, 32]))) + List.length (Prod.fst (Prod.fst v7))) 268435456 then
         bif Nat.ble (List.length (Prod.fst (Prod.fst v2)) + List.length (Array.toList (ByteArray.data (ByteArray.mk #[32, 109, 97, 112, 32])) ++ Prod.fst (Prod.fst v7))) 268435456 then
          some (((Prod.fst (Prod.fst v2) ++ (Array.toList (ByteArray.data (ByteArray.mk #[32, 109, 97, 112, 32])) ++ Prod.fst (Prod.fst v7)), ()), ()))
         else
          none
        else
         none
      else
       some (((Prod.fst (Prod.fst v2), ()), ()))

noncomputable def R.spec_ResultText (K : Nat) (p0 : (Int) × ((Int) × ((Int) × ((List (List UInt8)) × (List ((List UInt8) × (Int))))))) : Option (((List UInt8) × ((Int) × Unit)) × Unit) :=
  obind (R.spec_l13OK K p0) fun v2 =>
   bif !Prod.fst (Prod.fst v2) then
    some (((Array.toList (ByteArray.data (ByteArray.mk #[])), 1, ()), ()))
   else
    obind (R.spec_l13Result K p0) fun v4 =>
     some (((Prod.fst (Prod.fst v4), 0, ()), ()))

noncomputable def R.impl_isCode (K : Nat) (p0 : Int) : Option (((Bool) × Unit) × Unit) :=
  obind (R.impl_within K p0 0 18) fun v2 =>
   some (((Prod.fst (Prod.fst v2), ()), ()))

noncomputable def R.L_impl_MapOK_0 (K : Nat) : Nat → ((List ((List UInt8) × (Int))) × ((Bool) × ((List ((List UInt8) × (Int))) × ((Int) × ((Int) × Unit))))) → Option (((List ((List UInt8) × (Int))) × ((Bool) × Unit)) ⊕ ((Bool) × Unit))
  | 0, _ => none
  | n + 1, (q0, (q1, (q2, (q3, (q4, ()))))) =>
    bif Decidable.decide (q4 < q3) then
     bif Decidable.decide (0 ≤ q4) && Decidable.decide (q4 < (↑(List.length q2) : Int)) then
      obind (R.impl_NameOK K (Prod.fst (List.getD q2 (Int.toNat q4) ([], 0)))) fun v6 =>
       bif !Prod.fst (Prod.fst v6) then
        some (Sum.inr (Bool.false, ()))
       else
        obind (R.impl_isValue K (Prod.snd (List.getD q2 (Int.toNat q4) ([], 0)))) fun v8 =>
         bif !Prod.fst (Prod.fst v8) then
          some (Sum.inr (Bool.false, ()))
         else
          bif Decidable.decide (q4 > 0) then
           bif Decidable.decide (0 ≤ Go.IntKind.wrap Go.IntKind.i64 (q4 - 1)) && Decidable.decide (Go.IntKind.wrap Go.IntKind.i64 (q4 - 1) < (↑(List.length q0) : Int)) then
            bif !Fw.sless (Prod.fst (List.getD q0 (Int.toNat (Go.IntKind.wrap Go.IntKind.i64 (q4 - 1))) ([], 0))) (Prod.fst (List.getD q2 (Int.toNat q4) ([], 0))) then
             some (Sum.inr (Bool.false, ()))
            else
             R.L_impl_MapOK_0 K n (q0, q1, q2, q3, Go.IntKind.wrap Go.IntKind.i64 (q4 + 1), ())
           else
            none
          else
           R.L_impl_MapOK_0 K n (q0, q1, q2, q3, Go.IntKind.wrap Go.IntKind.i64 (q4 + 1), ())
     else
      none
    else
     some (Sum.inl (q0, q1, ()))

noncomputable def R.impl_MapOK (K : Nat) (p0 : List ((List UInt8) × (Int))) : Option (((Bool) × Unit) × Unit) :=
  obind (R.L_impl_MapOK_0 K K (p0, Bool.false, p0, (↑(List.length p0) : Int), 0, ())) fun v2 =>
   (match v2 with
   | .inl v3 =>
    some (((Decidable.decide ((↑(List.length (Prod.fst v3)) : Int) ≤ 12), ()), ()))
   | .inr v3 =>
    some (((Prod.fst v3, ()), ()))
   )

noncomputable def R.impl_isResult (K : Nat) (p0 : (Int) × ((Int) × ((Int) × ((List (List UInt8)) × (List ((List UInt8) × (Int))))))) (p1 : Int) : Option (((Bool) × Unit) × Unit) :=
  obind (R.impl_isCode K (Prod.fst p0)) fun v2 =>
   bif Prod.fst (Prod.fst v2) then
    obind (R.impl_within K (Prod.fst (Prod.snd p0)) 0 p1) fun v4 =>
     bif Prod.fst (Prod.fst v4) then
      obind (R.impl_isValue K (Prod.fst (Prod.snd (Prod.snd p0)))) fun v6 =>
       bif Prod.fst (Prod.fst v6) then
        bif Decidable.decide ((↑(List.length (Prod.fst (Prod.snd (Prod.snd (Prod.snd p0))))) : Int) ≤ 24) then
         obind (R.impl_MapOK K (Prod.snd (Prod.snd (Prod.snd (Prod.snd p0))))) fun v9 =>
          some (((Prod.fst (Prod.fst v9), ()), ()))
        else
         some (((Bool.false, ()), ()))
       else
        some (((Bool.false, ()), ()))
     else
      some (((Bool.false, ()), ()))
   else
    some (((Bool.false, ()), ()))

noncomputable def R.L_impl_areAll_string__impl_NameOK_0 (K : Nat) : Nat → ((List (List UInt8)) × ((Bool) × ((List (List UInt8)) × ((List (List UInt8)) × ((Bool) × ((List (List UInt8)) × ((List (List UInt8)) × ((Int) × ((Int) × ((Int) × Unit)))))))))) → Option (((List (List UInt8)) × ((Bool) × ((List (List UInt8)) × ((List (List UInt8)) × ((Bool) × ((List (List UInt8)) × ((Int) × Unit))))))) ⊕ ((List (List UInt8)) × ((Bool) × ((List (List UInt8)) × ((List (List UInt8)) × ((Bool) × ((List (List UInt8)) × ((Int) × Unit))))))))
  | 0, _ => none
  | n + 1, (q0, (q1, (q2, (q3, (q4, (q5, (q6, (q7, (q8, (q9, ())))))))))) =>
    bif Decidable.decide (q9 < q8) then
     bif Decidable.decide (0 ≤ q9) && Decidable.decide (q9 < (↑(List.length q6) : Int)) then
      obind (R.impl_NameOK K (List.getD q6 (Int.toNat q9) [])) fun v6 =>
       bif !Prod.fst (Prod.fst v6) then
        some (Sum.inr (q0, q1, q2, q3, q4, q5, q9, ()))
       else
        R.L_impl_areAll_string__impl_NameOK_0 K n (q0, q1, q2, q3, q4, q5, q6, q7, q8, Go.IntKind.wrap Go.IntKind.i64 (q9 + 1), ())
     else
      none
    else
     some (Sum.inl (q0, q1, q2, q3, q4, q5, q7, ()))

noncomputable def R.impl_areAll_string__impl_NameOK (K : Nat) (p0 : List (List UInt8)) : Option (((Bool) × Unit) × Unit) :=
  obind (R.L_impl_areAll_string__impl_NameOK_0 K K (p0, Bool.false, p0, p0, Bool.false, p0, p0, 0, (↑(List.length p0) : Int), 0, ())) fun v2 =>
   (match v2 with
   | .inl v3 =>
    some (((!Decidable.decide (-1 ≥ 0), ()), ()))
   | .inr v3 =>
    some (((!Decidable.decide (Prod.fst (Prod.snd (Prod.snd (Prod.snd (Prod.snd (Prod.snd (Prod.snd v3)))))) ≥ 0), ()), ()))
   )

noncomputable def R.impl_hasText (K : Nat) (p0 : (Int) × ((Int) × ((Int) × ((List (List UInt8)) × (List ((List UInt8) × (Int))))))) : Option (((Bool) × Unit) × Unit) :=
  obind (R.impl_isResult K p0 60) fun v2 =>
   bif Prod.fst (Prod.fst v2) then
    obind (R.impl_areAll_string__impl_NameOK K (Prod.fst (Prod.snd (Prod.snd (Prod.snd p0))))) fun v4 =>
     some (((Prod.fst (Prod.fst v4), ()), ()))
   else
    some (((Bool.false, ()), ()))

noncomputable def R.impl_codeWords (K : Nat) : Option (((List (List UInt8)) × Unit) × Unit) :=
  some ((([Array.toList (ByteArray.data (ByteArray.mk #[111, 107])), Array.toList (ByteArray.data (ByteArray.mk #[98, 97, 100])), Array.toList (ByteArray.data (ByteArray.mk #[108, 111, 110, 103])), Array.toList (ByteArray.data (ByteArray.mk #[102, 111, 114, 109])), Array.toList (ByteArray.data (ByteArray.mk #[114, 97, 110, 103, 101])), Array.toList (ByteArray.data (ByteArray.mk #[110, 111, 110, 101])), Array.toList (ByteArray.data (ByteArray.mk #[109, 97, 110, 121])), Array.toList (ByteArray.data (ByteArray.mk #[102, 117, 108, 108])), Array.toList (ByteArray.data (ByteArray.mk #[115, 105, 122, 101])), Array.toList (ByteArray.data (ByteArray.mk #[107, 105, 110, 100])), Array.toList (ByteArray.data (ByteArray.mk #[110, 97, 109, 101])), Array.toList (ByteArray.data (ByteArray.mk #[99, 111, 110, 102, 108, 105, 99, 116])), Array.toList (ByteArray.data (ByteArray.mk #[114, 101, 116, 114, 105, 101, 115])), Array.toList (ByteArray.data (ByteArray.mk #[115, 116, 97, 108, 101])), Array.toList (ByteArray.data (ByteArray.mk #[101, 120, 105, 115, 116, 115])), Array.toList (ByteArray.data (ByteArray.mk #[100, 111, 110, 101])), Array.toList (ByteArray.data (ByteArray.mk #[111, 114, 100, 101, 114])), Array.toList (ByteArray.data (ByteArray.mk #[108, 97, 103])), Array.toList (ByteArray.data (ByteArray.mk #[115, 97, 109, 101]))], ()), ()))

noncomputable def R.impl_CodeWord (K : Nat) (p0 : Int) : Option (((List UInt8) × Unit) × Unit) :=
  obind (R.impl_isCode K p0) fun v2 =>
   bif !Prod.fst (Prod.fst v2) then
    some (((Array.toList (ByteArray.data (ByteArray.mk #[])), ()), ()))
   else
    bif Decidable.decide (0 ≤ p0) && Decidable.decide (p0 < (↑(List.length [Array.toList (ByteArray.data (ByteArray.mk #[111, 107])), Array.toList (ByteArray.data (ByteArray.mk #[98, 97, 100])), Array.toList (ByteArray.data (ByteArray.mk #[108, 111, 110, 103])), Array.toList (ByteArray.data (ByteArray.mk #[102, 111, 114, 109])), Array.toList (ByteArray.data (ByteArray.mk #[114, 97, 110, 103, 101])), Array.toList (ByteArray.data (ByteArray.mk #[110, 111, 110, 101])), Array.toList (ByteArray.data (ByteArray.mk #[109, 97, 110, 121])), Array.toList (ByteArray.data (ByteArray.mk #[102, 117, 108, 108])), Array.toList (ByteArray.data (ByteArray.mk #[115, 105, 122, 101])), Array.toList (ByteArray.data (ByteArray.mk #[107, 105, 110, 100])), Array.toList (ByteArray.data (ByteArray.mk #[110, 97, 109, 101])), Array.toList (ByteArray.data (ByteArray.mk #[99, 111, 110, 102, 108, 105, 99, 116])), Array.toList (ByteArray.data (ByteArray.mk #[114, 101, 116, 114, 105, 101, 115])), Array.toList (ByteArray.data (ByteArray.mk #[115, 116, 97, 108, 101])), Array.toList (ByteArray.data (ByteArray.mk #[101, 120, 105, 115, 116, 115])), Array.toList (ByteArray.data (ByteArray.mk #[100, 111, 110, 101])), Array.toList (ByteArray.data (ByteArray.mk #[111, 114, 100, 101, 114])), Array.toList (ByteArray.data (ByteArray.mk #[108, 97, 103])), Array.toList (ByteArray.data (ByteArray.mk #[115, 97, 109, 101]))]) : Int)) then
     some (((List.getD [Array.toList (ByteArray.data (ByteArray.mk #[111, 107])), Array.toList (ByteArray.data (ByteArray.mk #[98, 97, 100])), Array.toList (ByteArray.data (ByteArray.mk #[108, 111, 110, 103])), Array.toList (ByteArray.data (ByteArray.mk #[102, 111, 114, 109])), Array.toList (ByteArray.data (ByteArray.mk #[114, 97, 110, 103, 101])), Array.toList (ByteArray.data (ByteArray.mk #[110, 111, 110, 101])), Array.toList (ByteArray.data (ByteArray.mk #[109, 97, 110, 121])), Array.toList (ByteArray.data (ByteArray.mk #[102, 117, 108, 108])), Array.toList (ByteArray.data (ByteArray.mk #[115, 105, 122, 101])), Array.toList (ByteArray.data (ByteArray.mk #[107, 105, 110, 100])), Array.toList (ByteArray.data (ByteArray.mk #[110, 97, 109, 101])), Array.toList (ByteArray.data (ByteArray.mk #[99, 111, 110, 102, 108, 105, 99, 116])), Array.toList (ByteArray.data (ByteArray.mk #[114, 101, 116, 114, 105, 101, 115])), Array.toList (ByteArray.data (ByteArray.mk #[115, 116, 97, 108, 101])), Array.toList (ByteArray.data (ByteArray.mk #[101, 120, 105, 115, 116, 115])), Array.toList (ByteArray.data (ByteArray.mk #[100, 111, 110, 101])), Array.toList (ByteArray.data (ByteArray.mk #[111, 114, 100, 101, 114])), Array.toList (ByteArray.data (ByteArray.mk #[108, 97, 103])), Array.toList (ByteArray.data (ByteArray.mk #[115, 97, 109, 101]))] (Int.toNat p0) [], ()), ()))
    else
     none

noncomputable def R.impl_numbered (K : Nat) (p0 : List UInt8) (p1 : Int) : Option (((List UInt8) × Unit) × Unit) :=
  bif p1 == 0 then
   some (((Array.toList (ByteArray.data (ByteArray.mk #[])), ()), ()))
  else
   bif Nat.ble (List.length (Array.toList (ByteArray.data (ByteArray.mk #[32]))) + List.length p0) 268435456 then
    bif Nat.ble (List.length (Array.toList (ByteArray.data (ByteArray.mk #[32])) ++ p0) + List.length (Array.toList (ByteArray.data (ByteArray.mk #[32])))) 268435456 then
     obind (R.strconv_Itoa K p1) fun v5 =>
      bif Nat.ble (List.length (Array.toList (ByteArray.data (ByteArray.mk #[32])) ++ p0 ++ Array.toList (ByteArray.data (ByteArray.mk #[32]))) + List.length (Prod.fst (Prod.fst v5))) 268435456 then
       some (((Array.toList (ByteArray.data (ByteArray.mk #[32])) ++ p0 ++ Array.toList (ByteArray.data (ByteArray.mk #[32])) ++ Prod.fst (Prod.fst v5), ()), ()))
      else
       none
    else
     none
   else
    none

noncomputable def R.L_impl_mapText_0 (K : Nat) : Nat → ((List UInt8) × ((List ((List UInt8) × (Int))) × ((Int) × ((Int) × ((List (List UInt8)) × Unit))))) → Option (((List UInt8) × ((List (List UInt8)) × Unit)) ⊕ Unit)
  | 0, _ => none
  | n + 1, (q0, (q1, (q2, (q3, (q4, ()))))) =>
    bif Decidable.decide (q3 < q2) then
     bif Decidable.decide (0 ≤ q3) && Decidable.decide (q3 < (↑(List.length q1) : Int)) then
      bif Nat.ble (List.length (Prod.fst (List.getD q1 (Int.toNat q3) ([], 0))) + List.length (Array.toList (ByteArray.data (ByteArray.mk #[61])))) 268435456 then
       obind (R.strconv_Itoa K (Prod.snd (List.getD q1 (Int.toNat q3) ([], 0)))) fun v7 =>
        bif Nat.ble (List.length (Prod.fst (List.getD q1 (Int.toNat q3) ([], 0)) ++ Array.toList (ByteArray.data (ByteArray.mk #[61]))) + List.length (Prod.fst (Prod.fst v7))) 268435456 then
         bif Nat.ble (List.length q4 + List.length [Prod.fst (List.getD q1 (Int.toNat q3) ([], 0)) ++ Array.toList (ByteArray.data (ByteArray.mk #[61])) ++ Prod.fst (Prod.fst v7)]) 268435456 then
          R.L_impl_mapText_0 K n (q0, q1, q2, Go.IntKind.wrap Go.IntKind.i64 (q3 + 1), q4 ++ [Prod.fst (List.getD q1 (Int.toNat q3) ([], 0)) ++ Array.toList (ByteArray.data (ByteArray.mk #[61])) ++ Prod.fst (Prod.fst v7)], ())
         else
          none
        else
         none
      else
       none
     else
      none
    else
     some (Sum.inl (q0, q4, ()))

noncomputable def R.impl_mapText (K : Nat) (p0 : List ((List UInt8) × (Int))) : Option (((List UInt8) × Unit) × Unit) :=
  obind (R.L_impl_mapText_0 K K (Array.toList (ByteArray.data (ByteArray.mk #[])), p0, (↑(List.length p0) : Int), 0, [], ())) fun v2 =>
   (match v2 with
   | .inl v3 =>
    obind (R.impl_listed K (Prod.fst (Prod.snd v3))) fun v4 =>
     some (((Prod.fst (Prod.fst v4), ()), ()))
   | .inr v3 =>
    none
   )

noncomputable def R.impl_resultText (K : Nat) (p0 : (Int) × ((Int) × ((Int) × ((List (List UInt8)) × (List ((List UInt8) × (Int))))))) : Option (((List UInt8) × Unit) × Unit) :=
  obind (R.impl_CodeWord K (Prod.fst p0)) fun v2 =>
   obind (R.impl_numbered K (Array.toList (ByteArray.data (ByteArray.mk #[99, 111, 109, 109, 105, 116]))) (Prod.fst (Prod.snd p0))) fun v3 =>
    bif Nat.ble (List.length (Prod.fst (Prod.fst v2)) + List.length (Prod.fst (Prod.fst v3))) 268435456 then
     obind (R.impl_numbered K (Array.toList (ByteArray.data (ByteArray.mk #[118, 97, 108, 117, 101]))) (Prod.fst (Prod.snd (Prod.snd p0)))) fun v5 =>
      bif Nat.ble (List.length (Prod.fst (Prod.fst v2) ++ Prod.fst (Prod.fst v3)) + List.length (Prod.fst (Prod.fst v5))) 268435456 then
       bif Decidable.decide ((↑(List.length (Prod.fst (Prod.snd (Prod.snd (Prod.snd p0))))) : Int) > 0) then
        obind (R.impl_listed K (Prod.fst (Prod.snd (Prod.snd (Prod.snd p0))))) fun v8 =>
         bif Nat.ble (List.length (Array.toList (ByteArray.data (ByteArray.mk #[32, 107, 101, 121, 115, 32]))) + List.length (Prod.fst (Prod.fst v8))) 268435456 then
          bif Nat.ble (List.length (Prod.fst (Prod.fst v2) ++ Prod.fst (Prod.fst v3) ++ Prod.fst (Prod.fst v5)) + List.length (Array.toList (ByteArray.data (ByteArray.mk #[32, 107, 101, 121, 115, 32])) ++ Prod.fst (Prod.fst v8))) 268435456 then
           bif Decidable.decide ((↑(List.length (Prod.snd (Prod.snd (Prod.snd (Prod.snd p0))))) : Int) > 0) then
            obind (R.impl_mapText K (Prod.snd (Prod.snd (Prod.snd (Prod.snd p0))))) fun v12 =>
             bif Nat.ble (List.length (Array.toList (ByteArray.data (ByteArray.mk #[32, 109, 97, 112, 32]))) + List.length (Prod.fst (Prod.fst v12))) 268435456 then
              bif Nat.ble (List.length (Prod.fst (Prod.fst v2) ++ Prod.fst (Prod.fst v3) ++ Prod.fst (Prod.fst v5) ++ (Array.toList (ByteArray.data (ByteArray.mk #[32, 107, 101, 121, 115, 32])) ++ Prod.fst (Prod.fst v8))) + List.length (Array.toList (ByteArray.data (ByteArray.mk #[32, 109, 97, 112, 32])) ++ Prod.fst (Prod.fst v12))) 268435456 then
               some (((Prod.fst (Prod.fst v2) ++ Prod.fst (Prod.fst v3) ++ Prod.fst (Prod.fst v5) ++ (Array.toList (ByteArray.data (ByteArray.mk #[32, 107, 101, 121, 115, 32])) ++ Prod.fst (Prod.fst v8)) ++ (Array.toList (ByteArray.data (ByteArray.mk #[32, 109, 97, 112, 32])) ++ Prod.fst (Prod.fst v12)), ()), ()))
              else
               none
             else
              none
           else
            some (((Prod.fst (Prod.fst v2) ++ Prod.fst (Prod.fst v3) ++ Prod.fst (Prod.fst v5) ++ (Array.toList (ByteArray.data (ByteArray.mk #[32, 107, 101, 121, 115, 32])) ++ Prod.fst (Prod.fst v8)), ()), ()))
          else
           none
         else
          none
       else
        bif Decidable.decide ((↑(List.length (Prod.snd (Prod.snd (Prod.snd (Prod.snd p0))))) : Int) > 0) then
         obind (R.impl_mapText K (Prod.snd (Prod.snd (Prod.snd (Prod.snd p0))))) fun v9 =>
          bif Nat.ble (List.length (Array.toList (ByteArray.data (ByteArray.mk #[32, 109, 97, 112, 32]))) + List.length (Prod.fst (Prod.fst v9))) 268435456 then
           bif Nat.ble (List.length (Prod.fst (Prod.fst v2) ++ Prod.fst (Prod.fst v3) ++ Prod.fst (Prod.fst v5)) + List.length (Array.toList (ByteArray.data (ByteArray.mk #[32, 109, 97, 112, 32])) ++ Prod.fst (Prod.fst v9))) 268435456 then
            some (((Prod.fst (Prod.fst v2) ++ Prod.fst (Prod.fst v3) ++ Prod.fst (Prod.fst v5) ++ (Array.toList (ByteArray.data (ByteArray.mk #[32, 109, 97, 112, 32])) ++ Prod.fst (Prod.fst v9)), ()), ()))
           else
            none
          else
           none
        else
         some (((Prod.fst (Prod.fst v2) ++ Prod.fst (Prod.fst v3) ++ Prod.fst (Prod.fst v5), ()), ()))
      else
       none
    else
     none

noncomputable def R.impl_ResultText (K : Nat) (p0 : (Int) × ((Int) × ((Int) × ((List (List UInt8)) × (List ((List UInt8) × (Int))))))) : Option (((List UInt8) × ((Int) × Unit)) × Unit) :=
  obind (R.impl_hasText K p0) fun v2 =>
   bif !Prod.fst (Prod.fst v2) then
    some (((Array.toList (ByteArray.data (ByteArray.mk #[])), 1, ()), ()))
   else
    obind (R.impl_resultText K p0) fun v4 =>
     some (((Prod.fst (Prod.fst v4), 0, ()), ()))

noncomputable def R.L_laws_eqStringS_0 (K : Nat) : Nat → ((List (List UInt8)) × ((List (List UInt8)) × ((Bool) × ((Int) × Unit)))) → Option (((Bool) × Unit) ⊕ ((Bool) × Unit))
  | 0, _ => none
  | n + 1, (q0, (q1, (q2, (q3, ())))) =>
    bif Decidable.decide (q3 < (↑(List.length q0) : Int)) then
     bif Decidable.decide (0 ≤ q3) && Decidable.decide (q3 < (↑(List.length q0) : Int)) then
      bif Decidable.decide (0 ≤ q3) && Decidable.decide (q3 < (↑(List.length q1) : Int)) then
       bif !List.getD q0 (Int.toNat q3) [] == List.getD q1 (Int.toNat q3) [] then
        some (Sum.inr (Bool.false, ()))
       else
        R.L_laws_eqStringS_0 K n (q0, q1, q2, Go.IntKind.wrap Go.IntKind.i64 (q3 + 1), ())
      else
       none
     else
      none
    else
     some (Sum.inl (q2, ()))

noncomputable def R.laws_eqStringS (K : Nat) (p0 : List (List UInt8)) (p1 : List (List UInt8)) : Option (((Bool) × Unit) × Unit) :=
  bif (↑(List.length p0) : Int) != (↑(List.length p1) : Int) then
   some (((Bool.false, ()), ()))
  else
   obind (R.L_laws_eqStringS_0 K K (p0, p1, Bool.false, 0, ())) fun v3 =>
    (match v3 with
    | .inl v4 =>
     some (((Bool.true, ()), ()))
    | .inr v4 =>
     some (((Prod.fst v4, ()), ()))
    )

noncomputable def R.laws_eqEntry (K : Nat) (p0 : (List UInt8) × (Int)) (p1 : (List UInt8) × (Int)) : Option (((Bool) × Unit) × Unit) :=
  bif !Prod.fst p0 == Prod.fst p1 then
   some (((Bool.false, ()), ()))
  else
   bif Prod.snd p0 != Prod.snd p1 then
    some (((Bool.false, ()), ()))
   else
    some (((Bool.true, ()), ()))

noncomputable def R.L_laws_eqEntryS_0 (K : Nat) : Nat → ((List ((List UInt8) × (Int))) × ((List ((List UInt8) × (Int))) × ((Bool) × ((Int) × Unit)))) → Option (((Bool) × Unit) ⊕ ((Bool) × Unit))
  | 0, _ => none
  | n + 1, (q0, (q1, (q2, (q3, ())))) =>
    bif Decidable.decide (q3 < (↑(List.length q0) : Int)) then
     bif Decidable.decide (0 ≤ q3) && Decidable.decide (q3 < (↑(List.length q0) : Int)) then
      bif Decidable.decide (0 ≤ q3) && Decidable.decide (q3 < (↑(List.length q1) : Int)) then
       obind (R.laws_eqEntry K (List.getD q0 (Int.toNat q3) ([], 0)) (List.getD q1 (Int.toNat q3) ([], 0))) fun v7 =>
        bif !Prod.fst (Prod.fst v7) then
         some (Sum.inr (Bool.false, ()))
        else
         R.L_laws_eqEntryS_0 K n (q0, q1, q2, Go.IntKind.wrap Go.IntKind.i64 (q3 + 1), ())
      else
       none
     else
      none
    else
     some (Sum.inl (q2, ()))

noncomputable def R.laws_eqEntryS (K : Nat) (p0 : List ((List UInt8) × (Int))) (p1 : List ((List UInt8) × (Int))) : Option (((Bool) × Unit) × Unit) :=
  bif (↑(List.length p0) : Int) != (↑(List.length p1) : Int) then
   some (((Bool.false, ()), ()))
  else
   obind (R.L_laws_eqEntryS_0 K K (p0, p1, Bool.false, 0, ())) fun v3 =>
    (match v3 with
    | .inl v4 =>
     some (((Bool.true, ()), ()))
    | .inr v4 =>
     some (((Prod.fst v4, ()), ()))
    )

noncomputable def R.laws_eqResult (K : Nat) (p0 : (Int) × ((Int) × ((Int) × ((List (List UInt8)) × (List ((List UInt8) × (Int))))))) (p1 : (Int) × ((Int) × ((Int) × ((List (List UInt8)) × (List ((List UInt8) × (Int))))))) : Option (((Bool) × Unit) × Unit) :=
  bif Prod.fst p0 != Prod.fst p1 then
   some (((Bool.false, ()), ()))
  else
   bif Prod.fst (Prod.snd p0) != Prod.fst (Prod.snd p1) then
    some (((Bool.false, ()), ()))
   else
    bif Prod.fst (Prod.snd (Prod.snd p0)) != Prod.fst (Prod.snd (Prod.snd p1)) then
     some (((Bool.false, ()), ()))
    else
     obind (R.laws_eqStringS K (Prod.fst (Prod.snd (Prod.snd (Prod.snd p0)))) (Prod.fst (Prod.snd (Prod.snd (Prod.snd p1))))) fun v5 =>
      bif !Prod.fst (Prod.fst v5) then
       some (((Bool.false, ()), ()))
      else
       obind (R.laws_eqEntryS K (Prod.snd (Prod.snd (Prod.snd (Prod.snd p0)))) (Prod.snd (Prod.snd (Prod.snd (Prod.snd p1))))) fun v7 =>
        bif !Prod.fst (Prod.fst v7) then
         some (((Bool.false, ()), ()))
        else
         some (((Bool.true, ()), ()))

noncomputable def R.laws_FnExactResultText (K : Nat) (p0 : (Int) × ((Int) × ((Int) × ((List (List UInt8)) × (List ((List UInt8) × (Int))))))) : Option (((Bool) × Unit) × Unit) :=
  obind (R.laws_szResult K p0 1048576) fun v2 =>
   bif Decidable.decide (Prod.fst (Prod.fst v2) < 0) then
    some (((Bool.true, ()), ()))
   else
    obind (R.laws_toResult K p0) fun v4 =>
     obind (R.spec_ResultText K (Prod.fst (Prod.fst v4))) fun v5 =>
      obind (R.laws_toResult K p0) fun v6 =>
       obind (R.impl_ResultText K (Prod.fst (Prod.fst v6))) fun v7 =>
        bif !Prod.fst (Prod.fst v7) == Prod.fst (Prod.fst v5) then
         some (((Bool.false, ()), ()))
        else
         bif Prod.fst (Prod.snd (Prod.fst v7)) != Prod.fst (Prod.snd (Prod.fst v5)) then
          some (((Bool.false, ()), ()))
         else
          obind (R.laws_toResult K p0) fun v10 =>
           obind (R.laws_eqResult K (Prod.fst (Prod.fst v6)) (Prod.fst (Prod.fst v10))) fun v11 =>
            bif !Prod.fst (Prod.fst v11) then
             some (((Bool.false, ()), ()))
            else
             some (((Bool.true, ()), ()))

noncomputable def R.laws_szOp (K : Nat) (p0 : (Int) × ((Int) × ((List UInt8) × ((List UInt8) × (List ((List UInt8) × ((Int) × (Bool)))))))) (p1 : Int) : Option (((Int) × Unit) × Unit) :=
  bif Decidable.decide (Go.IntKind.wrap Go.IntKind.i64 (p1 - (↑(List.length (Prod.fst (Prod.snd (Prod.snd p0)))) : Int)) < 0) then
   some (((-1, ()), ()))
  else
   bif Decidable.decide (Go.IntKind.wrap Go.IntKind.i64 (Go.IntKind.wrap Go.IntKind.i64 (p1 - (↑(List.length (Prod.fst (Prod.snd (Prod.snd p0)))) : Int)) - (↑(List.length (Prod.fst (Prod.snd (Prod.snd (Prod.snd p0))))) : Int)) < 0) then
    some (((-1, ()), ()))
   else
    obind (R.laws_szEditS K (Prod.snd (Prod.snd (Prod.snd (Prod.snd p0)))) (Go.IntKind.wrap Go.IntKind.i64 (Go.IntKind.wrap Go.IntKind.i64 (p1 - (↑(List.length (Prod.fst (Prod.snd (Prod.snd p0)))) : Int)) - (↑(List.length (Prod.fst (Prod.snd (Prod.snd (Prod.snd p0))))) : Int)))) fun v4 =>
     bif Decidable.decide (Prod.fst (Prod.fst v4) < 0) then
      some (((-1, ()), ()))
     else
      some (((Prod.fst (Prod.fst v4), ()), ()))

noncomputable def R.laws_szMoment (K : Nat) (p0 : (Int) × ((Int) × ((Int) × (((Int) × ((Int) × ((List UInt8) × ((List UInt8) × (List ((List UInt8) × ((Int) × (Bool)))))))) × ((Int) × ((Int) × ((Int) × ((List (List UInt8)) × (List ((List UInt8) × (Int))))))))))) (p1 : Int) : Option (((Int) × Unit) × Unit) :=
  obind (R.laws_szOp K (Prod.fst (Prod.snd (Prod.snd (Prod.snd p0)))) p1) fun v2 =>
   bif Decidable.decide (Prod.fst (Prod.fst v2) < 0) then
    some (((-1, ()), ()))
   else
    obind (R.laws_szResult K (Prod.snd (Prod.snd (Prod.snd (Prod.snd p0)))) (Prod.fst (Prod.fst v2))) fun v4 =>
     bif Decidable.decide (Prod.fst (Prod.fst v4) < 0) then
      some (((-1, ()), ()))
     else
      some (((Prod.fst (Prod.fst v4), ()), ()))

noncomputable def R.laws_toOp (K : Nat) (p0 : (Int) × ((Int) × ((List UInt8) × ((List UInt8) × (List ((List UInt8) × ((Int) × (Bool)))))))) : Option ((((Int) × ((Int) × ((List UInt8) × ((List UInt8) × (List ((List UInt8) × ((Int) × (Bool)))))))) × Unit) × Unit) :=
  obind (R.laws_toEditS K (Prod.snd (Prod.snd (Prod.snd (Prod.snd p0))))) fun v2 =>
   some ((((Prod.fst p0, Prod.fst (Prod.snd p0), Prod.fst (Prod.snd (Prod.snd p0)), Prod.fst (Prod.snd (Prod.snd (Prod.snd p0))), Prod.fst (Prod.fst v2)), ()), ()))

noncomputable def R.laws_toMoment (K : Nat) (p0 : (Int) × ((Int) × ((Int) × (((Int) × ((Int) × ((List UInt8) × ((List UInt8) × (List ((List UInt8) × ((Int) × (Bool)))))))) × ((Int) × ((Int) × ((Int) × ((List (List UInt8)) × (List ((List UInt8) × (Int))))))))))) : Option ((((Int) × ((Int) × ((Int) × (((Int) × ((Int) × ((List UInt8) × ((List UInt8) × (List ((List UInt8) × ((Int) × (Bool)))))))) × ((Int) × ((Int) × ((Int) × ((List (List UInt8)) × (List ((List UInt8) × (Int))))))))))) × Unit) × Unit) :=
  obind (R.laws_toOp K (Prod.fst (Prod.snd (Prod.snd (Prod.snd p0))))) fun v2 =>
   obind (R.laws_toResult K (Prod.snd (Prod.snd (Prod.snd (Prod.snd p0))))) fun v3 =>
    some ((((Prod.fst p0, Prod.fst (Prod.snd p0), Prod.fst (Prod.snd (Prod.snd p0)), Prod.fst (Prod.fst v2), Prod.fst (Prod.fst v3)), ()), ()))

noncomputable def R.spec_l05Op (K : Nat) (p0 : (Int) × ((Int) × ((List UInt8) × ((List UInt8) × (List ((List UInt8) × ((Int) × (Bool)))))))) : Option (((Bool) × Unit) × Unit) :=
  obind (R.spec_l00Word K (Prod.fst (Prod.snd (Prod.snd p0)))) fun v2 =>
   bif !Prod.fst (Prod.fst v2) then
    some (((Bool.false, ()), ()))
   else
    obind (R.spec_l01In K (Prod.fst p0) 1 6) fun v4 =>
     bif !Prod.fst (Prod.fst v4) then
      some (((Bool.false, ()), ()))
     else
      obind (R.spec_l01Edits K (Prod.snd (Prod.snd (Prod.snd (Prod.snd p0))))) fun v6 =>
       bif !Prod.fst (Prod.fst v6) then
        some (((Bool.false, ()), ()))
       else
        bif Prod.fst p0 != 3 then
         bif Decidable.decide ((↑(List.length (Prod.snd (Prod.snd (Prod.snd (Prod.snd p0))))) : Int) > 0) then
          some (((Bool.false, ()), ()))
         else
          bif Prod.fst p0 == 5 then
           obind (R.spec_l00Word K (Prod.fst (Prod.snd (Prod.snd (Prod.snd p0))))) fun v11 =>
            bif !Prod.fst (Prod.fst v11) then
             some (((Bool.false, ()), ()))
            else
             bif Prod.fst p0 != 5 then
              bif !Prod.fst (Prod.snd (Prod.snd (Prod.snd p0))) == Array.toList (ByteArray.data (ByteArray.mk #[])) then
               some (((Bool.false, ()), ()))
              else
               bif Prod.fst p0 == 1 then
                bif Prod.fst p0 == 1 then
                 obind (R.spec_l01In K (Prod.fst (Prod.snd p0)) 1 60) fun v17 =>
                  some (((Prod.fst (Prod.fst v17), ()), ()))
                else
                 bif Prod.fst p0 == 3 then
                  obind (R.spec_l01In K (Prod.fst (Prod.snd p0)) 0 60) fun v18 =>
                   some (((Prod.fst (Prod.fst v18), ()), ()))
                 else
                  some (((Prod.fst (Prod.snd p0) == 0, ()), ()))
               else
                bif Prod.fst p0 == 4 then
                 obind (R.spec_l01In K (Prod.fst (Prod.snd p0)) 1 60) fun v17 =>
                  some (((Prod.fst (Prod.fst v17), ()), ()))
                else
                 bif Prod.fst p0 == 3 then
                  obind (R.spec_l01In K (Prod.fst (Prod.snd p0)) 0 60) fun v18 =>
                   some (((Prod.fst (Prod.fst v18), ()), ()))
                 else
                  some (((Prod.fst (Prod.snd p0) == 0, ()), ()))
             else
              bif Prod.fst p0 == 1 then
               bif Prod.fst p0 == 1 then
                obind (R.spec_l01In K (Prod.fst (Prod.snd p0)) 1 60) fun v16 =>
                 some (((Prod.fst (Prod.fst v16), ()), ()))
               else
                bif Prod.fst p0 == 3 then
                 obind (R.spec_l01In K (Prod.fst (Prod.snd p0)) 0 60) fun v17 =>
                  some (((Prod.fst (Prod.fst v17), ()), ()))
                else
                 some (((Prod.fst (Prod.snd p0) == 0, ()), ()))
              else
               bif Prod.fst p0 == 4 then
                obind (R.spec_l01In K (Prod.fst (Prod.snd p0)) 1 60) fun v16 =>
                 some (((Prod.fst (Prod.fst v16), ()), ()))
               else
                bif Prod.fst p0 == 3 then
                 obind (R.spec_l01In K (Prod.fst (Prod.snd p0)) 0 60) fun v17 =>
                  some (((Prod.fst (Prod.fst v17), ()), ()))
                else
                 some (((Prod.fst (Prod.snd p0) == 0, ()), ()))
          else
           bif Prod.fst p0 != 5 then
            bif !Prod.fst (Prod.snd (Prod.snd (Prod.snd p0))) == Array.toList (ByteArray.data (ByteArray.mk #[])) then
             some (((Bool.false, ()), ()))
            else
             bif Prod.fst p0 == 1 then
              bif Prod.fst p0 == 1 then
               obind (R.spec_l01In K (Prod.fst (Prod.snd p0)) 1 60) fun v15 =>
                some (((Prod.fst (Prod.fst v15), ()), ()))
              else
               bif Prod.fst p0 == 3 then
                obind (R.spec_l01In K (Prod.fst (Prod.snd p0)) 0 60) fun v16 =>
                 some (((Prod.fst (Prod.fst v16), ()), ()))
               else
                some (((Prod.fst (Prod.snd p0) == 0, ()), ()))
             else
              bif Prod.fst p0 == 4 then
               obind (R.spec_l01In K (Prod.fst (Prod.snd p0)) 1 60) fun v15 =>
                some (((Prod.fst (Prod.fst v15), ()), ()))
              else
               bif Prod.fst p0 == 3 then
                obind (R.spec_l01In K (Prod.fst (Prod.snd p0)) 0 60) fun v16 =>
                 some (((Prod.fst (Prod.fst v16), ()), ()))
               else
                some (((Prod.fst (Prod.snd p0) == 0, ()), ()))
           else
            bif Prod.fst p0 == 1 then
             bif Prod.fst p0 == 1 then
              obind (R.spec_l01In K (Prod.fst (Prod.snd p0)) 1 60) fun v14 =>
               some (((Prod.fst (Prod.fst v14), ()), ()))
             else
              bif Prod.fst p0 == 3 then
               obind (R.spec_l01In K (Prod.fst (Prod.snd p0)) 0 60) fun v15 =>
                some (((Prod.fst (Prod.fst v15), ()), ()))
              else
               some (((Prod.fst (Prod.snd p0) == 0, ()), ()))
            else
             bif Prod.fst p0 == 4 then
              obind (R.spec_l01In K (Prod.fst (Prod.snd p0)) 1 60) fun v14 =>
               some (((Prod.fst (Prod.fst v14), ()), ()))
             else
              bif Prod.fst p0 == 3 then
               obind (R.spec_l01In K (Prod.fst (Prod.snd p0)) 0 60) fun v15 =>
                some (((Prod.fst (Prod.fst v15), ()), ()))
              else
               some (((Prod.fst (Prod.snd p0) == 0, ()), ()))
        else
         bif Prod.fst p0 == 5 then
          obind (R.spec_l00Word K (Prod.fst (Prod.snd (Prod.snd (Prod.snd p0))))) fun v10 =>
           bif !Prod.fst (Prod.fst v10) then
            some (((Bool.false, ()), ()))
           else
            bif Prod.fst p0 != 5 then
             bif !Prod.fst (Prod.snd (Prod.snd (Prod.snd p0))) == Array.toList (ByteArray.data (ByteArray.mk #[])) then
              some (((Bool.false, ()), ()))
             else
              bif Prod.fst p0 == 1 then
               bif Prod.fst p0 == 1 then
                obind (R.spec_l01In K (Prod.fst (Prod.snd p0)) 1 60) fun v16 =>
                 some (((Prod.fst (Prod.fst v16), ()), ()))
               else
                bif Prod.fst p0 == 3 then
                 obind (R.spec_l01In K (Prod.fst (Prod.snd p0)) 0 60) fun v17 =>
                  some (((Prod.fst (Prod.fst v17), ()), ()))
                else
                 some (((Prod.fst (Prod.snd p0) == 0, ()), ()))
              else
               bif Prod.fst p0 == 4 then
                obind (R.spec_l01In K (Prod.fst (Prod.snd p0)) 1 60) fun v16 =>
                 some (((Prod.fst (Prod.fst v16), ()), ()))
               else
                bif Prod.fst p0 == 3 then
                 obind (R.spec_l01In K (Prod.fst (Prod.snd p0)) 0 60) fun v17 =>
                  some (((Prod.fst (Prod.fst v17), ()), ()))
                else
                 some (((Prod.fst (Prod.snd p0) == 0, ()), ()))
            else
             bif Prod.fst p0 == 1 then
              bif Prod.fst p0 == 1 then
               obind (R.spec_l01In K (Prod.fst (Prod.snd p0)) 1 60) fun v15 =>
                some (((Prod.fst (Prod.fst v15), ()), ()))
              else
               bif Prod.fst p0 == 3 then
                obind (R.spec_l01In K (Prod.fst (Prod.snd p0)) 0 60) fun v16 =>
                 some (((Prod.fst (Prod.fst v16), ()), ()))
               else
                some (((Prod.fst (Prod.snd p0) == 0, ()), ()))
             else
              bif Prod.fst p0 == 4 then
               obind (R.spec_l01In K (Prod.fst (Prod.snd p0)) 1 60) fun v15 =>
                some (((Prod.fst (Prod.fst v15), ()), ()))
              else
               bif Prod.fst p0 == 3 then
                obind (R.spec_l01In K (Prod.fst (Prod.snd p0)) 0 60) fun v16 =>
                 some (((Prod.fst (Prod.fst v16), ()), ()))
               else
                some (((Prod.fst (Prod.snd p0) == 0, ()), ()))
         else
          bif Prod.fst p0 != 5 then
           bif !Prod.fst (Prod.snd (Prod.snd (Prod.snd p0))) == Array.toList (ByteArray.data (ByteArray.mk #[])) then
            some (((Bool.false, ()), ()))
           else
            bif Prod.fst p0 == 1 then
             bif Prod.fst p0 == 1 then
              obind (R.spec_l01In K (Prod.fst (Prod.snd p0)) 1 60) fun v14 =>
               some (((Prod.fst (Prod.fst v14), ()), ()))
             else
              bif Prod.fst p0 == 3 then
               obind (R.spec_l01In K (Prod.fst (Prod.snd p0)) 0 60) fun v15 =>
                some (((Prod.fst (Prod.fst v15), ()), ()))
              else
               some (((Prod.fst (Prod.snd p0) == 0, ()), ()))
            else
             bif Prod.fst p0 == 4 then
              obind (R.spec_l01In K (Prod.fst (Prod.snd p0)) 1 60) fun v14 =>
               some (((Prod.fst (Prod.fst v14), ()), ()))
             else
              bif Prod.fst p0 == 3 then
               obind (R.spec_l01In K (Prod.fst (Prod.snd p0)) 0 60) fun v15 =>
                some (((Prod.fst (Prod.fst v15), ()), ()))
              else
               some (((Prod.fst (Prod.snd p0) == 0, ()), ()))
          else
           bif Prod.fst p0 == 1 then
            bif Prod.fst p0 == 1 then
             obind (R.spec_l01In K (Prod.fst (Prod.snd p0)) 1 60) fun v13 =>
              some (((Prod.fst (Prod.fst v13), ()), ()))
            else
             bif Prod.fst p0 == 3 then
              obind (R.spec_l01In K (Prod.fst (Prod.snd p0)) 0 60) fun v14 =>
               some (((Prod.fst (Prod.fst v14), ()), ()))
             else
              some (((Prod.fst (Prod.snd p0) == 0, ()), ()))
           else
            bif Prod.fst p0 == 4 then
             obind (R.spec_l01In K (Prod.fst (Prod.snd p0)) 1 60) fun v13 =>
              some (((Prod.fst (Prod.fst v13), ()), ()))
            else
             bif Prod.fst p0 == 3 then
              obind (R.spec_l01In K (Prod.fst (Prod.snd p0)) 0 60) fun v14 =>
               some (((Prod.fst (Prod.fst v14), ()), ()))
             else
              some (((Prod.fst (Prod.snd p0) == 0, ()), ()))

noncomputable def R.spec_l13Moment (K : Nat) (p0 : (Int) × ((Int) × ((Int) × (((Int) × ((Int) × ((List UInt8) × ((List UInt8) × (List ((List UInt8) × ((Int) × (Bool)))))))) × ((Int) × ((Int) × ((Int) × ((List (List UInt8)) × (List ((List UInt8) × (Int))))))))))) : Option (((List UInt8) × Unit) × Unit) :=
  obind (R.spec_l00Digits K K (Prod.fst (Prod.snd (Prod.snd p0)))) fun v2 =>
   bif Nat.ble (List.length (Array.toList (ByteArray.data (ByteArray.mk #[115, 116, 101, 112, 32]))) + List.length (Prod.fst (Prod.fst v2))) 268435456 then
    bif Nat.ble (List.length (Array.toList (ByteArray.data (ByteArray.mk #[115, 116, 101, 112, 32])) ++ Prod.fst (Prod.fst v2)) + List.length (Array.toList (ByteArray.data (ByteArray.mk #[32, 99, 108, 105, 101, 110, 116, 32])))) 268435456 then
     obind (R.spec_l00Digits K K (Prod.fst p0)) fun v5 =>
      bif Nat.ble (List.length (Array.toList (ByteArray.data (ByteArray.mk #[115, 116, 101, 112, 32])) ++ Prod.fst (Prod.fst v2) ++ Array.toList (ByteArray.data (ByteArray.mk #[32, 99, 108, 105, 101, 110, 116, 32]))) + List.length (Prod.fst (Prod.fst v5))) 268435456 then
       bif Nat.ble (List.length (Array.toList (ByteArray.data (ByteArray.mk #[115, 116, 101, 112, 32])) ++ Prod.fst (Prod.fst v2) ++ Array.toList (ByteArray.data (ByteArray.mk #[32, 99, 108, 105, 101, 110, 116, 32])) ++ Prod.fst (Prod.fst v5)) + List.length (Array.toList (ByteArray.data (ByteArray.mk #[32, 119, 105, 115, 104, 32])))) 268435456 then
        obind (R.spec_l00Digits K K (Prod.fst (Prod.snd p0))) fun v8 =>
         bif Nat.ble (List.length (Array.toList (ByteArray.data (ByteArray.mk #[115, 116, 101, 112, 32])) ++ Prod.fst (Prod.fst v2) ++ Array.toList (ByteArray.data (ByteArray.mk #[32, 99, 108, 105, 101, 110, 116, 32])) ++ Prod.fst (Prod.fst v5) ++ Array.toList (ByteArray.data (ByteArray.mk #[32, 119, 105, 115, 104, 32]))) + List.length (Prod.fst (Prod.fst v8))) 268435456 then
          bif Decidable.decide (Prod.fst (Prod.fst (Prod.snd (Prod.snd (Prod.snd p0)))) > 0) then
           bif Decidable.decide (0 ≤ Go.IntKind.wrap Go.IntKind.i64 (Prod.fst (Prod.fst (Prod.snd (Prod.snd (Prod.snd p0)))) - 1)) && Decidable.decide (Go.IntKind.wrap Go.IntKind.i64 (Prod.fst (Prod.fst (Prod.snd (Prod.snd (Prod.snd p0)))) - 1) < (↑(List.length [Array.toList (ByteArray.data (ByteArray.mk #[99, 114, 101, 97, 116, 101])), Array.toList (ByteArray.data (ByteArray.mk #[100, 101, 108, 101, 116, 101])), Array.toList (ByteArray.data (ByteArray.mk #[99, 111, 109, 109, 105, 116])), Array.toList (ByteArray.data (ByteArray.mk #[109, 101, 114, 103, 101])), Array.toList (ByteArray.data (ByteArray.mk #[103, 101, 116])), Array.toList (ByteArray.data (ByteArray.mk #[115, 99, 97, 110]))]) : Int)) then
            bif Nat.ble (List.length (Array.toList (ByteArray.data (ByteArray.mk #[32]))) + List.length (List.getD [Array.toList (ByteArray.data (ByteArray.mk #[99, 114, 101, 97, 116, 101])), Array.toList (ByteArray.data (ByteArray.mk #[100, 101, 108, 101, 116, 101])), Array.toList (ByteArray.data (ByteArray.mk #[99, 111, 109, 109, 105, 116])), Array.toList (ByteArray.data (ByteArray.mk #[109, 101, 114, 103, 101])), Array.toList (ByteArray.data (ByteArray.mk #[103, 101, 116])), Array.toList (ByteArray.data (ByteArray.mk #[115, 99, 97, 110]))] (Int.toNat (Go.IntKind.wrap Go.IntKind.i64 (Prod.fst (Prod.fst (Prod.snd (Prod.snd (Prod.snd p0)))) - 1))) [])) 268435456 then
             bif Nat.ble (List.length (Array.toList (ByteArray.data (ByteArray.mk #[32])) ++ List.getD [Array.toList (ByteArray.data (ByteArray.mk #[99, 114, 101, 97, 116, 101])), Array.toList (ByteArray.data (ByteArray.mk #[100, 101, 108, 101, 116, 101])), Array.toList (ByteArray.data (ByteArray.mk #[99, 111, 109, 109, 105, 116])), Array.toList (ByteArray.data (ByteArray.mk #[109, 101, 114, 103, 101])), Array.toList (ByteArray.data (ByteArray.mk #[103, 101, 116])), Array.toList (ByteArray.data (ByteArray.mk #[115, 99, 97, 110]))] (Int.toNat (Go.IntKind.wrap Go.IntKind.i64 (Prod.fst (Prod.fst (Prod.snd (Prod.snd (Prod.snd p0)))) - 1))) []) + List.length (Array.toList (ByteArray.data (ByteArray.mk #[32])))) 268435456 then
              bif Nat.ble (List.length (Array.toList (ByteArray.data (ByteArray.mk #[32])) ++ List.getD [Array.toList (ByteArray.data (ByteArray.mk #[99, 114, 101, 97, 116, 101])), Array.toList (ByteArray.data (ByteArray.mk #[100, 101, 108, 101, 116, 101])), Array.toList (ByteArray.data (ByteArray.mk #[99, 111, 109, 109, 105, 116])), Array.toList (ByteArray.data (ByteArray.mk #[109, 101, 114, 103, 101])), Array.toList (ByteArray.data (ByteArray.mk #[103, 101, 116])), Array.toList (ByteArray.data (ByteArray.mk #[115, 99, 97, 110]))] (Int.toNat (Go.IntKind.wrap Go.IntKind.i64 (Prod.fst (Prod.fst (Prod.snd (Prod.snd (Prod.snd p0)))) - 1))) [] ++ Array.toList (ByteArray.data (ByteArray.mk #[32]))) + List.length (Prod.fst (Prod.snd (Prod.snd (Prod.fst (Prod.snd (Prod.snd (Prod.snd p0)))))))) 268435456 then
               bif Nat.ble (List.length (Array.toList (ByteArray.data (ByteArray.mk #[115, 116, 101, 112, 32])) ++ Prod.fst (Prod.fst v2) ++ Array.toList (ByteArray.data (ByteArray.mk #[32, 99, 108, 105, 101, 110, 116, 32])) ++ Prod.fst (Prod.fst v5) ++ Array.toList (ByteArray.data (ByteArray.mk #[32, 119, 105, 115, 104, 32])) ++ Prod.fst (Prod.fst v8)) + List.length (Array.toList (ByteArray.data (ByteArray.mk #[32])) ++ List.getD [Array.toList (ByteArray.data (ByteArray.mk #[99, 114, 101, 97, 116, 101])), Array.toList (ByteArray.data (ByteArray.mk #[100, 101, 108, 101, 116, 101])), Array.toList (ByteArray.data (ByteArray.mk #[99, 111, 109, 109, 105, 116])), Array.toList (ByteArray.data (ByteArray.mk #[109, 101, 114, 103, 101])), Array.toList (ByteArray.data (ByteArray.mk #[103, 101, 116])), Array.toList (ByteArray.data (ByteArray.mk #[115, 99, 97, 110]))] (Int.toNat (Go.IntKind.wrap Go.IntKind.i64 (Prod.fst (Prod.fst (Prod.snd (Prod.snd (Prod.snd p0)))) - 1))) [] ++ Array.toList (ByteArray.data (ByteArray.mk #[32])) ++ Prod.fst (Prod.snd (Prod.snd (Prod.fst (Prod.snd (Prod.snd (Prod.snd p0)))))))) 268435456 then
                bif Decidable.decide (Prod.fst (Prod.snd (Prod.fst (Prod.snd (Prod.snd (Prod.snd p0))))) > 0) then
                 obind (R.spec_l00Digits K K (Prod.fst (Prod.snd (Prod.fst (Prod.snd (Prod.snd (Prod.snd p0))))))) fun v17 =>
                  bif Nat.ble (List.length (Array.toList (ByteArray.data (ByteArray.mk #[32, 102, 114, 111, 109, 32]))) + List.length (Prod.fst (Prod.fst v17))) 268435456 then
                   bif Nat.ble (List.length (Array.toList (ByteArray.data (ByteArray.mk #[115, 116, 101, 112, 32])) ++ Prod.fst (Prod.fst v2) ++ Array.toList (ByteArray.data (ByteArray.mk #[32, 99, 108, 105, 101, 110, 116, 32])) ++ Prod.fst (Prod.fst v5) ++ Array.toList (ByteArray.data (ByteArray.mk #[32, 119, 105, 115, 104, 32])) ++ Prod.fst (Prod.fst v8) ++ (Array.toList (ByteArray.data (ByteArray.mk #[32])) ++ List.getD [Array.toList (ByteArray.data (ByteArray.mk #[99, 114, 101, 97, 116, 101])), Array.toList (ByteArray.data (ByteArray.mk #[100, 101, 108, 101, 116, 101])), Array.toList (ByteArray.data (ByteArray.mk #[99, 111, 109, 109, 105, 116])), Array.toList (ByteArray.data (ByteArray.mk #[109, 101, 114, 103, 101])), Array.toList (ByteArray.data (ByteArray.mk #[103, 101, 116])), Array.toList (ByteArray.data (ByteArray.mk #[115, 99, 97, 110]))] (Int.toNat (Go.IntKind.wrap Go.IntKind.i64 (Prod.fst (Prod.fst (Prod.snd (Prod.snd (Prod.snd p0)))) - 1))) [] ++ Array.toList (ByteArray.data (ByteArray.mk #[32])) ++ Prod.fst (Prod.snd (Prod.snd (Prod.fst (Prod.snd (Prod.snd (Prod.snd p0)))))))) + List.length (Array.toList (ByteArray.data (ByteArray.mk #[32, 102, 114, 111, 109, 32])) ++ Prod.fst (Prod.fst v17))) 268435456 then
                    bif Nat.ble (List.length (Array.toList (ByteArray.data (ByteArray.mk #[115, 116, 101, 112, 32])) ++ Prod.fst (Prod.fst v2) ++ Array.toList (ByteArray.data (ByteArray.mk #[32, 99, 108, 105, 101, 110, 116, 32])) ++ Prod.fst (Prod.fst v5) ++ Array.toList (ByteArray.data (ByteArray.mk #[32, 119, 105, 115, 104, 32])) ++ Prod.fst (Prod.fst v8) ++ (Array.toList (ByteArray.data (ByteArray.mk #[32])) ++ List.getD [Array.toList (ByteArray.data (ByteArray.mk #[99, 114, 101, 97, 116, 101])), Array.toList (ByteArray.data (ByteArray.mk #[100, 101, 108, 101, 116, 101])), Array.toList (ByteArray.data (ByteArray.mk #[99, 111, 109, 109, 105, 116])), Array.toList (ByteArray.data (ByteArray.mk #[109, 101, 114, 103, 101])), Array.toList (ByteArray.data (ByteArray.mk #[103, 101, 116])), Array.toList (ByteArray.data (ByteArray.mk #[115, 99, 97, 110]))] (Int.toNat (Go.IntKind.wrap Go.IntKind.i64 (Prod.fst (Prod.fst (Prod.snd (Prod.snd (Prod.snd p0)))) - 1))) [] ++ Array.toList (ByteArray.data (ByteArray.mk #[32])) ++ Prod.fst (Prod.snd (Prod.snd (Prod.fst (Prod.snd (Prod.snd (Prod.snd p0))))))) ++ (Array.toList (ByteArray.data (ByteArray.mk #[32, 102, 114, 111, 109, 32])) ++ Prod.fst (Prod.fst v17))) + List.length (Array.toList (ByteArray.data (ByteArray.mk #[58, 32])))) 268435456 then
                     obind (R.spec_l13Result K (Prod.snd (Prod.snd (Prod.snd (Prod.snd p0))))) fun v21 =>
                      bif Nat.ble (List.length (Array.toList (ByteArray.data (ByteArray.mk #[115, 116, 101, 112, 32])) ++ Prod.fst (Prod.fst v2) ++ Array.toList (ByteArray.data (ByteArray.mk #[32, 99, 108, 105, 101, 110, 116, 32])) ++ Prod.fst (Prod.fst v5) ++ Array.toList (ByteArray.data (ByteArray.mk #[32, 119, 105, 115, 104, 32])) ++ Prod.fst (Prod.fst v8) ++ (Array.toList (ByteArray.data (ByteArray.mk #[32])) ++ List.getD [Array.toList (ByteArray.data (ByteArray.mk #[99, 114, 101, 97, 116, 101])), Array.toList (ByteArray.data (ByteArray.mk #[100, 101, 108, 101, 116, 101])), Array.toList (ByteArray.data (ByteArray.mk #[99, 111, 109, 109, 105, 116])), Array.toList (ByteArray.data (ByteArray.mk #[109, 101, 114, 103, 101])), Array.toList (ByteArray.data (ByteArray.mk #[103, 101, 116])), Array.toList (ByteArray.data (ByteArray.mk #[115, 99, 97, 110]))] (Int.toNat (Go.IntKind.wrap Go.IntKind.i64 (Prod.fst (Prod.fst (Prod.snd (Prod.snd (Prod.snd p0)))) - 1))) [] ++ Array.toList (ByteArray.data (ByteArray.mk #[32])) ++ Prod.fst (Prod.snd (Prod.snd (Prod.fst (Prod.snd (Prod.snd (Prod.snd p0))))))) ++ (Array.toList (ByteArray.data (ByteArray.mk #[32, 102, 114, 111, 109, 32])) ++ Prod.fst (Prod.fst v17)) ++ Array.toList (ByteArray.data (ByteArray.mk #[58, 32]))) + List.length (Prod.fst (Prod.fst v21))) 268435456 then
                       some (((Array.toList (ByteArray.data (ByteArray.mk #[115, 116, 101, 112, 32])) ++ Prod.fst (Prod.fst v2) ++ Array.toList (ByteArray.data (ByteArray.mk #[32, 99, 108, 105, 101, 110, 116, 32])) ++ Prod.fst (Prod.fst v5) ++ Array.toList (ByteArray.data (ByteArray.mk #[32, 119, 105, 115, 104, 32])) ++ Prod.fst (Prod.fst v8) ++ (Array.toList (ByteArray.data (ByteArray.mk #[32])) ++ List.getD [Array.toList (ByteArray.data (ByteArray.mk #[99, 114, 101, 97, 116, 101])), Array.toList (ByteArray.data (ByteArray.mk #[100, 101, 108, 101, 116, 101])), Array.toList (ByteArray.data (ByteArray.mk #[99, 111, 109, 109, 105, 116])), Array.toList (ByteArray.data (ByteArray.mk #[109, 101, 114, 103, 101])), Array.toList (ByteArray.data (ByteArray.mk #[103, 101, 116])), Array.toList (ByteArray.data (ByteArray.mk #[115, 99, 97, 110]))] (Int.toNat (Go.IntKind.wrap Go.IntKind.i64 (Prod.fst (Prod.fst (Prod.snd (Prod.snd (Prod.snd p0)))) - 1))) [] ++ Array.toList (ByteArray.data (ByteArray.mk #[32])) ++ Prod.fst (Prod.snd (Prod.snd (Prod.fst (Prod.snd (Prod.snd (Prod.snd p0))))))) ++ (Array.toList (ByteArray.data (ByteArray.mk #[32, 102, 114, 111, 109, 32])) ++ Prod.fst (Prod.fst v17)) ++ Array.toList (ByteArray.data (ByteArray.mk #[58, 32])) ++ Prod.fst (Prod.fst v21), ()), ()))
                      else
                       none
                    else
                     none
                   else
                    none
                  else
                   none
                else
                 bif Nat.ble (List.length (Array.toList (ByteArray.data (ByteArray.mk #[115, 116, 101, 112, 32])) ++ Prod.fst (Prod.fst v2) ++ Array.toList (ByteArray.data (ByteArray.mk #[32, 99, 108, 105, 101, 110, 116, 32])) ++ Prod.fst (Prod.fst v5) ++ Array.toList (ByteArray.data (ByteArray.mk #[32, 119, 105, 115, 104, 32])) ++ Prod.fst (Prod.fst v8) ++ (Array.toList (ByteArray.data (ByteArray.mk #[32])) ++ List.getD [Array.toList (ByteArray.data (ByteArray.mk #[99, 114, 101, 97, 116, 101])), Array.toList (ByteArray.data (ByteArray.mk #[100, 101, 108, 101, 116, 101])), Array.toList (ByteArray.data (ByteArray.mk #[99, 111, 109, 109, 105, 116])), Array.toList (ByteArray.data (ByteArray.mk #[109, 101, 114, 103, 101])), Array.toList (ByteArray.data (ByteArray.mk #[103, 101, 116])), Array.toList (ByteArray.data (ByteArray.mk #[115, 99, 97, 110]))] (Int.toNat (Go.IntKind.wrap Go.IntKind.i64 (Prod.fst (Prod.fst (Prod.snd (Prod.snd (Prod.snd p0)))) - 1))) [] ++ Array.toList (ByteArray.data (ByteArray.mk #[32])) ++ Prod.fst (Prod.snd (Prod.snd (Prod.fst (Prod.snd (Prod.snd (Prod.snd p0)))))))) + List.length (Array.toList (ByteArray.data (ByteArray.mk #[58, 32])))) 268435456 then
                  obind (R.spec_l13Result K (Prod.snd (Prod.snd (Prod.snd (Prod.snd p0))))) fun v18 =>
                   bif Nat.ble (List.length (Array.toList (ByteArray.data (ByteArray.mk #[115, 116, 101, 112, 32])) ++ Prod.fst (Prod.fst v2) ++ Array.toList (ByteArray.data (ByteArray.mk #[32, 99, 108, 105, 101, 110, 116, 32])) ++ Prod.fst (Prod.fst v5) ++ Array.toList (ByteArray.data (ByteArray.mk #[32, 119, 105, 115, 104, 32])) ++ Prod.fst (Prod.fst v8) ++ (Array.toList (ByteArray.data (ByteArray.mk #[32])) ++ List.getD [Array.toList (ByteArray.data (ByteArray.mk #[99, 114, 101, 97, 116, 101])), Array.toList (ByteArray.data (ByteArray.mk #[100, 101, 108, 101, 116, 101])), Array.toList (ByteArray.data (ByteArray.mk #[99, 111, 109, 109, 105, 116])), Array.toList (ByteArray.data (ByteArray.mk #[109, 101, 114, 103, 101])), Array.toList (ByteArray.data (ByteArray.mk #[103, 101, 116])), Array.toList (ByteArray.data (ByteArray.mk #[115, 99, 97, 110]))] (Int.toNat (Go.IntKind.wrap Go.IntKind.i64 (Prod.fst (Prod.fst (Prod.snd (Prod.snd (Prod.snd p0)))) - 1))) [] ++ Array.toList (ByteArray.data (ByteArray.mk #[32])) ++ Prod.fst (Prod.snd (Prod.snd (Prod.fst (Prod.snd (Prod.snd (Prod.snd p0))))))) ++ Array.toList (ByteArray.data (ByteArray.mk #[58, 32]))) + List.length (Prod.fst (Prod.fst v18))) 268435456 then
                    some (((Array.toList (ByteArray.data (ByteArray.mk #[115, 116, 101, 112, 32])) ++ Prod.fst (Prod.fst v2) ++ Array.toList (ByteArray.data (ByteArray.mk #[32, 99, 108, 105, 101, 110, 116, 32])) ++ Prod.fst (Prod.fst v5) ++ Array.toList (ByteArray.data (ByteArray.mk #[32, 119, 105, 115, 104, 32])) ++ Prod.fst (Prod.fst v8) ++ (Array.toList (ByteArray.data (ByteArray.mk #[32])) ++ List.getD [Array.toList (ByteArray.data (ByteArray.mk #[99, 114, 101, 97, 116, 101])), Array.toList (ByteArray.data (ByteArray.mk #[100, 101, 108, 101, 116, 101])), Array.toList (ByteArray.data (ByteArray.mk #[99, 111, 109, 109, 105, 116])), Array.toList (ByteArray.data (ByteArray.mk #[109, 101, 114, 103, 101])), Array.toList (ByteArray.data (ByteArray.mk #[103, 101, 116])), Array.toList (ByteArray.data (ByteArray.mk #[115, 99, 97, 110]))] (Int.toNat (Go.IntKind.wrap Go.IntKind.i64 (Prod.fst (Prod.fst (Prod.snd (Prod.snd (Prod.snd p0)))) - 1))) [] ++ Array.toList (ByteArray.data (ByteArray.mk #[32])) ++ Prod.fst (Prod.snd (Prod.snd (Prod.fst (Prod.snd (Prod.snd (Prod.snd p0))))))) ++ Array.toList (ByteArray.data (ByteArray.mk #[58, 32])) ++ Prod.fst (Prod.fst v18), ()), ()))
                   else
                    none
                 else
                  none
               else
                none
              else
               none
             else
              none
            else
             none
           else
            none
          else
           bif Nat.ble (List.length (Array.toList (ByteArray.data (ByteArray.mk #[115, 116, 101, 112, 32])) ++ Prod.fst (Prod.fst v2) ++ Array.toList (ByteArray.data (ByteArray.mk #[32, 99, 108, 105, 101, 110, 116, 32])) ++ Prod.fst (Prod.fst v5) ++ Array.toList (ByteArray.data (ByteArray.mk #[32, 119, 105, 115, 104, 32])) ++ Prod.fst (Prod.fst v8)) + List.length (Array.toList (ByteArray.data (ByteArray.mk #[58, 32])))) 268435456 then
            obind (R.spec_l13Result K (Prod.snd (Prod.snd (Prod.snd (Prod.snd p0))))) fun v12 =>
             bif Nat.ble (List.length (Array.toList (ByteArray.data (ByteArray.mk #[115, 116, 101, 112, 32])) ++ Prod.fst (Prod.fst v2) ++ Array.toList (ByteArray.data (ByteArray.mk #[32, 99, 108, 105, 101, 110, 116, 32])) ++ Prod.fst (Prod.fst v5) ++ Array.toList (ByteArray.data (ByteArray.mk #[32, 119, 105, 115, 104, 32])) ++ Prod.fst (Prod.fst v8) ++ Array.toList (ByteArray.data (ByteArray.mk #[58, 32]))) + List.length (Prod.fst (Prod.fst v12))) 268435456 then
              some (((Array.toList (ByteArray.data (ByteArray.mk #[115, 116, 101, 112, 32])) ++ Prod.fst (Prod.fst v2) ++ Array.toList (ByteArray.data (ByteArray.mk #[32, 99, 108, 105, 101, 110, 116, 32])) ++ Prod.fst (Prod.fst v5) ++ Array.toList (ByteArray.data (ByteArray.mk #[32, 119, 105, 115, 104, 32])) ++ Prod.fst (Prod.fst v8) ++ Array.toList (ByteArray.data (ByteArray.mk #[58, 32])) ++ Prod.fst (Prod.fst v12), ()), ()))
             else
              none
           else
            none
         else
          none
       else
        none
      else
       none
    else
     none
   else
    none

noncomputable def R.spec_MomentText (K : Nat) (p0 : (Int) × ((Int) × ((Int) × (((Int) × ((Int) × ((List UInt8) × ((List UInt8) × (List ((List UInt8) × ((Int) × (Bool)))))))) × ((Int) × ((Int) × ((Int) × ((List (List UInt8)) × (List ((List UInt8) × (Int))))))))))) : Option (((List UInt8) × ((Int) × Unit)) × Unit) :=
  obind (R.spec_l01In K (Prod.fst (Prod.snd (Prod.snd p0))) 0 1000000) fun v2 =>
   bif !Prod.fst (Prod.fst v2) then
    some (((Array.toList (ByteArray.data (ByteArray.mk #[])), 1, ()), ()))
   else
    obind (R.spec_l01In K (Prod.fst p0) 0 5) fun v4 =>
     bif !Prod.fst (Prod.fst v4) then
      some (((Array.toList (ByteArray.data (ByteArray.mk #[])), 1, ()), ()))
     else
      obind (R.spec_l01In K (Prod.fst (Prod.snd p0)) 0 6) fun v6 =>
       bif !Prod.fst (Prod.fst v6) then
        some (((Array.toList (ByteArray.data (ByteArray.mk #[])), 1, ()), ()))
       else
        bif Prod.fst (Prod.fst (Prod.snd (Prod.snd (Prod.snd p0)))) != 0 then
         obind (R.spec_l05Op K (Prod.fst (Prod.snd (Prod.snd (Prod.snd p0))))) fun v9 =>
          bif !Prod.fst (Prod.fst v9) then
           some (((Array.toList (ByteArray.data (ByteArray.mk #[])), 1, ()), ()))
          else
           obind (R.spec_l13OK K (Prod.snd (Prod.snd (Prod.snd (Prod.snd p0))))) fun v11 =>
            bif !Prod.fst (Prod.fst v11) then
             some (((Array.toList (ByteArray.data (ByteArray.mk #[])), 1, ()), ()))
            else
             obind (R.spec_l13Moment K p0) fun v13 =>
              some (((Prod.fst (Prod.fst v13), 0, ()), ()))
        else
         obind (R.spec_l13OK K (Prod.snd (Prod.snd (Prod.snd (Prod.snd p0))))) fun v9 =>
          bif !Prod.fst (Prod.fst v9) then
           some (((Array.toList (ByteArray.data (ByteArray.mk #[])), 1, ()), ()))
          else
           obind (R.spec_l13Moment K p0) fun v11 =>
            some (((Prod.fst (Prod.fst v11), 0, ()), ()))

noncomputable def R.impl_hasOp (K : Nat) (p0 : (Int) × ((Int) × ((Int) × (((Int) × ((Int) × ((List UInt8) × ((List UInt8) × (List ((List UInt8) × ((Int) × (Bool)))))))) × ((Int) × ((Int) × ((Int) × ((List (List UInt8)) × (List ((List UInt8) × (Int))))))))))) : Option (((Bool) × Unit) × Unit) :=
  some (((Prod.fst (Prod.fst (Prod.snd (Prod.snd (Prod.snd p0)))) != 0, ()), ()))

noncomputable def R.impl_momentText (K : Nat) (p0 : (Int) × ((Int) × ((Int) × (((Int) × ((Int) × ((List UInt8) × ((List UInt8) × (List ((List UInt8) × ((Int) × (Bool)))))))) × ((Int) × ((Int) × ((Int) × ((List (List UInt8)) × (List ((List UInt8) × (Int))))))))))) : Option (((List UInt8) × Unit) × Unit) :=
  obind (R.strconv_Itoa K (Prod.fst (Prod.snd (Prod.snd p0)))) fun v2 =>
   bif Nat.ble (List.length (Array.toList (ByteArray.data (ByteArray.mk #[115, 116, 101, 112, 32]))) + List.length (Prod.fst (Prod.fst v2))) 268435456 then
    bif Nat.ble (List.length (Array.toList (ByteArray.data (ByteArray.mk #[115, 116, 101, 112, 32])) ++ Prod.fst (Prod.fst v2)) + List.length (Array.toList (ByteArray.data (ByteArray.mk #[32, 99, 108, 105, 101, 110, 116, 32])))) 268435456 then
     obind (R.strconv_Itoa K (Prod.fst p0)) fun v5 =>
      bif Nat.ble (List.length (Array.toList (ByteArray.data (ByteArray.mk #[115, 116, 101, 112, 32])) ++ Prod.fst (Prod.fst v2) ++ Array.toList (ByteArray.data (ByteArray.mk #[32, 99, 108, 105, 101, 110, 116, 32]))) + List.length (Prod.fst (Prod.fst v5))) 268435456 then
       bif Nat.ble (List.length (Array.toList (ByteArray.data (ByteArray.mk #[115, 116, 101, 112, 32])) ++ Prod.fst (Prod.fst v2) ++ Array.toList (ByteArray.data (ByteArray.mk #[32, 99, 108, 105, 101, 110, 116, 32])) ++ Prod.fst (Prod.fst v5)) + List.length (Array.toList (ByteArray.data (ByteArray.mk #[32, 119, 105, 115, 104, 32])))) 268435456 then
        obind (R.strconv_Itoa K (Prod.fst (Prod.snd p0))) fun v8 =>
         bif Nat.ble (List.length (Array.toList (ByteArray.data (ByteArray.mk #[115, 116, 101, 112, 32])) ++ Prod.fst (Prod.fst v2) ++ Array.toList (ByteArray.data (ByteArray.mk #[32, 99, 108, 105, 101, 110, 116, 32])) ++ Prod.fst (Prod.fst v5) ++ Array.toList (ByteArray.data (ByteArray.mk #[32, 119, 105, 115, 104, 32]))) + List.length (Prod.fst (Prod.fst v8))) 268435456 then
          bif Prod.fst (Prod.fst (Prod.snd (Prod.snd (Prod.snd p0)))) != 0 then
           bif Decidable.decide (0 ≤ Prod.fst (Prod.fst (Prod.snd (Prod.snd (Prod.snd p0))))) && Decidable.decide (Prod.fst (Prod.fst (Prod.snd (Prod.snd (Prod.snd p0)))) < (↑(List.length [Array.toList (ByteArray.data (ByteArray.mk #[])), Array.toList (ByteArray.data (ByteArray.mk #[99, 114, 101, 97, 116, 101])), Array.toList (ByteArray.data (ByteArray.mk #[100, 101, 108, 101, 116, 101])), Array.toList (ByteArray.data (ByteArray.mk #[99, 111, 109, 109, 105, 116])), Array.toList (ByteArray.data (ByteArray.mk #[109, 101, 114, 103, 101])), Array.toList (ByteArray.data (ByteArray.mk #[103, 101, 116])), Array.toList (ByteArray.data (ByteArray.mk #[115, 99, 97, 110]))]) : Int)) then
            bif Nat.ble (List.length (Array.toList (ByteArray.data (ByteArray.mk #[32]))) + List.length (List.getD [Array.toList (ByteArray.data (ByteArray.mk #[])), Array.toList (ByteArray.data (ByteArray.mk #[99, 114, 101, 97, 116, 101])), Array.toList (ByteArray.data (ByteArray.mk #[100, 101, 108, 101, 116, 101])), Array.toList (ByteArray.data (ByteArray.mk #[99, 111, 109, 109, 105, 116])), Array.toList (ByteArray.data (ByteArray.mk #[109, 101, 114, 103, 101])), Array.toList (ByteArray.data (ByteArray.mk #[103, 101, 116])), Array.toList (ByteArray.data (ByteArray.mk #[115, 99, 97, 110]))] (Int.toNat (Prod.fst (Prod.fst (Prod.snd (Prod.snd (Prod.snd p0)))))) [])) 268435456 then
             bif Nat.ble (List.length (Array.toList (ByteArray.data (ByteArray.mk #[32])) ++ List.getD [Array.toList (ByteArray.data (ByteArray.mk #[])), Array.toList (ByteArray.data (ByteArray.mk #[99, 114, 101, 97, 116, 101])), Array.toList (ByteArray.data (ByteArray.mk #[100, 101, 108, 101, 116, 101])), Array.toList (ByteArray.data (ByteArray.mk #[99, 111, 109, 109, 105, 116])), Array.toList (ByteArray.data (ByteArray.mk #[109, 101, 114, 103, 101])), Array.toList (ByteArray.data (ByteArray.mk #[103, 101, 116])), Array.toList (ByteArray.data (ByteArray.mk #[115, 99, 97, 110]))] (Int.toNat (Prod.fst (Prod.fst (Prod.snd (Prod.snd (Prod.snd p0)))))) []) + List.length (Array.toList (ByteArray.data (ByteArray.mk #[32])))) 268435456 then
              bif Nat.ble (List.length (Array.toList (ByteArray.data (ByteArray.mk #[32])) ++ List.getD [Array.toList (ByteArray.data (ByteArray.mk #[])), Array.toList (ByteArray.data (ByteArray.mk #[99, 114, 101, 97, 116, 101])), Array.toList (ByteArray.data (ByteArray.mk #[100, 101, 108, 101, 116, 101])), Array.toList (ByteArray.data (ByteArray.mk #[99, 111, 109, 109, 105, 116])), Array.toList (ByteArray.data (ByteArray.mk #[109, 101, 114, 103, 101])), Array.toList (ByteArray.data (ByteArray.mk #[103, 101, 116])), Array.toList (ByteArray.data (ByteArray.mk #[115, 99, 97, 110]))] (Int.toNat (Prod.fst (Prod.fst (Prod.snd (Prod.snd (Prod.snd p0)))))) [] ++ Array.toList (ByteArray.data (ByteArray.mk #[32]))) + List.length (Prod.fst (Prod.snd (Prod.snd (Prod.fst (Prod.snd (Prod.snd (Prod.snd p0)))))))) 268435456 then
               obind (R.impl_numbered K (Array.toList (ByteArray.data (ByteArray.mk #[102, 114, 111, 109]))) (Prod.fst (Prod.snd (Prod.fst (Prod.snd (Prod.snd (Prod.snd p0))))))) fun v15 =>
                bif Nat.ble (List.length (Array.toList (ByteArray.data (ByteArray.mk #[32])) ++ List.getD [Array.toList (ByteArray.data (ByteArray.mk #[])), Array.toList (ByteArray.data (ByteArray.mk #[99, 114, 101, 97, 116, 101])), Array.toList (ByteArray.data (ByteArray.mk #[100, 101, 108, 101, 116, 101])), Array.toList (ByteArray.data (ByteArray.mk #[99, 111, 109, 109, 105, 116])), Array.toList (ByteArray.data (ByteArray.mk #[109, 101, 114, 103, 101])), Array.toList (ByteArray.data (ByteArray.mk #[103, 101, 116])), Array.toList (ByteArray.data (ByteArray.mk #[115, 99, 97, 110]))] (Int.toNat (Prod.fst (Prod.fst (Prod.snd (Prod.snd (Prod.snd p0)))))) [] ++ Array.toList (ByteArray.data (ByteArray.mk #[32])) ++ Prod.fst (Prod.snd (Prod.snd (Prod.fst (Prod.snd (Prod.snd (Prod.snd p0))))))) + List.length (Prod.fst (Prod.fst v15))) 268435456 then
                 bif Nat.ble (List.length (Array.toList (ByteArray.data (ByteArray.mk #[115, 116, 101, 112, 32])) ++ Prod.fst (Prod.fst v2) ++ Array.toList (ByteArray.data (ByteArray.mk #[32, 99, 108, 105, 101, 110, 116, 32])) ++ Prod.fst (Prod.fst v5) ++ Array.toList (ByteArray.data (ByteArray.mk #[32, 119, 105, 115, 104, 32])) ++ Prod.fst (Prod.fst v8)) + List.length (Array.toList (ByteArray.data (ByteArray.mk #[32])) ++ List.getD [Array.toList (ByteArray.data (ByteArray.mk #[])), Array.toList (ByteArray.data (ByteArray.mk #[99, 114, 101, 97, 116, 101])), Array.toList (ByteArray.data (ByteArray.mk #[100, 101, 108, 101, 116, 101])), Array.toList (ByteArray.data (ByteArray.mk #[99, 111, 109, 109, 105, 116])), Array.toList (ByteArray.data (ByteArray.mk #[109, 101, 114, 103, 101])), Array.toList (ByteArray.data (ByteArray.mk #[103, 101, 116])), Array.toList (ByteArray.data (ByteArray.mk #[115, 99, 97, 110]))] (Int.toNat (Prod.fst (Prod.fst (Prod.snd (Prod.snd (Prod.snd p0)))))) [] ++ Array.toList (ByteArray.data (ByteArray.mk #[32])) ++ Prod.fst (Prod.snd (Prod.snd (Prod.fst (Prod.snd (Prod.snd (Prod.snd p0)))))) ++ Prod.fst (Prod.fst v15))) 268435456 then
                  bif Nat.ble (List.length (Array.toList (ByteArray.data (ByteArray.mk #[115, 116, 101, 112, 32])) ++ Prod.fst (Prod.fst v2) ++ Array.toList (ByteArray.data (ByteArray.mk #[32, 99, 108, 105, 101, 110, 116, 32])) ++ Prod.fst (Prod.fst v5) ++ Array.toList (ByteArray.data (ByteArray.mk #[32, 119, 105, 115, 104, 32])) ++ Prod.fst (Prod.fst v8) ++ (Array.toList (ByteArray.data (ByteArray.mk #[32])) ++ List.getD [Array.toList (ByteArray.data (ByteArray.mk #[])), Array.toList (ByteArray.data (ByteArray.mk #[99, 114, 101, 97, 116, 101])), Array.toList (ByteArray.data (ByteArray.mk #[100, 101, 108, 101, 116, 101])), Array.toList (ByteArray.data (ByteArray.mk #[99, 111, 109, 109, 105, 116])), Array.toList (ByteArray.data (ByteArray.mk #[109, 101, 114, 103, 101])), Array.toList (ByteArray.data (ByteArray.mk #[103, 101, 116])), Array.toList (ByteArray.data (ByteArray.mk #[115, 99, 97, 110]))] (Int.toNat (Prod.fst (Prod.fst (Prod.snd (Prod.snd (Prod.snd p0)))))) [] ++ Array.toList (ByteArray.data (ByteArray.mk #[32])) ++ Prod.fst (Prod.snd (Prod.snd (Prod.fst (Prod.snd (Prod.snd (Prod.snd p0)))))) ++ Prod.fst (Prod.fst v15))) + List.length (Array.toList (ByteArray.data (ByteArray.mk #[58, 32])))) 268435456 then
                   obind (R.impl_resultText K (Prod.snd (Prod.snd (Prod.snd (Prod.snd p0))))) fun v19 =>
                    bif Nat.ble (List.length (Array.toList (ByteArray.data (ByteArray.mk #[115, 116, 101, 112, 32])) ++ Prod.fst (Prod.fst v2) ++ Array.toList (ByteArray.data (ByteArray.mk #[32, 99, 108, 105, 101, 110, 116, 32])) ++ Prod.fst (Prod.fst v5) ++ Array.toList (ByteArray.data (ByteArray.mk #[32, 119, 105, 115, 104, 32])) ++ Prod.fst (Prod.fst v8) ++ (Array.toList (ByteArray.data (ByteArray.mk #[32])) ++ List.getD [Array.toList (ByteArray.data (ByteArray.mk #[])), Array.toList (ByteArray.data (ByteArray.mk #[99, 114, 101, 97, 116, 101])), Array.toList (ByteArray.data (ByteArray.mk #[100, 101, 108, 101, 116, 101])), Array.toList (ByteArray.data (ByteArray.mk #[99, 111, 109, 109, 105, 116])), Array.toList (ByteArray.data (ByteArray.mk #[109, 101, 114, 103, 101])), Array.toList (ByteArray.data (ByteArray.mk #[103, 101, 116])), Array.toList (ByteArray.data (ByteArray.mk #[115, 99, 97, 110]))] (Int.toNat (Prod.fst (Prod.fst (Prod.snd (Prod.snd (Prod.snd p0)))))) [] ++ Array.toList (ByteArray.data (ByteArray.mk #[32])) ++ Prod.fst (Prod.snd (Prod.snd (Prod.fst (Prod.snd (Prod.snd (Prod.snd p0)))))) ++ Prod.fst (Prod.fst v15)) ++ Array.toList (ByteArray.data (ByteArray.mk #[58, 32]))) + List.length (Prod.fst (Prod.fst v19))) 268435456 then
                     some (((Array.toList (ByteArray.data (ByteArray.mk #[115, 116, 101, 112, 32])) ++ Prod.fst (Prod.fst v2) ++ Array.toList (ByteArray.data (ByteArray.mk #[32, 99, 108, 105, 101, 110, 116, 32])) ++ Prod.fst (Prod.fst v5) ++ Array.toList (ByteArray.data (ByteArray.mk #[32, 119, 105, 115, 104, 32])) ++ Prod.fst (Prod.fst v8) ++ (Array.toList (ByteArray.data (ByteArray.mk #[32])) ++ List.getD [Array.toList (ByteArray.data (ByteArray.mk #[])), Array.toList (ByteArray.data (ByteArray.mk #[99, 114, 101, 97, 116, 101])), Array.toList (ByteArray.data (ByteArray.mk #[100, 101, 108, 101, 116, 101])), Array.toList (ByteArray.data (ByteArray.mk #[99, 111, 109, 109, 105, 116])), Array.toList (ByteArray.data (ByteArray.mk #[109, 101, 114, 103, 101])), Array.toList (ByteArray.data (ByteArray.mk #[103, 101, 116])), Array.toList (ByteArray.data (ByteArray.mk #[115, 99, 97, 110]))] (Int.toNat (Prod.fst (Prod.fst (Prod.snd (Prod.snd (Prod.snd p0)))))) [] ++ Array.toList (ByteArray.data (ByteArray.mk #[32])) ++ Prod.fst (Prod.snd (Prod.snd (Prod.fst (Prod.snd (Prod.snd (Prod.snd p0)))))) ++ Prod.fst (Prod.fst v15)) ++ Array.toList (ByteArray.data (ByteArray.mk #[58, 32])) ++ Prod.fst (Prod.fst v19), ()), ()))
                    else
                     none
                  else
                   none
                 else
                  none
                else
                 none
              else
               none
             else
              none
            else
             none
           else
            none
          else
           bif Nat.ble (List.length (Array.toList (ByteArray.data (ByteArray.mk #[115, 116, 101, 112, 32])) ++ Prod.fst (Prod.fst v2) ++ Array.toList (ByteArray.data (ByteArray.mk #[32, 99, 108, 105, 101, 110, 116, 32])) ++ Prod.fst (Prod.fst v5) ++ Array.toList (ByteArray.data (ByteArray.mk #[32, 119, 105, 115, 104, 32])) ++ Prod.fst (Prod.fst v8)) + List.length (Array.toList (ByteArray.data (ByteArray.mk #[58, 32])))) 268435456 then
            obind (R.impl_resultText K (Prod.snd (Prod.snd (Prod.snd (Prod.snd p0))))) fun v12 =>
             bif Nat.ble (List.length (Array.toList (ByteArray.data (ByteArray.mk #[115, 116, 101, 112, 32])) ++ Prod.fst (Prod.fst v2) ++ Array.toList (ByteArray.data (ByteArray.mk #[32, 99, 108, 105, 101, 110, 116, 32])) ++ Prod.fst (Prod.fst v5) ++ Array.toList (ByteArray.data (ByteArray.mk #[32, 119, 105, 115, 104, 32])) ++ Prod.fst (Prod.fst v8) ++ Array.toList (ByteArray.data (ByteArray.mk #[58, 32]))) + List.length (Prod.fst (Prod.fst v12))) 268435456 then
              some (((Array.toList (ByteArray.data (ByteArray.mk #[115, 116, 101, 112, 32])) ++ Prod.fst (Prod.fst v2) ++ Array.toList (ByteArray.data (ByteArray.mk #[32, 99, 108, 105, 101, 110, 116, 32])) ++ Prod.fst (Prod.fst v5) ++ Array.toList (ByteArray.data (ByteArray.mk #[32, 119, 105, 115, 104, 32])) ++ Prod.fst (Prod.fst v8) ++ Array.toList (ByteArray.data (ByteArray.mk #[58, 32])) ++ Prod.fst (Prod.fst v12), ()), ()))
             else
              none
           else
            none
         else
          none
       else
        none
      else
       none
    else
     none
   else
    none

noncomputable def R.impl_MomentText (K : Nat) (p0 : (Int) × ((Int) × ((Int) × (((Int) × ((Int) × ((List UInt8) × ((List UInt8) × (List ((List UInt8) × ((Int) × (Bool)))))))) × ((Int) × ((Int) × ((Int) × ((List (List UInt8)) × (List ((List UInt8) × (Int))))))))))) : Option (((List UInt8) × ((Int) × Unit)) × Unit) :=
  obind (R.impl_within K (Prod.fst (Prod.snd (Prod.snd p0))) 0 1000000) fun v2 =>
   bif !Prod.fst (Prod.fst v2) then
    some (((Array.toList (ByteArray.data (ByteArray.mk #[])), 1, ()), ()))
   else
    obind (R.impl_within K (Prod.fst p0) 0 5) fun v4 =>
     bif !Prod.fst (Prod.fst v4) then
      some (((Array.toList (ByteArray.data (ByteArray.mk #[])), 1, ()), ()))
     else
      obind (R.impl_within K (Prod.fst (Prod.snd p0)) 0 6) fun v6 =>
       bif !Prod.fst (Prod.fst v6) then
        some (((Array.toList (ByteArray.data (ByteArray.mk #[])), 1, ()), ()))
       else
        bif Prod.fst (Prod.fst (Prod.snd (Prod.snd (Prod.snd p0)))) != 0 then
         obind (R.impl_OpOK K (Prod.fst (Prod.snd (Prod.snd (Prod.snd p0))))) fun v9 =>
          bif !Prod.fst (Prod.fst v9) then
           some (((Array.toList (ByteArray.data (ByteArray.mk #[])), 1, ()), ()))
          else
           obind (R.impl_hasText K (Prod.snd (Prod.snd (Prod.snd (Prod.snd p0))))) fun v11 =>
            bif !Prod.fst (Prod.fst v11) then
             some (((Array.toList (ByteArray.data (ByteArray.mk #[])), 1, ()), ()))
            else
             obind (R.impl_momentText K p0) fun v13 =>
              some (((Prod.fst (Prod.fst v13), 0, ()), ()))
        else
         obind (R.impl_hasText K (Prod.snd (Prod.snd (Prod.snd (Prod.snd p0))))) fun v9 =>
          bif !Prod.fst (Prod.fst v9) then
           some (((Array.toList (ByteArray.data (ByteArray.mk #[])), 1, ()), ()))
          else
           obind (R.impl_momentText K p0) fun v11 =>
            some (((Prod.fst (Prod.fst v11), 0, ()), ()))

noncomputable def R.laws_eqOp (K : Nat) (p0 : (Int) × ((Int) × ((List UInt8) × ((List UInt8) × (List ((List UInt8) × ((Int) × (Bool)))))))) (p1 : (Int) × ((Int) × ((List UInt8) × ((List UInt8) × (List ((List UInt8) × ((Int) × (Bool)))))))) : Option (((Bool) × Unit) × Unit) :=
  bif Prod.fst p0 != Prod.fst p1 then
   some (((Bool.false, ()), ()))
  else
   bif Prod.fst (Prod.snd p0) != Prod.fst (Prod.snd p1) then
    some (((Bool.false, ()), ()))
   else
    bif !Prod.fst (Prod.snd (Prod.snd p0)) == Prod.fst (Prod.snd (Prod.snd p1)) then
     some (((Bool.false, ()), ()))
    else
     bif !Prod.fst (Prod.snd (Prod.snd (Prod.snd p0))) == Prod.fst (Prod.snd (Prod.snd (Prod.snd p1))) then
      some (((Bool.false, ()), ()))
     else
      obind (R.laws_eqEditS K (Prod.snd (Prod.snd (Prod.snd (Prod.snd p0)))) (Prod.snd (Prod.snd (Prod.snd (Prod.snd p1))))) fun v6 =>
       bif !Prod.fst (Prod.fst v6) then
        some (((Bool.false, ()), ()))
       else
        some (((Bool.true, ()), ()))

noncomputable def R.laws_eqMoment (K : Nat) (p0 : (Int) × ((Int) × ((Int) × (((Int) × ((Int) × ((List UInt8) × ((List UInt8) × (List ((List UInt8) × ((Int) × (Bool)))))))) × ((Int) × ((Int) × ((Int) × ((List (List UInt8)) × (List ((List UInt8) × (Int))))))))))) (p1 : (Int) × ((Int) × ((Int) × (((Int) × ((Int) × ((List UInt8) × ((List UInt8) × (List ((List UInt8) × ((Int) × (Bool)))))))) × ((Int) × ((Int) × ((Int) × ((List (List UInt8)) × (List ((List UInt8) × (Int))))))))))) : Option (((Bool) × Unit) × Unit) :=
  bif Prod.fst p0 != Prod.fst p1 then
   some (((Bool.false, ()), ()))
  else
   bif Prod.fst (Prod.snd p0) != Prod.fst (Prod.snd p1) then
    some (((Bool.false, ()), ()))
   else
    bif Prod.fst (Prod.snd (Prod.snd p0)) != Prod.fst (Prod.snd (Prod.snd p1)) then
     some (((Bool.false, ()), ()))
    else
     obind (R.laws_eqOp K (Prod.fst (Prod.snd (Prod.snd (Prod.snd p0)))) (Prod.fst (Prod.snd (Prod.snd (Prod.snd p1))))) fun v5 =>
      bif !Prod.fst (Prod.fst v5) then
       some (((Bool.false, ()), ()))
      else
       obind (R.laws_eqResult K (Prod.snd (Prod.snd (Prod.snd (Prod.snd p0)))) (Prod.snd (Prod.snd (Prod.snd (Prod.snd p1))))) fun v7 =>
        bif !Prod.fst (Prod.fst v7) then
         some (((Bool.false, ()), ()))
        else
         some (((Bool.true, ()), ()))

noncomputable def R.laws_FnExactMomentText (K : Nat) (p0 : (Int) × ((Int) × ((Int) × (((Int) × ((Int) × ((List UInt8) × ((List UInt8) × (List ((List UInt8) × ((Int) × (Bool)))))))) × ((Int) × ((Int) × ((Int) × ((List (List UInt8)) × (List ((List UInt8) × (Int))))))))))) : Option (((Bool) × Unit) × Unit) :=
  obind (R.laws_szMoment K p0 1048576) fun v2 =>
   bif Decidable.decide (Prod.fst (Prod.fst v2) < 0) then
    some (((Bool.true, ()), ()))
   else
    obind (R.laws_toMoment K p0) fun v4 =>
     obind (R.spec_MomentText K (Prod.fst (Prod.fst v4))) fun v5 =>
      obind (R.laws_toMoment K p0) fun v6 =>
       obind (R.impl_MomentText K (Prod.fst (Prod.fst v6))) fun v7 =>
        bif !Prod.fst (Prod.fst v7) == Prod.fst (Prod.fst v5) then
         some (((Bool.false, ()), ()))
        else
         bif Prod.fst (Prod.snd (Prod.fst v7)) != Prod.fst (Prod.snd (Prod.fst v5)) then
          some (((Bool.false, ()), ()))
         else
          obind (R.laws_toMoment K p0) fun v10 =>
           obind (R.laws_eqMoment K (Prod.fst (Prod.fst v6)) (Prod.fst (Prod.fst v10))) fun v11 =>
            bif !Prod.fst (Prod.fst v11) then
             some (((Bool.false, ()), ()))
            else
             some (((Bool.true, ()), ()))

end Go.Proofs
