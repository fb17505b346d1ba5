/- What the functions come to, printed by a program of the prover's own. -/
import Derived.Test.YtpfkncmaeamacaaFwZg
set_option linter.all false
namespace Go.Proofs
open Go Fw
set_option maxRecDepth 100000
noncomputable def R.laws_szIntS (K : Nat) (p0 : List (Int)) (p1 : Int) : Option (((Int) × Unit) × Unit) :=
  bif Decidable.decide (Go.IntKind.wrap Go.IntKind.i64 (p1 - (↑(List.length p0) : Int)) < 0) then
   some (((-1, ()), ()))
  else
   some (((Go.IntKind.wrap Go.IntKind.i64 (p1 - (↑(List.length p0) : Int)), ()), ()))

noncomputable def R.laws_szEntry (K : Nat) (p0 : (List UInt8) × (Int)) (p1 : Int) : Option (((Int) × Unit) × Unit) :=
  bif Decidable.decide (Go.IntKind.wrap Go.IntKind.i64 (p1 - (↑(List.length (Prod.fst p0)) : Int)) < 0) then
   some (((-1, ()), ()))
  else
   some (((Go.IntKind.wrap Go.IntKind.i64 (p1 - (↑(List.length (Prod.fst p0)) : Int)), ()), ()))

noncomputable def R.L_laws_szEntryS_0 (K : Nat) : Nat → ((List ((List UInt8) × (Int))) × ((Int) × ((Int) × ((Int) × Unit)))) → Option (((Int) × ((Int) × Unit)) ⊕ ((Int) × Unit))
  | 0, _ => none
  | n + 1, (q0, (q1, (q2, (q3, ())))) =>
    bif Decidable.decide (q3 < (↑(List.length q0) : Int)) then
     bif Decidable.decide (0 ≤ q3) && Decidable.decide (q3 < (↑(List.length q0) : Int)) then
      obind (R.laws_szEntry K (List.getD q0 (Int.toNat q3) ([], 0)) q1) fun v6 =>
       bif Decidable.decide (Prod.fst (Prod.fst v6) < 0) then
        some (Sum.inr (-1, ()))
       else
        R.L_laws_szEntryS_0 K n (q0, Prod.fst (Prod.fst v6), q2, Go.IntKind.wrap Go.IntKind.i64 (q3 + 1), ())
     else
      none
    else
     some (Sum.inl (q1, q2, ()))

noncomputable def R.laws_szEntryS (K : Nat) (p0 : List ((List UInt8) × (Int))) (p1 : Int) : Option (((Int) × Unit) × Unit) :=
  bif Decidable.decide (Go.IntKind.wrap Go.IntKind.i64 (p1 - (↑(List.length p0) : Int)) < 0) then
   some (((-1, ()), ()))
  else
   obind (R.L_laws_szEntryS_0 K K (p0, Go.IntKind.wrap Go.IntKind.i64 (p1 - (↑(List.length p0) : Int)), 0, 0, ())) fun v3 =>
    (match v3 with
    | .inl v4 =>
     some (((Prod.fst v4, ()), ()))
    | .inr v4 =>
     some (((Prod.fst v4, ()), ()))
    )

noncomputable def R.laws_szCommit (K : Nat) (p0 : (List (Int)) × (List ((List UInt8) × (Int)))) (p1 : Int) : Option (((Int) × Unit) × Unit) :=
  obind (R.laws_szIntS K (Prod.fst p0) p1) fun v2 =>
   bif Decidable.decide (Prod.fst (Prod.fst v2) < 0) then
    some (((-1, ()), ()))
   else
    obind (R.laws_szEntryS K (Prod.snd p0) (Prod.fst (Prod.fst v2))) fun v4 =>
     bif Decidable.decide (Prod.fst (Prod.fst v4) < 0) then
      some (((-1, ()), ()))
     else
      some (((Prod.fst (Prod.fst v4), ()), ()))

noncomputable def R.L_laws_szCommitS_0 (K : Nat) : Nat → ((List ((List (Int)) × (List ((List UInt8) × (Int))))) × ((Int) × ((Int) × ((Int) × Unit)))) → Option (((Int) × ((Int) × Unit)) ⊕ ((Int) × Unit))
  | 0, _ => none
  | n + 1, (q0, (q1, (q2, (q3, ())))) =>
    bif Decidable.decide (q3 < (↑(List.length q0) : Int)) then
     bif Decidable.decide (0 ≤ q3) && Decidable.decide (q3 < (↑(List.length q0) : Int)) then
      obind (R.laws_szCommit K (List.getD q0 (Int.toNat q3) ([], [])) q1) fun v6 =>
       bif Decidable.decide (Prod.fst (Prod.fst v6) < 0) then
        some (Sum.inr (-1, ()))
       else
        R.L_laws_szCommitS_0 K n (q0, Prod.fst (Prod.fst v6), q2, Go.IntKind.wrap Go.IntKind.i64 (q3 + 1), ())
     else
      none
    else
     some (Sum.inl (q1, q2, ()))

noncomputable def R.laws_szCommitS (K : Nat) (p0 : List ((List (Int)) × (List ((List UInt8) × (Int))))) (p1 : Int) : Option (((Int) × Unit) × Unit) :=
  bif Decidable.decide (Go.IntKind.wrap Go.IntKind.i64 (p1 - (↑(List.length p0) : Int)) < 0) then
   some (((-1, ()), ()))
  else
   obind (R.L_laws_szCommitS_0 K K (p0, Go.IntKind.wrap Go.IntKind.i64 (p1 - (↑(List.length p0) : Int)), 0, 0, ())) fun v3 =>
    (match v3 with
    | .inl v4 =>
     some (((Prod.fst v4, ()), ()))
    | .inr v4 =>
     some (((Prod.fst v4, ()), ()))
    )

noncomputable def R.L_laws_toIntS_0 (K : Nat) : Nat → ((List (Int)) × ((Int) × ((List (Int)) × ((List (Int)) × Unit)))) → Option (((List (Int)) × ((List (Int)) × Unit)) ⊕ Unit)
  | 0, _ => none
  | n + 1, (q0, (q1, (q2, (q3, ())))) =>
    bif Decidable.decide (q1 < (↑(List.length q0) : Int)) then
     bif Decidable.decide (0 ≤ q1) && Decidable.decide (q1 < (↑(List.length q0) : Int)) then
      bif Decidable.decide (0 ≤ q1) && Decidable.decide (q1 < (↑(List.length q3) : Int)) then
       R.L_laws_toIntS_0 K n (q0, Go.IntKind.wrap Go.IntKind.i64 (q1 + 1), q2, List.set q3 (Int.toNat q1) (List.getD q0 (Int.toNat q1) 0), ())
      else
       none
     else
      none
    else
     some (Sum.inl (q2, q3, ()))

noncomputable def R.laws_toIntS (K : Nat) (p0 : List (Int)) : Option (((List (Int)) × Unit) × Unit) :=
  bif Decidable.decide (0 ≤ (↑(List.length p0) : Int)) && Decidable.decide ((↑(List.length p0) : Int) ≤ (↑(List.length p0) : Int)) && Decidable.decide ((↑(List.length p0) : Int) ≤ (↑268435456 : Int)) then
   obind (R.L_laws_toIntS_0 K K (p0, 0, [], List.replicate (Int.toNat (↑(List.length p0) : Int)) 0, ())) fun v3 =>
    (match v3 with
    | .inl v4 =>
     some (((Prod.fst (Prod.snd v4), ()), ()))
    | .inr v4 =>
     none
    )
  else
   none

noncomputable def R.laws_toEntry (K : Nat) (p0 : (List UInt8) × (Int)) : Option ((((List UInt8) × (Int)) × Unit) × Unit) :=
  some (((p0, ()), ()))

noncomputable def R.L_laws_toEntryS_0 (K : Nat) : Nat → ((List ((List UInt8) × (Int))) × ((Int) × ((List ((List UInt8) × (Int))) × ((List ((List UInt8) × (Int))) × Unit)))) → Option (((List ((List UInt8) × (Int))) × ((List ((List UInt8) × (Int))) × Unit)) ⊕ Unit)
  | 0, _ => none
  | n + 1, (q0, (q1, (q2, (q3, ())))) =>
    bif Decidable.decide (q1 < (↑(List.length q0) : Int)) then
     bif Decidable.decide (0 ≤ q1) && Decidable.decide (q1 < (↑(List.length q0) : Int)) then
      bif Decidable.decide (0 ≤ q1) && Decidable.decide (q1 < (↑(List.length q3) : Int)) then
       R.L_laws_toEntryS_0 K n (q0, Go.IntKind.wrap Go.IntKind.i64 (q1 + 1), q2, List.set q3 (Int.toNat q1) (List.getD q0 (Int.toNat q1) ([], 0)), ())
      else
       none
     else
      none
    else
     some (Sum.inl (q2, q3, ()))

noncomputable def R.laws_toEntryS (K : Nat) (p0 : List ((List UInt8) × (Int))) : Option (((List ((List UInt8) × (Int))) × Unit) × Unit) :=
  bif Decidable.decide (0 ≤ (↑(List.length p0) : Int)) && Decidable.decide ((↑(List.length p0) : Int) ≤ (↑(List.length p0) : Int)) && Decidable.decide ((↑(List.length p0) : Int) ≤ (↑268435456 : Int)) then
   obind (R.L_laws_toEntryS_0 K K (p0, 0, [], List.replicate (Int.toNat (↑(List.length p0) : Int)) ([], 0), ())) fun v3 =>
    (match v3 with
    | .inl v4 =>
     some (((Prod.fst (Prod.snd v4), ()), ()))
    | .inr v4 =>
     none
    )
  else
   none

noncomputable def R.laws_toCommit (K : Nat) (p0 : (List (Int)) × (List ((List UInt8) × (Int)))) : Option ((((List (Int)) × (List ((List UInt8) × (Int)))) × Unit) × Unit) :=
  obind (R.laws_toIntS K (Prod.fst p0)) fun v2 =>
   obind (R.laws_toEntryS K (Prod.snd p0)) fun v3 =>
    some ((((Prod.fst (Prod.fst v2), Prod.fst (Prod.fst v3)), ()), ()))

noncomputable def R.L_laws_toCommitS_0 (K : Nat) : Nat → ((List ((List (Int)) × (List ((List UInt8) × (Int))))) × ((Int) × ((List ((List (Int)) × (List ((List UInt8) × (Int))))) × ((List ((List (Int)) × (List ((List UInt8) × (Int))))) × Unit)))) → Option (((List ((List (Int)) × (List ((List UInt8) × (Int))))) × ((List ((List (Int)) × (List ((List UInt8) × (Int))))) × Unit)) ⊕ Unit)
  | 0, _ => none
  | n + 1, (q0, (q1, (q2, (q3, ())))) =>
    bif Decidable.decide (q1 < (↑(List.length q0) : Int)) then
     bif Decidable.decide (0 ≤ q1) && Decidable.decide (q1 < (↑(List.length q0) : Int)) then
      obind (R.laws_toCommit K (List.getD q0 (Int.toNat q1) ([], []))) fun v6 =>
       bif Decidable.decide (0 ≤ q1) && Decidable.decide (q1 < (↑(List.length q3) : Int)) then
        R.L_laws_toCommitS_0 K n (q0, Go.IntKind.wrap Go.IntKind.i64 (q1 + 1), q2, List.set q3 (Int.toNat q1) (Prod.fst (Prod.fst v6)), ())
       else
        none
     else
      none
    else
     some (Sum.inl (q2, q3, ()))

noncomputable def R.laws_toCommitS (K : Nat) (p0 : List ((List (Int)) × (List ((List UInt8) × (Int))))) : Option (((List ((List (Int)) × (List ((List UInt8) × (Int))))) × Unit) × Unit) :=
  bif Decidable.decide (0 ≤ (↑(List.length p0) : Int)) && Decidable.decide ((↑(List.length p0) : Int) ≤ (↑(List.length p0) : Int)) && Decidable.decide ((↑(List.length p0) : Int) ≤ (↑268435456 : Int)) then
   obind (R.L_laws_toCommitS_0 K K (p0, 0, [], List.replicate (Int.toNat (↑(List.length p0) : Int)) ([], []), ())) fun v3 =>
    (match v3 with
    | .inl v4 =>
     some (((Prod.fst (Prod.snd v4), ()), ()))
    | .inr v4 =>
     none
    )
  else
   none

noncomputable def R.spec_l01In (K : Nat) (p0 : Int) (p1 : Int) (p2 : Int) : Option (((Bool) × Unit) × Unit) :=
  bif Decidable.decide (p0 ≥ p1) then
   some (((Decidable.decide (p0 ≤ p2), ()), ()))
  else
   some (((Bool.false, ()), ()))

noncomputable def R.spec_l00Letter (K : Nat) (p0 : Int) : Option (((Bool) × Unit) × Unit) :=
  bif Decidable.decide (p0 ≥ 97) then
   bif Decidable.decide (p0 ≤ 122) then
    some (((Bool.true, ()), ()))
   else
    bif Decidable.decide (p0 ≥ 65) then
     bif Decidable.decide (p0 ≤ 90) then
      some (((Bool.true, ()), ()))
     else
      some (((p0 == 95, ()), ()))
    else
     some (((p0 == 95, ()), ()))
  else
   bif Decidable.decide (p0 ≥ 65) then
    bif Decidable.decide (p0 ≤ 90) then
     some (((Bool.true, ()), ()))
    else
     some (((p0 == 95, ()), ()))
   else
    some (((p0 == 95, ()), ()))

noncomputable def R.spec_l00Digit (K : Nat) (p0 : Int) : Option (((Bool) × Unit) × Unit) :=
  bif Decidable.decide (p0 ≥ 48) then
   some (((Decidable.decide (p0 ≤ 57), ()), ()))
  else
   some (((Bool.false, ()), ()))

noncomputable def R.L_spec_l00Word_0 (K : Nat) : Nat → ((List UInt8) × ((Bool) × ((Int) × Unit))) → Option (((Bool) × Unit) ⊕ ((Bool) × Unit))
  | 0, _ => none
  | n + 1, (q0, (q1, (q2, ()))) =>
    bif Decidable.decide (q2 < (↑(List.length q0) : Int)) then
     bif Decidable.decide (0 ≤ q2) && Decidable.decide (q2 < (↑(List.length q0) : Int)) then
      obind (R.spec_l00Letter K (↑(UInt8.toNat (List.getD q0 (Int.toNat q2) 0)) : Int)) fun v6 =>
       bif !Prod.fst (Prod.fst v6) then
        bif Decidable.decide (0 ≤ q2) && Decidable.decide (q2 < (↑(List.length q0) : Int)) then
         obind (R.spec_l00Digit K (↑(UInt8.toNat (List.getD q0 (Int.toNat q2) 0)) : Int)) fun v9 =>
          bif !Prod.fst (Prod.fst v9) then
           some (Sum.inr (Bool.false, ()))
          else
           R.L_spec_l00Word_0 K n (q0, q1, Go.IntKind.wrap Go.IntKind.i64 (q2 + 1), ())
        else
         none
       else
        R.L_spec_l00Word_0 K n (q0, q1, Go.IntKind.wrap Go.IntKind.i64 (q2 + 1), ())
     else
      none
    else
     some (Sum.inl (q1, ()))

noncomputable def R.spec_l00Word (K : Nat) (p0 : List UInt8) : Option (((Bool) × Unit) × Unit) :=
  bif Decidable.decide ((↑(List.length p0) : Int) < 1) then
   some (((Bool.false, ()), ()))
  else
   bif Decidable.decide ((↑(List.length p0) : Int) > 12) then
    some (((Bool.false, ()), ()))
   else
    bif Decidable.decide (0 ≤ 0) && Decidable.decide (0 < (↑(List.length p0) : Int)) then
     obind (R.spec_l00Letter K (↑(UInt8.toNat (List.getD p0 (Int.toNat 0) 0)) : Int)) fun v5 =>
      bif !Prod.fst (Prod.fst v5) then
       some (((Bool.false, ()), ()))
      else
       obind (R.L_spec_l00Word_0 K K (p0, Bool.false, 1, ())) fun v7 =>
        (match v7 with
        | .inl v8 =>
         some (((Bool.true, ()), ()))
        | .inr v8 =>
         some (((Prod.fst v8, ()), ()))
        )
    else
     none

noncomputable def R.L_spec_l01OK_0 (K : Nat) : Nat → ((List ((List UInt8) × (Int))) × ((Bool) × ((Int) × Unit))) → Option (((Bool) × Unit) ⊕ ((Bool) × Unit))
  | 0, _ => none
  | n + 1, (q0, (q1, (q2, ()))) =>
    bif Decidable.decide (q2 < (↑(List.length q0) : Int)) then
     bif Decidable.decide (0 ≤ q2) && Decidable.decide (q2 < (↑(List.length q0) : Int)) then
      obind (R.spec_l00Word K (Prod.fst (List.getD q0 (Int.toNat q2) ([], 0)))) fun v6 =>
       bif !Prod.fst (Prod.fst v6) then
        some (Sum.inr (Bool.false, ()))
       else
        bif Decidable.decide (0 ≤ q2) && Decidable.decide (q2 < (↑(List.length q0) : Int)) then
         obind (R.spec_l01In K (Prod.snd (List.getD q0 (Int.toNat q2) ([], 0))) (-1000000) 1000000) fun v9 =>
          bif !Prod.fst (Prod.fst v9) then
           some (Sum.inr (Bool.false, ()))
          else
           bif Decidable.decide (q2 > 0) then
            bif Decidable.decide (0 ≤ q2) && Decidable.decide (q2 < (↑(List.length q0) : Int)) then
             bif Decidable.decide (0 ≤ Go.IntKind.wrap Go.IntKind.i64 (q2 - 1)) && Decidable.decide (Go.IntKind.wrap Go.IntKind.i64 (q2 - 1) < (↑(List.length q0) : Int)) then
              bif Fw.sless (Prod.fst (List.getD q0 (Int.toNat q2) ([], 0))) (Prod.fst (List.getD q0 (Int.toNat (Go.IntKind.wrap Go.IntKind.i64 (q2 - 1))) ([], 0))) || Prod.fst (List.getD q0 (Int.toNat q2) ([], 0)) == Prod.fst (List.getD q0 (Int.toNat (Go.IntKind.wrap Go.IntKind.i64 (q2 - 1))) ([], 0)) then
               some (Sum.inr (Bool.false, ()))
              else
               R.L_spec_l01OK_0 K n (q0, q1, Go.IntKind.wrap Go.IntKind.i64 (q2 + 1), ())
             else
              none
            else
             none
           else
            R.L_spec_l01OK_0 K n (q0, q1, Go.IntKind.wrap Go.IntKind.i64 (q2 + 1), ())
        else
         none
     else
      none
    else
     some (Sum.inl (q1, ()))

noncomputable def R.spec_l01OK (K : Nat) (p0 : List ((List UInt8) × (Int))) : Option (((Bool) × Unit) × Unit) :=
  bif Decidable.decide ((↑(List.length p0) : Int) > 12) then
   some (((Bool.false, ()), ()))
  else
   obind (R.L_spec_l01OK_0 K K (p0, Bool.false, 0, ())) fun v3 =>
    (match v3 with
    | .inl v4 =>
     some (((Bool.true, ()), ()))
    | .inr v4 =>
     some (((Prod.fst v4, ()), ()))
    )

noncomputable def R.L_spec_l03Commit_0 (K : Nat) : Nat → ((List ((List (Int)) × (List ((List UInt8) × (Int))))) × ((Bool) × ((Int) × ((Int) × ((List (Int)) × ((List ((List UInt8) × (Int))) × Unit)))))) → Option (((Bool) × Unit) ⊕ ((Bool) × Unit))
  | 0, _ => none
  | n + 1, (q0, (q1, (q2, (q3, (q4, (q5, ())))))) =>
    bif Decidable.decide (q3 < q2) then
     bif Decidable.decide (0 ≤ q3) && Decidable.decide (q3 < (↑(List.length q4) : Int)) then
      obind (R.spec_l01In K (List.getD q4 (Int.toNat q3) 0) 1 (↑(List.length q0) : Int)) fun v6 =>
       bif !Prod.fst (Prod.fst v6) then
        some (Sum.inr (Bool.false, ()))
       else
        bif Decidable.decide (q3 > 0) then
         bif Decidable.decide (0 ≤ q3) && Decidable.decide (q3 < (↑(List.length q4) : Int)) then
          bif Decidable.decide (0 ≤ 0) && Decidable.decide (0 < (↑(List.length q4) : Int)) then
           bif List.getD q4 (Int.toNat q3) 0 == List.getD q4 (Int.toNat 0) 0 then
            some (Sum.inr (Bool.false, ()))
           else
            R.L_spec_l03Commit_0 K n (q0, q1, q2, Go.IntKind.wrap Go.IntKind.i64 (q3 + 1), q4, q5, ())
          else
           none
         else
          none
        else
         R.L_spec_l03Commit_0 K n (q0, q1, q2, Go.IntKind.wrap Go.IntKind.i64 (q3 + 1), q4, q5, ())
     else
      none
    else
     some (Sum.inl (q1, ()))

noncomputable def R.spec_l03Commit (K : Nat) (p0 : List ((List (Int)) × (List ((List UInt8) × (Int))))) (p1 : (List (Int)) × (List ((List UInt8) × (Int)))) : Option (((Bool) × Unit) × Unit) :=
  obind (R.spec_l01OK K (Prod.snd p1)) fun v2 =>
   bif !Prod.fst (Prod.fst v2) then
    some (((Bool.false, ()), ()))
   else
    bif Decidable.decide ((↑(List.length (Prod.fst p1)) : Int) > 2) then
     some (((Bool.false, ()), ()))
    else
     bif !((↑(List.length (Prod.fst p1)) : Int) == 0) == ((↑(List.length p0) : Int) == 0) then
      some (((Bool.false, ()), ()))
     else
      obind (R.L_spec_l03Commit_0 K K (p0, Bool.false, (↑(List.length (Prod.fst p1)) : Int), 0, Prod.fst p1, Prod.snd p1, ())) fun v6 =>
       (match v6 with
       | .inl v7 =>
        some (((Bool.true, ()), ()))
       | .inr v7 =>
        some (((Prod.fst v7, ()), ()))
       )

noncomputable def R.L_spec_l03OK_0 (K : Nat) : Nat → ((List ((List (Int)) × (List ((List UInt8) × (Int))))) × ((Bool) × ((Int) × Unit))) → Option (((Bool) × Unit) ⊕ ((Bool) × Unit))
  | 0, _ => none
  | n + 1, (q0, (q1, (q2, ()))) =>
    bif Decidable.decide (q2 < (↑(List.length q0) : Int)) then
     bif Decidable.decide (0 ≤ q2) && Decidable.decide (q2 ≤ (↑(List.length q0) : Int)) then
      bif Decidable.decide (0 ≤ q2) && Decidable.decide (q2 < (↑(List.length q0) : Int)) then
       obind (R.spec_l03Commit K (List.drop 0 (List.take (Int.toNat q2) q0)) (List.getD q0 (Int.toNat q2) ([], []))) fun v7 =>
        bif !Prod.fst (Prod.fst v7) then
         some (Sum.inr (Bool.false, ()))
        else
         R.L_spec_l03OK_0 K n (q0, q1, Go.IntKind.wrap Go.IntKind.i64 (q2 + 1), ())
      else
       none
     else
      none
    else
     some (Sum.inl (q1, ()))

noncomputable def R.spec_l03OK (K : Nat) (p0 : List ((List (Int)) × (List ((List UInt8) × (Int))))) : Option (((Bool) × Unit) × Unit) :=
  obind (R.spec_l01In K (↑(List.length p0) : Int) 1 60) fun v2 =>
   bif !Prod.fst (Prod.fst v2) then
    some (((Bool.false, ()), ()))
   else
    obind (R.L_spec_l03OK_0 K K (p0, Bool.false, 0, ())) fun v4 =>
     (match v4 with
     | .inl v5 =>
      some (((Bool.true, ()), ()))
     | .inr v5 =>
      some (((Prod.fst v5, ()), ()))
     )

noncomputable def R.spec_l03Own (K : Nat) (p0 : (List (Int)) × (List ((List UInt8) × (Int)))) : Option ((((List (Int)) × (List ((List UInt8) × (Int)))) × Unit) × Unit) :=
  obind (
    Fw.alt (
     Fw.dup (
      bif Nat.ble (0 + List.length (Prod.fst p0)) 268435456 then
       bif Nat.ble (0 + List.length (Prod.snd p0)) 268435456 then
        some ((Prod.fst p0, Prod.snd p0, ()))
       else
        none
      else
       none
     )
    ) (
     bif Nat.ble (0 + List.length (Prod.fst p0)) 268435456 then
      bif Nat.ble (0 + List.length (Prod.snd p0)) 268435456 then
       some ((Prod.fst p0, Prod.snd p0, ()))
      else
       none
     else
      none
    )
   ) fun (v2 : List Int × List (List UInt8 × Int) × PUnit) =>
   some ((((Prod.fst v2, Prod.fst (Prod.snd v2)), ()), ()))

noncomputable def R.L_spec_l03Copy_0 (K : Nat) : Nat → ((List ((List (Int)) × (List ((List UInt8) × (Int))))) × ((Int) × ((List ((List (Int)) × (List ((List UInt8) × (Int))))) × ((List ((List (Int)) × (List ((List UInt8) × (Int))))) × Unit)))) → Option (((List ((List (Int)) × (List ((List UInt8) × (Int))))) × ((List ((List (Int)) × (List ((List UInt8) × (Int))))) × Unit)) ⊕ Unit)
  | 0, _ => none
  | n + 1, (q0, (q1, (q2, (q3, ())))) =>
    bif Decidable.decide (q1 < (↑(List.length q0) : Int)) then
     bif Decidable.decide (0 ≤ q1) && Decidable.decide (q1 < (↑(List.length q0) : Int)) then
      obind (R.spec_l03Own K (List.getD q0 (Int.toNat q1) ([], []))) fun v6 =>
       bif Nat.ble (List.length q3 + List.length [Prod.fst (Prod.fst v6)]) 268435456 then
        R.L_spec_l03Copy_0 K n (q0, Go.IntKind.wrap Go.IntKind.i64 (q1 + 1), q2, q3 ++ [Prod.fst (Prod.fst v6)], ())
       else
        none
     else
      none
    else
     some (Sum.inl (q2, q3, ()))

noncomputable def R.spec_l03Copy (K : Nat) (p0 : List ((List (Int)) × (List ((List UInt8) × (Int))))) : Option (((List ((List (Int)) × (List ((List UInt8) × (Int))))) × Unit) × Unit) :=
  obind (R.L_spec_l03Copy_0 K K (p0, 0, [], [], ())) fun v2 =>
   (match v2 with
   | .inl v3 =>
    some (((Prod.fst (Prod.snd v3), ()), ()))
   | .inr v3 =>
    none
   )

noncomputable def R.spec_AddCommit (K : Nat) (p0 : List ((List (Int)) × (List ((List UInt8) × (Int))))) (p1 : (List (Int)) × (List ((List UInt8) × (Int)))) : Option (((List ((List (Int)) × (List ((List UInt8) × (Int))))) × ((Int) × ((Int) × Unit))) × Unit) :=
  bif Decidable.decide ((↑(List.length p0) : Int) > 4096) then
   some ((([], 0, 2, ()), ()))
  else
   bif Decidable.decide ((↑(List.length p0) : Int) > 0) then
    obind (R.spec_l03OK K p0) fun v4 =>
     bif !Prod.fst (Prod.fst v4) then
      some ((([], 0, 1, ()), ()))
     else
      obind (R.spec_l03Commit K p0 p1) fun v6 =>
       bif !Prod.fst (Prod.fst v6) then
        some ((([], 0, 1, ()), ()))
       else
        bif (↑(List.length p0) : Int) == 60 then
         obind (R.spec_l03Copy K p0) fun v9 =>
          some (((Prod.fst (Prod.fst v9), 0, 7, ()), ()))
        else
         obind (R.spec_l03Copy K p0) fun v9 =>
          obind (R.spec_l03Own K p1) fun v10 =>
           bif Nat.ble (List.length (Prod.fst (Prod.fst v9)) + List.length [Prod.fst (Prod.fst v10)]) 268435456 then
            some (((Prod.fst (Prod.fst v9) ++ [Prod.fst (Prod.fst v10)], Go.IntKind.wrap Go.IntKind.i64 ((↑(List.length p0) : Int) + 1), 0, ()), ()))
           else
            none
   else
    obind (R.spec_l03Commit K p0 p1) fun v4 =>
     bif !Prod.fst (Prod.fst v4) then
      some ((([], 0, 1, ()), ()))
     else
      bif (↑(List.length p0) : Int) == 60 then
       obind (R.spec_l03Copy K p0) fun v7 =>
        some (((Prod.fst (Prod.fst v7), 0, 7, ()), ()))
      else
       obind (R.spec_l03Copy K p0) fun v7 =>
        obind (R.spec_l03Own K p1) fun v8 =>
         bif Nat.ble (List.length (Prod.fst (Prod.fst v7)) + List.length [Prod.fst (Prod.fst v8)]) 268435456 then
          some (((Prod.fst (Prod.fst v7) ++ [Prod.fst (Prod.fst v8)], Go.IntKind.wrap Go.IntKind.i64 ((↑(List.length p0) : Int) + 1), 0, ()), ()))
         else
          none

noncomputable def R.impl_isList_impl_Commit (K : Nat) (p0 : List ((List (Int)) × (List ((List UInt8) × (Int))))) : Option (((Bool) × Unit) × Unit) :=
  some (((Decidable.decide ((↑(List.length p0) : Int) ≤ 4096), ()), ()))

noncomputable def R.impl_within (K : Nat) (p0 : Int) (p1 : Int) (p2 : Int) : Option (((Bool) × Unit) × Unit) :=
  bif Decidable.decide (p1 ≤ p0) then
   some (((Decidable.decide (p0 ≤ p2), ()), ()))
  else
   some (((Bool.false, ()), ()))

noncomputable def R.impl_isLetter (K : Nat) (p0 : Int) : Option (((Bool) × Unit) × Unit) :=
  bif Decidable.decide (p0 ≥ 97) then
   bif Decidable.decide (p0 ≤ 122) then
    some (((Bool.true, ()), ()))
   else
    bif Decidable.decide (p0 ≥ 65) then
     bif Decidable.decide (p0 ≤ 90) then
      some (((Bool.true, ()), ()))
     else
      some (((p0 == 95, ()), ()))
    else
     some (((p0 == 95, ()), ()))
  else
   bif Decidable.decide (p0 ≥ 65) then
    bif Decidable.decide (p0 ≤ 90) then
     some (((Bool.true, ()), ()))
    else
     some (((p0 == 95, ()), ()))
   else
    some (((p0 == 95, ()), ()))

noncomputable def R.impl_isDigit (K : Nat) (p0 : Int) : Option (((Bool) × Unit) × Unit) :=
  bif Decidable.decide (p0 ≥ 48) then
   some (((Decidable.decide (p0 ≤ 57), ()), ()))
  else
   some (((Bool.false, ()), ()))

noncomputable def R.impl_NameOK_1 (K : Nat) (p0 : Int) : Option (((Bool) × Unit) × Unit) :=
  obind (R.impl_isLetter K p0) fun v2 =>
   bif Prod.fst (Prod.fst v2) then
    some (((Bool.true, ()), ()))
   else
    obind (R.impl_isDigit K p0) fun v4 =>
     some (((Prod.fst (Prod.fst v4), ()), ()))

noncomputable def R.L_impl_areAll_byte__impl_NameOK_1_0 (K : Nat) : Nat → ((List (Int)) × ((Bool) × ((List (Int)) × ((List (Int)) × ((Bool) × ((List (Int)) × ((List (Int)) × ((Int) × ((Int) × ((Int) × Unit)))))))))) → Option (((List (Int)) × ((Bool) × ((List (Int)) × ((List (Int)) × ((Bool) × ((List (Int)) × ((Int) × Unit))))))) ⊕ ((List (Int)) × ((Bool) × ((List (Int)) × ((List (Int)) × ((Bool) × ((List (Int)) × ((Int) × Unit))))))))
  | 0, _ => none
  | n + 1, (q0, (q1, (q2, (q3, (q4, (q5, (q6, (q7, (q8, (q9, ())))))))))) =>
    bif Decidable.decide (q9 < q8) then
     bif Decidable.decide (0 ≤ q9) && Decidable.decide (q9 < (↑(List.length q6) : Int)) then
      obind (R.impl_NameOK_1 K (List.getD q6 (Int.toNat q9) 0)) fun v6 =>
       bif !Prod.fst (Prod.fst v6) then
        some (Sum.inr (q0, q1, q2, q3, q4, q5, q9, ()))
       else
        R.L_impl_areAll_byte__impl_NameOK_1_0 K n (q0, q1, q2, q3, q4, q5, q6, q7, q8, Go.IntKind.wrap Go.IntKind.i64 (q9 + 1), ())
     else
      none
    else
     some (Sum.inl (q0, q1, q2, q3, q4, q5, q7, ()))

noncomputable def R.impl_areAll_byte__impl_NameOK_1 (K : Nat) (p0 : List (Int)) : Option (((Bool) × Unit) × Unit) :=
  obind (R.L_impl_areAll_byte__impl_NameOK_1_0 K K (p0, Bool.false, p0, p0, Bool.false, p0, p0, 0, (↑(List.length p0) : Int), 0, ())) fun v2 =>
   (match v2 with
   | .inl v3 =>
    some (((!Decidable.decide (-1 ≥ 0), ()), ()))
   | .inr v3 =>
    some (((!Decidable.decide (Prod.fst (Prod.snd (Prod.snd (Prod.snd (Prod.snd (Prod.snd (Prod.snd v3)))))) ≥ 0), ()), ()))
   )

noncomputable def R.impl_NameOK (K : Nat) (p0 : List UInt8) : Option (((Bool) × Unit) × Unit) :=
  obind (R.impl_within K (↑(List.length p0) : Int) 1 12) fun v2 =>
   bif Prod.fst (Prod.fst v2) then
    bif Decidable.decide (0 ≤ 0) && Decidable.decide (0 < (↑(List.length p0) : Int)) then
     obind (R.impl_isLetter K (↑(UInt8.toNat (List.getD p0 (Int.toNat 0) 0)) : Int)) fun v5 =>
      bif Prod.fst (Prod.fst v5) then
       obind (R.impl_areAll_byte__impl_NameOK_1 K (Fw.bytesIn p0)) fun v7 =>
        some (((Prod.fst (Prod.fst v7), ()), ()))
      else
       some (((Bool.false, ()), ()))
    else
     none
   else
    some (((Bool.false, ()), ()))

noncomputable def R.impl_isValue (K : Nat) (p0 : Int) : Option (((Bool) × Unit) × Unit) :=
  obind (R.impl_within K p0 (-1000000) 1000000) fun v2 =>
   some (((Prod.fst (Prod.fst v2), ()), ()))

noncomputable def R.L_impl_MapOK_0 (K : Nat) : Nat → ((List ((List UInt8) × (Int))) × ((Bool) × ((List ((List UInt8) × (Int))) × ((Int) × ((Int) × Unit))))) → Option (((List ((List UInt8) × (Int))) × ((Bool) × Unit)) ⊕ ((Bool) × Unit))
  | 0, _ => none
  | n + 1, (q0, (q1, (q2, (q3, (q4, ()))))) =>
    bif Decidable.decide (q4 < q3) then
     bif Decidable.decide (0 ≤ q4) && Decidable.decide (q4 < (↑(List.length q2) : Int)) then
      obind (R.impl_NameOK K (Prod.fst (List.getD q2 (Int.toNat q4) ([], 0)))) fun v6 =>
       bif !Prod.fst (Prod.fst v6) then
        some (Sum.inr (Bool.false, ()))
       else
        obind (R.impl_isValue K (Prod.snd (List.getD q2 (Int.toNat q4) ([], 0)))) fun v8 =>
         bif !Prod.fst (Prod.fst v8) then
          some (Sum.inr (Bool.false, ()))
         else
          bif Decidable.decide (q4 > 0) then
           bif Decidable.decide (0 ≤ Go.IntKind.wrap Go.IntKind.i64 (q4 - 1)) && Decidable.decide (Go.IntKind.wrap Go.IntKind.i64 (q4 - 1) < (↑(List.length q0) : Int)) then
            bif !Fw.sless (Prod.fst (List.getD q0 (Int.toNat (Go.IntKind.wrap Go.IntKind.i64 (q4 - 1))) ([], 0))) (Prod.fst (List.getD q2 (Int.toNat q4) ([], 0))) then
             some (Sum.inr (Bool.false, ()))
            else
             R.L_impl_MapOK_0 K n (q0, q1, q2, q3, Go.IntKind.wrap Go.IntKind.i64 (q4 + 1), ())
           else
            none
          else
           R.L_impl_MapOK_0 K n (q0, q1, q2, q3, Go.IntKind.wrap Go.IntKind.i64 (q4 + 1), ())
     else
      none
    else
     some (Sum.inl (q0, q1, ()))

noncomputable def R.impl_MapOK (K : Nat) (p0 : List ((List UInt8) × (Int))) : Option (((Bool) × Unit) × Unit) :=
  obind (R.L_impl_MapOK_0 K K (p0, Bool.false, p0, (↑(List.length p0) : Int), 0, ())) fun v2 =>
   (match v2 with
   | .inl v3 =>
    some (((Decidable.decide ((↑(List.length (Prod.fst v3)) : Int) ≤ 12), ()), ()))
   | .inr v3 =>
    some (((Prod.fst v3, ()), ()))
   )

noncomputable def R.L_impl_areAll_int__impl_Commit_isAt_1_0 (K : Nat) : Nat → ((List (Int)) × ((Int) × ((Bool) × ((List (Int)) × ((List (Int)) × ((Bool) × ((List (Int)) × ((List (Int)) × ((Int) × ((Int) × ((Int) × ((Int) × Unit)))))))))))) → Option (((List (Int)) × ((Int) × ((Bool) × ((List (Int)) × ((List (Int)) × ((Bool) × ((List (Int)) × ((Int) × ((Int) × Unit))))))))) ⊕ ((List (Int)) × ((Int) × ((Bool) × ((List (Int)) × ((List (Int)) × ((Bool) × ((List (Int)) × ((Int) × ((Int) × Unit))))))))))
  | 0, _ => none
  | n + 1, (q0, (q1, (q2, (q3, (q4, (q5, (q6, (q7, (q8, (q9, (q10, (q11, ())))))))))))) =>
    bif Decidable.decide (q10 < q9) then
     bif Decidable.decide (0 ≤ q10) && Decidable.decide (q10 < (↑(List.length q7) : Int)) then
      obind (R.impl_within K (List.getD q7 (Int.toNat q10) 0) 1 (Go.IntKind.wrap Go.IntKind.i64 (q11 - 1))) fun v6 =>
       bif !Prod.fst (Prod.fst v6) then
        some (Sum.inr (q0, q1, q2, q3, q4, q5, q6, q10, q11, ()))
       else
        R.L_impl_areAll_int__impl_Commit_isAt_1_0 K n (q0, q1, q2, q3, q4, q5, q6, q7, q8, q9, Go.IntKind.wrap Go.IntKind.i64 (q10 + 1), q11, ())
     else
      none
    else
     some (Sum.inl (q0, q1, q2, q3, q4, q5, q6, q8, q11, ()))

noncomputable def R.impl_areAll_int__impl_Commit_isAt_1 (K : Nat) (p0 : List (Int)) (p1_0 : Int) : Option (((Bool) × Unit) × Unit) :=
  obind (R.L_impl_areAll_int__impl_Commit_isAt_1_0 K K (p0, p1_0, Bool.false, p0, p0, Bool.false, p0, p0, 0, (↑(List.length p0) : Int), 0, p1_0, ())) fun v2 =>
   (match v2 with
   | .inl v3 =>
    some (((!Decidable.decide (-1 ≥ 0), ()), ()))
   | .inr v3 =>
    some (((!Decidable.decide (Prod.fst (Prod.snd (Prod.snd (Prod.snd (Prod.snd (Prod.snd (Prod.snd (Prod.snd v3))))))) ≥ 0), ()), ()))
   )

noncomputable def R.impl_Commit_isAt (K : Nat) (p0 : (List (Int)) × (List ((List UInt8) × (Int)))) (p1 : Int) : Option (((Bool) × Unit) × Unit) :=
  obind (R.impl_MapOK K (Prod.snd p0)) fun v2 =>
   bif !Prod.fst (Prod.fst v2) then
    some (((Bool.false, ()), ()))
   else
    bif Decidable.decide ((↑(List.length (Prod.fst p0)) : Int) > 2) then
     some (((Bool.false, ()), ()))
    else
     bif !((↑(List.length (Prod.fst p0)) : Int) == 0) == (p1 == 1) then
      some (((Bool.false, ()), ()))
     else
      bif (↑(List.length (Prod.fst p0)) : Int) == 2 then
       bif Decidable.decide (0 ≤ 0) && Decidable.decide (0 < (↑(List.length (Prod.fst p0)) : Int)) then
        bif Decidable.decide (0 ≤ 1) && Decidable.decide (1 < (↑(List.length (Prod.fst p0)) : Int)) then
         bif List.getD (Prod.fst p0) (Int.toNat 0) 0 == List.getD (Prod.fst p0) (Int.toNat 1) 0 then
          some (((Bool.false, ()), ()))
         else
          obind (R.impl_areAll_int__impl_Commit_isAt_1 K (Prod.fst p0) p1) fun v10 =>
           some (((Prod.fst (Prod.fst v10), ()), ()))
        else
         none
       else
        none
      else
       obind (R.impl_areAll_int__impl_Commit_isAt_1 K (Prod.fst p0) p1) fun v7 =>
        some (((Prod.fst (Prod.fst v7), ()), ()))

noncomputable def R.L_impl_areCommits_0 (K : Nat) : Nat → ((List ((List (Int)) × (List ((List UInt8) × (Int))))) × ((Bool) × ((List ((List (Int)) × (List ((List UInt8) × (Int))))) × ((Int) × ((Int) × Unit))))) → Option (((List ((List (Int)) × (List ((List UInt8) × (Int))))) × ((Bool) × Unit)) ⊕ ((Bool) × Unit))
  | 0, _ => none
  | n + 1, (q0, (q1, (q2, (q3, (q4, ()))))) =>
    bif Decidable.decide (q4 < q3) then
     bif Decidable.decide (0 ≤ q4) && Decidable.decide (q4 < (↑(List.length q2) : Int)) then
      obind (R.impl_Commit_isAt K (List.getD q2 (Int.toNat q4) ([], [])) (Go.IntKind.wrap Go.IntKind.i64 (q4 + 1))) fun v6 =>
       bif !Prod.fst (Prod.fst v6) then
        some (Sum.inr (Bool.false, ()))
       else
        R.L_impl_areCommits_0 K n (q0, q1, q2, q3, Go.IntKind.wrap Go.IntKind.i64 (q4 + 1), ())
     else
      none
    else
     some (Sum.inl (q0, q1, ()))

noncomputable def R.impl_areCommits (K : Nat) (p0 : List ((List (Int)) × (List ((List UInt8) × (Int))))) : Option (((Bool) × Unit) × Unit) :=
  obind (R.L_impl_areCommits_0 K K (p0, Bool.false, p0, (↑(List.length p0) : Int), 0, ())) fun v2 =>
   (match v2 with
   | .inl v3 =>
    some (((Decidable.decide ((↑(List.length (Prod.fst v3)) : Int) ≤ 60), ()), ()))
   | .inr v3 =>
    some (((Prod.fst v3, ()), ()))
   )

noncomputable def R.slices_Clone_int (K : Nat) (p0 : List (Int)) : Option (((List (Int)) × Unit) × Unit) :=
  bif List.isEmpty p0 then
   Fw.alt (
    some ((([], ()), ()))
   ) (
    bif Nat.ble (0 + List.length p0) 268435456 then
     some (((p0, ()), ()))
    else
     none
   )
  else
   bif Nat.ble (0 + List.length p0) 268435456 then
    some (((p0, ()), ()))
   else
    none

noncomputable def R.slices_Clone_impl_Entry (K : Nat) (p0 : List ((List UInt8) × (Int))) : Option (((List ((List UInt8) × (Int))) × Unit) × Unit) :=
  bif List.isEmpty p0 then
   Fw.alt (
    some ((([], ()), ()))
   ) (
    bif Nat.ble (0 + List.length p0) 268435456 then
     some (((p0, ()), ()))
    else
     none
   )
  else
   bif Nat.ble (0 + List.length p0) 268435456 then
    some (((p0, ()), ()))
   else
    none

noncomputable def R.impl_Commit_own (K : Nat) (p0 : (List (Int)) × (List ((List UInt8) × (Int)))) : Option ((((List (Int)) × (List ((List UInt8) × (Int)))) × Unit) × Unit) :=
  obind (R.slices_Clone_int K (Prod.fst p0)) fun v2 =>
   obind (R.slices_Clone_impl_Entry K (Prod.snd p0)) fun v3 =>
    some ((((Prod.fst (Prod.fst v2), Prod.fst (Prod.fst v3)), ()), ()))

noncomputable def R.L_impl_ownStore_0 (K : Nat) : Nat → ((List ((List (Int)) × (List ((List UInt8) × (Int))))) × ((Int) × ((Int) × ((List ((List (Int)) × (List ((List UInt8) × (Int))))) × ((List ((List (Int)) × (List ((List UInt8) × (Int))))) × Unit))))) → Option (((List ((List (Int)) × (List ((List UInt8) × (Int))))) × ((List ((List (Int)) × (List ((List UInt8) × (Int))))) × Unit)) ⊕ Unit)
  | 0, _ => none
  | n + 1, (q0, (q1, (q2, (q3, (q4, ()))))) =>
    bif Decidable.decide (q2 < q1) then
     bif Decidable.decide (0 ≤ q2) && Decidable.decide (q2 < (↑(List.length q0) : Int)) then
      obind (R.impl_Commit_own K (List.getD q0 (Int.toNat q2) ([], []))) fun v6 =>
       bif Nat.ble (List.length q4 + List.length [Prod.fst (Prod.fst v6)]) 268435456 then
        R.L_impl_ownStore_0 K n (q0, q1, Go.IntKind.wrap Go.IntKind.i64 (q2 + 1), q3, q4 ++ [Prod.fst (Prod.fst v6)], ())
       else
        none
     else
      none
    else
     some (Sum.inl (q3, q4, ()))

noncomputable def R.impl_ownStore (K : Nat) (p0 : List ((List (Int)) × (List ((List UInt8) × (Int))))) : Option (((List ((List (Int)) × (List ((List UInt8) × (Int))))) × Unit) × Unit) :=
  obind (R.L_impl_ownStore_0 K K (p0, (↑(List.length p0) : Int), 0, [], [], ())) fun v2 =>
   (match v2 with
   | .inl v3 =>
    some (((Prod.fst (Prod.snd v3), ()), ()))
   | .inr v3 =>
    none
   )

noncomputable def R.impl_AddCommit (K : Nat) (p0 : List ((List (Int)) × (List ((List UInt8) × (Int))))) (p1 : (List (Int)) × (List ((List UInt8) × (Int)))) : Option (((List ((List (Int)) × (List ((List UInt8) × (Int))))) × ((Int) × ((Int) × Unit))) × Unit) :=
  bif !Decidable.decide ((↑(List.length p0) : Int) ≤ 4096) then
   some ((([], 0, 2, ()), ()))
  else
   obind (R.impl_areCommits K p0) fun v3 =>
    bif !Prod.fst (Prod.fst v3) then
     some ((([], 0, 1, ()), ()))
    else
     obind (R.impl_Commit_isAt K p1 (Go.IntKind.wrap Go.IntKind.i64 ((↑(List.length p0) : Int) + 1))) fun v5 =>
      bif !Prod.fst (Prod.fst v5) then
       some ((([], 0, 1, ()), ()))
      else
       bif (↑(List.length p0) : Int) == 60 then
        obind (R.impl_ownStore K p0) fun v8 =>
         some (((Prod.fst (Prod.fst v8), 0, 7, ()), ()))
       else
        obind (R.impl_ownStore K p0) fun v8 =>
         obind (R.impl_Commit_own K p1) fun v9 =>
          bif Nat.ble (List.length (Prod.fst (Prod.fst v8)) + List.length [Prod.fst (Prod.fst v9)]) 268435456 then
           some (((Prod.fst (Prod.fst v8) ++ [Prod.fst (Prod.fst v9)], Go.IntKind.wrap Go.IntKind.i64 ((↑(List.length p0) : Int) + 1), 0, ()), ()))
          else
           none

noncomputable def R.L_laws_eqIntS_0 (K : Nat) : Nat → ((List (Int)) × ((List (Int)) × ((Bool) × ((Int) × Unit)))) → Option (((Bool) × Unit) ⊕ ((Bool) × Unit))
  | 0, _ => none
  | n + 1, (q0, (q1, (q2, (q3, ())))) =>
    bif Decidable.decide (q3 < (↑(List.length q0) : Int)) then
     bif Decidable.decide (0 ≤ q3) && Decidable.decide (q3 < (↑(List.length q0) : Int)) then
      bif Decidable.decide (0 ≤ q3) && Decidable.decide (q3 < (↑(List.length q1) : Int)) then
       bif List.getD q0 (Int.toNat q3) 0 != List.getD q1 (Int.toNat q3) 0 then
        some (Sum.inr (Bool.false, ()))
       else
        R.L_laws_eqIntS_0 K n (q0, q1, q2, Go.IntKind.wrap Go.IntKind.i64 (q3 + 1), ())
      else
       none
     else
      none
    else
     some (Sum.inl (q2, ()))

noncomputable def R.laws_eqIntS (K : Nat) (p0 : List (Int)) (p1 : List (Int)) : Option (((Bool) × Unit) × Unit) :=
  bif (↑(List.length p0) : Int) != (↑(List.length p1) : Int) then
   some (((Bool.false, ()), ()))
  else
   obind (R.L_laws_eqIntS_0 K K (p0, p1, Bool.false, 0, ())) fun v3 =>
    (match v3 with
    | .inl v4 =>
     some (((Bool.true, ()), ()))
    | .inr v4 =>
     some (((Prod.fst v4, ()), ()))
    )

noncomputable def R.laws_eqEntry (K : Nat) (p0 : (List UInt8) × (Int)) (p1 : (List UInt8) × (Int)) : Option (((Bool) × Unit) × Unit) :=
  bif !Prod.fst p0 == Prod.fst p1 then
   some (((Bool.false, ()), ()))
  else
   bif Prod.snd p0 != Prod.snd p1 then
    some (((Bool.false, ()), ()))
   else
    some (((Bool.true, ()), ()))

noncomputable def R.L_laws_eqEntryS_0 (K : Nat) : Nat → ((List ((List UInt8) × (Int))) × ((List ((List UInt8) × (Int))) × ((Bool) × ((Int) × Unit)))) → Option (((Bool) × Unit) ⊕ ((Bool) × Unit))
  | 0, _ => none
  | n + 1, (q0, (q1, (q2, (q3, ())))) =>
    bif Decidable.decide (q3 < (↑(List.length q0) : Int)) then
     bif Decidable.decide (0 ≤ q3) && Decidable.decide (q3 < (↑(List.length q0) : Int)) then
      bif Decidable.decide (0 ≤ q3) && Decidable.decide (q3 < (↑(List.length q1) : Int)) then
       obind (R.laws_eqEntry K (List.getD q0 (Int.toNat q3) ([], 0)) (List.getD q1 (Int.toNat q3) ([], 0))) fun v7 =>
        bif !Prod.fst (Prod.fst v7) then
         some (Sum.inr (Bool.false, ()))
        else
         R.L_laws_eqEntryS_0 K n (q0, q1, q2, Go.IntKind.wrap Go.IntKind.i64 (q3 + 1), ())
      else
       none
     else
      none
    else
     some (Sum.inl (q2, ()))

noncomputable def R.laws_eqEntryS (K : Nat) (p0 : List ((List UInt8) × (Int))) (p1 : List ((List UInt8) × (Int))) : Option (((Bool) × Unit) × Unit) :=
  bif (↑(List.length p0) : Int) != (↑(List.length p1) : Int) then
   some (((Bool.false, ()), ()))
  else
   obind (R.L_laws_eqEntryS_0 K K (p0, p1, Bool.false, 0, ())) fun v3 =>
    (match v3 with
    | .inl v4 =>
     some (((Bool.true, ()), ()))
    | .inr v4 =>
     some (((Prod.fst v4, ()), ()))
    )

noncomputable def R.laws_eqCommit (K : Nat) (p0 : (List (Int)) × (List ((List UInt8) × (Int)))) (p1 : (List (Int)) × (List ((List UInt8) × (Int)))) : Option (((Bool) × Unit) × Unit) :=
  obind (R.laws_eqIntS K (Prod.fst p0) (Prod.fst p1)) fun v2 =>
   bif !Prod.fst (Prod.fst v2) then
    some (((Bool.false, ()), ()))
   else
    obind (R.laws_eqEntryS K (Prod.snd p0) (Prod.snd p1)) fun v4 =>
     bif !Prod.fst (Prod.fst v4) then
      some (((Bool.false, ()), ()))
     else
      some (((Bool.true, ()), ()))

noncomputable def R.L_laws_eqCommitS_0 (K : Nat) : Nat → ((List ((List (Int)) × (List ((List UInt8) × (Int))))) × ((List ((List (Int)) × (List ((List UInt8) × (Int))))) × ((Bool) × ((Int) × Unit)))) → Option (((Bool) × Unit) ⊕ ((Bool) × Unit))
  | 0, _ => none
  | n + 1, (q0, (q1, (q2, (q3, ())))) =>
    bif Decidable.decide (q3 < (↑(List.length q0) : Int)) then
     bif Decidable.decide (0 ≤ q3) && Decidable.decide (q3 < (↑(List.length q0) : Int)) then
      bif Decidable.decide (0 ≤ q3) && Decidable.decide (q3 < (↑(List.length q1) : Int)) then
       obind (R.laws_eqCommit K (List.getD q0 (Int.toNat q3) ([], [])) (List.getD q1 (Int.toNat q3) ([], []))) fun v7 =>
        bif !Prod.fst (Prod.fst v7) then
         some (Sum.inr (Bool.false, ()))
        else
         R.L_laws_eqCommitS_0 K n (q0, q1, q2, Go.IntKind.wrap Go.IntKind.i64 (q3 + 1), ())
      else
       none
     else
      none
    else
     some (Sum.inl (q2, ()))

noncomputable def R.laws_eqCommitS (K : Nat) (p0 : List ((List (Int)) × (List ((List UInt8) × (Int))))) (p1 : List ((List (Int)) × (List ((List UInt8) × (Int))))) : Option (((Bool) × Unit) × Unit) :=
  bif (↑(List.length p0) : Int) != (↑(List.length p1) : Int) then
   some (((Bool.false, ()), ()))
  else
   obind (R.L_laws_eqCommitS_0 K K (p0, p1, Bool.false, 0, ())) fun v3 =>
    (match v3 with
    | .inl v4 =>
     some (((Bool.true, ()), ()))
    | .inr v4 =>
     some (((Prod.fst v4, ()), ()))
    )

noncomputable def R.L_laws_markIntS_0 (K : Nat) : Nat → ((Int) × ((Int) × ((Int) × ((List (Int)) × Unit)))) → Option (((Int) × ((Int) × ((List (Int)) × Unit))) ⊕ Unit)
  | 0, _ => none
  | n + 1, (q0, (q1, (q2, (q3, ())))) =>
    bif Decidable.decide (q2 < (↑(List.length q3) : Int)) then
     bif Decidable.decide (0 ≤ q2) && Decidable.decide (q2 < (↑(List.length q3) : Int)) then
      R.L_laws_markIntS_0 K n (Go.IntKind.wrap Go.IntKind.i64 (q0 + 1), q1, Go.IntKind.wrap Go.IntKind.i64 (q2 + 1), List.set q3 (Int.toNat q2) q0, ())
     else
      none
    else
     some (Sum.inl (q0, q1, q3, ()))

noncomputable def R.laws_markIntS (K : Nat) (p0 : List (Int)) (p1 : Int) : Option (((Int) × Unit) × ((List (Int)) × Unit)) :=
  obind (R.L_laws_markIntS_0 K K (p1, 0, 0, p0, ())) fun v2 =>
   (match v2 with
   | .inl v3 =>
    some (((Prod.fst v3, ()), Prod.fst (Prod.snd (Prod.snd v3)), ()))
   | .inr v3 =>
    none
   )

noncomputable def R.L_laws_markText_0 (K : Nat) : Nat → ((Int) × ((List UInt8) × ((List UInt8) × Unit))) → Option (((List UInt8) × ((List UInt8) × Unit)) ⊕ Unit)
  | 0, _ => none
  | n + 1, (q0, (q1, (q2, ()))) =>
    bif Decidable.decide (q0 > 0) then
     bif Nat.ble (List.length (Fw.bytesOut [Go.IntKind.wrap Go.IntKind.u8 (Go.IntKind.wrap Go.IntKind.i64 (48 + Int.tmod q0 10))]) + List.length q2) 268435456 then
      R.L_laws_markText_0 K n (Go.IntKind.wrap Go.IntKind.i64 (Int.tdiv q0 10), q1, Fw.bytesOut [Go.IntKind.wrap Go.IntKind.u8 (Go.IntKind.wrap Go.IntKind.i64 (48 + Int.tmod q0 10))] ++ q2, ())
     else
      none
    else
     some (Sum.inl (q1, q2, ()))

noncomputable def R.laws_markText (K : Nat) (p0 : Int) : Option (((List UInt8) × Unit) × Unit) :=
  bif Decidable.decide (p0 ≤ 0) then
   some (((Array.toList (ByteArray.data (ByteArray.mk #[109, 48])), ()), ()))
  else
   obind (R.L_laws_markText_0 K K (p0, Array.toList (ByteArray.data (ByteArray.mk #[])), Array.toList (ByteArray.data (ByteArray.mk #[])), ())) fun v3 =>
    (match v3 with
    | .inl v4 =>
     bif Nat.ble (List.length (Array.toList (ByteArray.data (ByteArray.mk #[109]))) + List.length (Prod.fst (Prod.snd v4))) 268435456 then
      some (((Array.toList (ByteArray.data (ByteArray.mk #[109])) ++ Prod.fst (Prod.snd v4), ()), ()))
     else
      none
    | .inr v4 =>
     none
    )

noncomputable def R.L_laws_markEntryS_0 (K : Nat) : Nat → ((Int) × ((Int) × ((Int) × ((List ((List UInt8) × (Int))) × Unit)))) → Option (((Int) × ((Int) × ((List ((List UInt8) × (Int))) × Unit))) ⊕ Unit)
  | 0, _ => none
  | n + 1, (q0, (q1, (q2, (q3, ())))) =>
    bif Decidable.decide (q2 < (↑(List.length q3) : Int)) then
     obind (R.laws_markText K q0) fun v5 =>
      bif Decidable.decide (0 ≤ q2) && Decidable.decide (q2 < (↑(List.length q3) : Int)) then
       bif Decidable.decide (0 ≤ q2) && Decidable.decide (q2 < (↑(List.length (List.set q3 (Int.toNat q2) (Prod.fst (Prod.fst v5), Prod.snd (List.getD q3 (Int.toNat q2) ([], 0))))) : Int)) then
        R.L_laws_markEntryS_0 K n (Go.IntKind.wrap Go.IntKind.i64 (Go.IntKind.wrap Go.IntKind.i64 (q0 + 1) + 1), q1, Go.IntKind.wrap Go.IntKind.i64 (q2 + 1), List.set (List.set q3 (Int.toNat q2) (Prod.fst (Prod.fst v5), Prod.snd (List.getD q3 (Int.toNat q2) ([], 0)))) (Int.toNat q2) (Prod.fst (List.getD (List.set q3 (Int.toNat q2) (Prod.fst (Prod.fst v5), Prod.snd (List.getD q3 (Int.toNat q2) ([], 0)))) (Int.toNat q2) ([], 0)), Go.IntKind.wrap Go.IntKind.i64 (q0 + 1)), ())
       else
        none
      else
       none
    else
     some (Sum.inl (q0, q1, q3, ()))

noncomputable def R.laws_markEntryS (K : Nat) (p0 : List ((List UInt8) × (Int))) (p1 : Int) : Option (((Int) × Unit) × ((List ((List UInt8) × (Int))) × Unit)) :=
  obind (R.L_laws_markEntryS_0 K K (p1, 0, 0, p0, ())) fun v2 =>
   (match v2 with
   | .inl v3 =>
    some (((Prod.fst v3, ()), Prod.fst (Prod.snd (Prod.snd v3)), ()))
   | .inr v3 =>
    none
   )

noncomputable def R.L_laws_markCommitS_0 (K : Nat) : Nat → ((Int) × ((Int) × ((Int) × ((List ((List (Int)) × (List ((List UInt8) × (Int))))) × Unit)))) → Option (((Int) × ((Int) × ((List ((List (Int)) × (List ((List UInt8) × (Int))))) × Unit))) ⊕ Unit)
  | 0, _ => none
  | n + 1, (q0, (q1, (q2, (q3, ())))) =>
    bif Decidable.decide (q2 < (↑(List.length q3) : Int)) then
     bif Decidable.decide (0 ≤ q2) && Decidable.decide (q2 < (↑(List.length q3) : Int)) then
      obind (R.laws_markIntS K (Prod.fst (List.getD q3 (Int.toNat q2) ([], []))) q0) fun v6 =>
       bif Decidable.decide (0 ≤ q2) && Decidable.decide (q2 < (↑(List.length q3) : Int)) then
        bif Nat.beq (Int.toNat q2) (Int.toNat q2) then
         obind (R.laws_markEntryS K (Prod.snd (List.getD q3 (Int.toNat q2) ([], []))) (Prod.fst (Prod.fst v6))) fun v9 =>
          R.L_laws_markCommitS_0 K n (Prod.fst (Prod.fst v9), q1, Go.IntKind.wrap Go.IntKind.i64 (q2 + 1), List.set q3 (Int.toNat q2) (Prod.fst (Prod.snd v6), Prod.fst (Prod.snd v9)), ())
        else
         none
       else
        none
     else
      none
    else
     some (Sum.inl (q0, q1, q3, ()))

noncomputable def R.laws_markCommitS (K : Nat) (p0 : List ((List (Int)) × (List ((List UInt8) × (Int))))) (p1 : Int) : Option (((Int) × Unit) × ((List ((List (Int)) × (List ((List UInt8) × (Int))))) × Unit)) :=
  obind (R.L_laws_markCommitS_0 K K (p1, 0, 0, p0, ())) fun v2 =>
   (match v2 with
   | .inl v3 =>
    some (((Prod.fst v3, ()), Prod.fst (Prod.snd (Prod.snd v3)), ()))
   | .inr v3 =>
    none
   )

noncomputable def R.laws_markCommit (K : Nat) (p0 : (List (Int)) × (List ((List UInt8) × (Int)))) (p1 : Int) : Option (((Int) × Unit) × (((List (Int)) × (List ((List UInt8) × (Int)))) × Unit)) :=
  obind (R.laws_markIntS K (Prod.fst p0) p1) fun v2 =>
   obind (R.laws_markEntryS K (Prod.snd p0) (Prod.fst (Prod.fst v2))) fun v3 =>
    some (((Prod.fst (Prod.fst v3), ()), (Prod.fst (Prod.snd v2), Prod.fst (Prod.snd v3)), ()))

noncomputable def R.L_laws_heldIntS_0 (K : Nat) : Nat → ((List (Int)) × ((Int) × ((Int) × ((Int) × Unit)))) → Option (((Int) × ((Int) × Unit)) ⊕ ((Int) × Unit))
  | 0, _ => none
  | n + 1, (q0, (q1, (q2, (q3, ())))) =>
    bif Decidable.decide (q3 < (↑(List.length q0) : Int)) then
     bif Decidable.decide (0 ≤ q3) && Decidable.decide (q3 < (↑(List.length q0) : Int)) then
      bif List.getD q0 (Int.toNat q3) 0 != q1 then
       some (Sum.inr (-1, ()))
      else
       R.L_laws_heldIntS_0 K n (q0, Go.IntKind.wrap Go.IntKind.i64 (q1 + 1), q2, Go.IntKind.wrap Go.IntKind.i64 (q3 + 1), ())
     else
      none
    else
     some (Sum.inl (q1, q2, ()))

noncomputable def R.laws_heldIntS (K : Nat) (p0 : List (Int)) (p1 : Int) : Option (((Int) × Unit) × Unit) :=
  obind (R.L_laws_heldIntS_0 K K (p0, p1, 0, 0, ())) fun v2 =>
   (match v2 with
   | .inl v3 =>
    some (((Prod.fst v3, ()), ()))
   | .inr v3 =>
    some (((Prod.fst v3, ()), ()))
   )

noncomputable def R.L_laws_heldEntryS_0 (K : Nat) : Nat → ((List ((List UInt8) × (Int))) × ((Int) × ((Int) × ((Int) × Unit)))) → Option (((Int) × ((Int) × Unit)) ⊕ ((Int) × Unit))
  | 0, _ => none
  | n + 1, (q0, (q1, (q2, (q3, ())))) =>
    bif Decidable.decide (q3 < (↑(List.length q0) : Int)) then
     bif Decidable.decide (0 ≤ q3) && Decidable.decide (q3 < (↑(List.length q0) : Int)) then
      obind (R.laws_markText K q1) fun v6 =>
       bif !Prod.fst (List.getD q0 (Int.toNat q3) ([], 0)) == Prod.fst (Prod.fst v6) then
        some (Sum.inr (-1, ()))
       else
        bif Decidable.decide (0 ≤ q3) && Decidable.decide (q3 < (↑(List.length q0) : Int)) then
         bif Prod.snd (List.getD q0 (Int.toNat q3) ([], 0)) != Go.IntKind.wrap Go.IntKind.i64 (q1 + 1) then
          some (Sum.inr (-1, ()))
         else
          R.L_laws_heldEntryS_0 K n (q0, Go.IntKind.wrap Go.IntKind.i64 (Go.IntKind.wrap Go.IntKind.i64 (q1 + 1) + 1), q2, Go.IntKind.wrap Go.IntKind.i64 (q3 + 1), ())
        else
         none
     else
      none
    else
     some (Sum.inl (q1, q2, ()))

noncomputable def R.laws_heldEntryS (K : Nat) (p0 : List ((List UInt8) × (Int))) (p1 : Int) : Option (((Int) × Unit) × Unit) :=
  obind (R.L_laws_heldEntryS_0 K K (p0, p1, 0, 0, ())) fun v2 =>
   (match v2 with
   | .inl v3 =>
    some (((Prod.fst v3, ()), ()))
   | .inr v3 =>
    some (((Prod.fst v3, ()), ()))
   )

noncomputable def R.L_laws_heldCommitS_0 (K : Nat) : Nat → ((List ((List (Int)) × (List ((List UInt8) × (Int))))) × ((Int) × ((Int) × ((Int) × Unit)))) → Option (((Int) × ((Int) × Unit)) ⊕ ((Int) × Unit))
  | 0, _ => none
  | n + 1, (q0, (q1, (q2, (q3, ())))) =>
    bif Decidable.decide (q3 < (↑(List.length q0) : Int)) then
     bif Decidable.decide (0 ≤ q3) && Decidable.decide (q3 < (↑(List.length q0) : Int)) then
      obind (R.laws_heldIntS K (Prod.fst (List.getD q0 (Int.toNat q3) ([], []))) q1) fun v6 =>
       bif Decidable.decide (Prod.fst (Prod.fst v6) < 0) then
        some (Sum.inr (-1, ()))
       else
        bif Decidable.decide (0 ≤ q3) && Decidable.decide (q3 < (↑(List.length q0) : Int)) then
         obind (R.laws_heldEntryS K (Prod.snd (List.getD q0 (Int.toNat q3) ([], []))) (Prod.fst (Prod.fst v6))) fun v9 =>
          bif Decidable.decide (Prod.fst (Prod.fst v9) < 0) then
           some (Sum.inr (-1, ()))
          else
           R.L_laws_heldCommitS_0 K n (q0, Prod.fst (Prod.fst v9), q2, Go.IntKind.wrap Go.IntKind.i64 (q3 + 1), ())
        else
         none
     else
      none
    else
     some (Sum.inl (q1, q2, ()))

noncomputable def R.laws_heldCommitS (K : Nat) (p0 : List ((List (Int)) × (List ((List UInt8) × (Int))))) (p1 : Int) : Option (((Int) × Unit) × Unit) :=
  obind (R.L_laws_heldCommitS_0 K K (p0, p1, 0, 0, ())) fun v2 =>
   (match v2 with
   | .inl v3 =>
    some (((Prod.fst v3, ()), ()))
   | .inr v3 =>
    some (((Prod.fst v3, ()), ()))
   )

noncomputable def R.laws_FnExactAddCommit (K : Nat) (p0 : List ((List (Int)) × (List ((List UInt8) × (Int))))) (p1 : (List (Int)) × (List ((List UInt8) × (Int)))) : Option (((Bool) × Unit) × Unit) :=
  obind (R.laws_szCommitS K p0 1048576) fun v2 =>
   bif Decidable.decide (Prod.fst (Prod.fst v2) < 0) then
    some (((Bool.true, ()), ()))
   else
    obind (R.laws_szCommit K p1 (Prod.fst (Prod.fst v2))) fun v4 =>
     bif Decidable.decide (Prod.fst (Prod.fst v4) < 0) then
      some (((Bool.true, ()), ()))
     else
      obind (R.laws_toCommitS K p0) fun v6 =>
       obind (R.laws_toCommit K p1) fun v7 =>
        obind (R.spec_AddCommit K (Prod.fst (Prod.fst v6)) (Prod.fst (Prod.fst v7))) fun v8 =>
         obind (R.laws_toCommitS K p0) fun v9 =>
          obind (R.laws_toCommit K p1) fun v10 =>
           obind (R.impl_AddCommit K (Prod.fst (Prod.fst v9)) (Prod.fst (Prod.fst v10))) fun v11 =>
            obind (R.laws_eqCommitS K (Prod.fst (Prod.fst v11)) (Prod.fst (Prod.fst v8))) fun v12 =>
             bif !Prod.fst (Prod.fst v12) then
              some (((Bool.false, ()), ()))
             else
              bif Prod.fst (Prod.snd (Prod.fst v11)) != Prod.fst (Prod.snd (Prod.fst v8)) then
               some (((Bool.false, ()), ()))
              else
               bif Prod.fst (Prod.snd (Prod.snd (Prod.fst v11))) != Prod.fst (Prod.snd (Prod.snd (Prod.fst v8))) then
                some (((Bool.false, ()), ()))
               else
                obind (R.laws_toCommitS K p0) fun v16 =>
                 obind (R.laws_eqCommitS K (Prod.fst (Prod.fst v9)) (Prod.fst (Prod.fst v16))) fun v17 =>
                  bif !Prod.fst (Prod.fst v17) then
                   some (((Bool.false, ()), ()))
                  else
                   obind (R.laws_toCommit K p1) fun v19 =>
                    obind (R.laws_eqCommit K (Prod.fst (Prod.fst v10)) (Prod.fst (Prod.fst v19))) fun v20 =>
                     bif !Prod.fst (Prod.fst v20) then
                      some (((Bool.false, ()), ()))
                     else
                      obind (R.laws_markCommitS K (Prod.fst (Prod.fst v9)) 1) fun v22 =>
                       obind (R.laws_markCommit K (Prod.fst (Prod.fst v10)) (Prod.fst (Prod.fst v22))) fun v23 =>
                        bif Decidable.decide (Prod.fst (Prod.fst v23) < 0) then
                         some (((Bool.false, ()), ()))
                        else
                         obind (R.laws_eqCommitS K (Prod.fst (Prod.fst v11)) (Prod.fst (Prod.fst v8))) fun v25 =>
                          bif !Prod.fst (Prod.fst v25) then
                           some (((Bool.false, ()), ()))
                          else
                           bif Prod.fst (Prod.snd (Prod.fst v11)) != Prod.fst (Prod.snd (Prod.fst v8)) then
                            some (((Bool.false, ()), ()))
                           else
                            bif Prod.fst (Prod.snd (Prod.snd (Prod.fst v11))) != Prod.fst (Prod.snd (Prod.snd (Prod.fst v8))) then
                             some (((Bool.false, ()), ()))
                            else
                             obind (R.laws_markCommitS K (Prod.fst (Prod.fst v11)) 1) fun v29 =>
                              obind (R.laws_heldCommitS K (Prod.fst (Prod.snd v29)) 1) fun v30 =>
                               bif Decidable.decide (Prod.fst (Prod.fst v30) < 0) then
                                some (((Bool.false, ()), ()))
                               else
                                bif Prod.fst (Prod.fst v30) != Prod.fst (Prod.fst v29) then
                                 some (((Bool.false, ()), ()))
                                else
                                 obind (R.laws_toCommitS K p0) fun v33 =>
                                  obind (R.laws_toCommit K p1) fun v34 =>
                                   obind (R.impl_AddCommit K (Prod.fst (Prod.fst v33)) (Prod.fst (Prod.fst v34))) fun v35 =>
                                    obind (R.laws_eqCommitS K (Prod.fst (Prod.fst v35)) (Prod.fst (Prod.fst v8))) fun v36 =>
                                     bif !Prod.fst (Prod.fst v36) then
                                      some (((Bool.false, ()), ()))
                                     else
                                      bif Prod.fst (Prod.snd (Prod.fst v35)) != Prod.fst (Prod.snd (Prod.fst v8)) then
                                       some (((Bool.false, ()), ()))
                                      else
                                       bif Prod.fst (Prod.snd (Prod.snd (Prod.fst v35))) != Prod.fst (Prod.snd (Prod.snd (Prod.fst v8))) then
                                        some (((Bool.false, ()), ()))
                                       else
                                        obind (R.laws_heldCommitS K (Prod.fst (Prod.snd v29)) 1) fun v40 =>
                                         bif Decidable.decide (Prod.fst (Prod.fst v40) < 0) then
                                          some (((Bool.false, ()), ()))
                                         else
                                          bif Prod.fst (Prod.fst v40) != Prod.fst (Prod.fst v29) then
                                           some (((Bool.false, ()), ()))
                                          else
                                           some (((Bool.true, ()), ()))

end Go.Proofs
