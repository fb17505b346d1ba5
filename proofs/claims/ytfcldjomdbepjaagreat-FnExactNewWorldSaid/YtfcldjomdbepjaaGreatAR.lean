/- What the functions come to, printed by a program of the prover's own. -/
import Derived.Test.YtfcldjomdbepjaaGreatFwZg
set_option linter.all false
namespace Go.Proofs
open Go Fw
set_option maxRecDepth 100000
abbrev R.T0 : Type := (List ((List UInt8) × ((Int) × (Bool))))
abbrev R.T1 : Type := ((List ((Int) × ((Int) × (Bool)))) × Unit)
abbrev R.T2 : Type := (((Int) × ((Int) × Unit)) ⊕ ((Int) × Unit))
abbrev R.T3 : Type := ((List UInt8) × ((Int) × ((Int) × (Bool))))
abbrev R.T4 : Type := ((Int) × (List ((Int) × ((Int) × (Bool)))))
abbrev R.T5 : Type := (List UInt8 × Int × List (Int × Int × Bool))
abbrev R.T6 : Type := ((List (Int)) × (List ((List UInt8) × (Int))))
abbrev R.T7 : Type := (R.T0 × Unit)
abbrev R.T8 : Type := ((Int) × ((Int) × (List ((List UInt8) × (Int)))))
abbrev R.T9 : Type := (List R.T3)
abbrev R.T10 : Type := (List R.T6)
abbrev R.T11 : Type := ((List (List UInt8)) × (List ((List UInt8) × (Int))))
abbrev R.T12 : Type := (R.T6 × Unit)
abbrev R.T13 : Type := ((List UInt8) × R.T0)
abbrev R.T14 : Type := (R.T9 × Unit)
abbrev R.T15 : Type := ((Int) × R.T8)
abbrev R.T16 : Type := ((List UInt8) × R.T4)
abbrev R.T17 : Type := (R.T10 × Unit)
abbrev R.T18 : Type := ((Int) × R.T11)
abbrev R.T19 : Type := (R.T12 × Unit)
abbrev R.T20 : Type := (List R.T16)
abbrev R.T21 : Type := ((Int) × R.T15)
abbrev R.T22 : Type := (Int × Int × List UInt8 × List UInt8 × List (List UInt8 × Int × Bool))
abbrev R.T23 : Type := (R.T17 × Unit)
abbrev R.T24 : Type := ((Int) × R.T18)
abbrev R.T25 : Type := ((List UInt8) × R.T13)
abbrev R.T26 : Type := (R.T20 × Unit)
abbrev R.T27 : Type := (Int × List UInt8 × List UInt8 × List UInt8 × List (List UInt8 × Int × Bool))
abbrev R.T28 : Type := ((Int) × R.T21)
abbrev R.T29 : Type := ((Int) × R.T24)
abbrev R.T30 : Type := ((Int) × R.T25)
abbrev R.T31 : Type := (R.T9 × ((Int) × ((Int) × ((Int) × Unit))))
abbrev R.T32 : Type := ((Int) × R.T28)
abbrev R.T33 : Type := ((List UInt8) × R.T25)
abbrev R.T34 : Type := ((Int) × R.T30)
abbrev R.T35 : Type := ((Int) × R.T32)
abbrev R.T36 : Type := ((Int) × R.T33)
abbrev R.T37 : Type := (List R.T36)
abbrev R.T38 : Type := (R.T10 × R.T9)
abbrev R.T39 : Type := (List R.T37)
abbrev R.T40 : Type := (R.T38 × Unit)
abbrev R.T41 : Type := (R.T37 × Unit)
abbrev R.T42 : Type := (R.T10 × R.T17)
abbrev R.T43 : Type := (R.T39 × Unit)
abbrev R.T44 : Type := (R.T40 × Unit)
abbrev R.T45 : Type := (R.T41 × Unit)
abbrev R.T46 : Type := ((Int) × R.T40)
abbrev R.T47 : Type := (R.T42 ⊕ Unit)
abbrev R.T48 : Type := ((Int) × R.T42)
abbrev R.T49 : Type := (R.T37 × ((Int) × ((Int) × ((Int) × Unit))))
abbrev R.T50 : Type := (List R.T27 × Int × Int × Int × Int × Int × Int × Int × List (List UInt8 × Int))
abbrev R.T51 : Type := (Int × Int × Int × R.T22 × Int × Int × Int × List (List UInt8) × List (List UInt8 × Int))
abbrev R.T52 : Type := (R.T34 × R.T29)
abbrev R.T53 : Type := ((Int) × R.T52)
abbrev R.T54 : Type := ((Int) × R.T53)
abbrev R.T55 : Type := (R.T37 × R.T35)
abbrev R.T56 : Type := ((Int) × R.T54)
abbrev R.T57 : Type := (List R.T55)
abbrev R.T58 : Type := (List R.T56)
abbrev R.T59 : Type := (R.T58 × Unit)
abbrev R.T60 : Type := (R.T57 × Unit)
abbrev R.T61 : Type := (R.T58 × (Int))
abbrev R.T62 : Type := (R.T37 × R.T41)
abbrev R.T63 : Type := (R.T62 ⊕ Unit)
abbrev R.T64 : Type := ((Int) × R.T62)
abbrev R.T65 : Type := (R.T20 × R.T59)
abbrev R.T66 : Type := (R.T20 × R.T61)
abbrev R.T67 : Type := (R.T57 × R.T65)
abbrev R.T68 : Type := (R.T57 × R.T66)
abbrev R.T69 : Type := (R.T9 × R.T67)
abbrev R.T70 : Type := (R.T10 × R.T69)
abbrev R.T71 : Type := (R.T38 × R.T68)
abbrev R.T72 : Type := (R.T71 × Unit)
abbrev R.T73 : Type := ((Int) × R.T70)
abbrev R.T74 : Type := ((Int) × R.T73)
abbrev R.T75 : Type := (R.T9 × R.T73)
abbrev R.T76 : Type := (R.T58 × R.T67)
abbrev R.T77 : Type := (R.T10 × R.T75)
abbrev R.T78 : Type := ((Int) × R.T77)
abbrev R.T79 : Type := (R.T20 × R.T76)
abbrev R.T80 : Type := (R.T58 × R.T70)
abbrev R.T81 : Type := (R.T20 × R.T80)
abbrev R.T82 : Type := (R.T57 × R.T79)
abbrev R.T83 : Type := (R.T9 × R.T82)
abbrev R.T84 : Type := (R.T10 × R.T83)
abbrev R.T85 : Type := (R.T57 × R.T81)
abbrev R.T86 : Type := ((Int) × R.T84)
abbrev R.T87 : Type := (R.T9 × R.T85)
abbrev R.T88 : Type := (R.T9 × R.T86)
abbrev R.T89 : Type := (R.T10 × R.T87)
abbrev R.T90 : Type := (R.T10 × R.T88)
abbrev R.T91 : Type := ((Int) × R.T89)
abbrev R.T92 : Type := ((Int) × R.T90)
abbrev R.T93 : Type := ((Int) × R.T91)
abbrev R.T94 : Type := ((Int) × R.T93)
abbrev R.T95 : Type := (R.T9 × R.T92)
abbrev R.T96 : Type := (R.T9 × R.T93)
abbrev R.T97 : Type := (R.T10 × R.T95)
abbrev R.T98 : Type := (R.T10 × R.T96)
abbrev R.T99 : Type := ((Int) × R.T98)
abbrev R.T100 : Type := (R.T58 × R.T94)
abbrev R.T101 : Type := (R.T20 × R.T100)
abbrev R.T102 : Type := (R.T57 × R.T101)
abbrev R.T103 : Type := (R.T9 × R.T102)
abbrev R.T104 : Type := (R.T10 × R.T103)
abbrev R.T105 : Type := ((Int) × R.T104)
noncomputable def R.laws_szIntS (K : Nat) (p0 : List (Int)) (p1 : Int) : Option (((Int) × Unit) × Unit) :=
  bif Decidable.decide (Go.IntKind.wrap Go.IntKind.i64 (p1 - (↑(List.length p0) : Int)) < 0) then
   some (((-1, ()), ()))
  else
   some (((Go.IntKind.wrap Go.IntKind.i64 (p1 - (↑(List.length p0) : Int)), ()), ()))

noncomputable def R.laws_szEntry (K : Nat) (p0 : (List UInt8) × (Int)) (p1 : Int) : Option (((Int) × Unit) × Unit) :=
  bif Decidable.decide (Go.IntKind.wrap Go.IntKind.i64 (p1 - (↑(List.length p0.1) : Int)) < 0) then
   some (((-1, ()), ()))
  else
   some (((Go.IntKind.wrap Go.IntKind.i64 (p1 - (↑(List.length p0.1) : Int)), ()), ()))

noncomputable def R.L_laws_szEntryS_0 (K : Nat) : Nat → ((List ((List UInt8) × (Int))) × ((Int) × ((Int) × ((Int) × Unit)))) → Option R.T2
  | 0, _ => none
  | n + 1, (q0, (q1, (q2, (q3, ())))) =>
    bif Decidable.decide (q3 < (↑(List.length q0) : Int)) then
     bif Decidable.decide (0 ≤ q3) && Decidable.decide (q3 < (↑(List.length q0) : Int)) then
      obind (R.laws_szEntry K (List.getD q0 (Int.toNat q3) ([], 0)) q1) fun v6 =>
       bif Decidable.decide (v6.1.1 < 0) then
        some (Sum.inr (-1, ()))
       else
        R.L_laws_szEntryS_0 K n (q0, v6.1.1, q2, Go.IntKind.wrap Go.IntKind.i64 (q3 + 1), ())
     else
      none
    else
     some (Sum.inl (q1, q2, ()))

noncomputable def R.laws_szEntryS (K : Nat) (p0 : List ((List UInt8) × (Int))) (p1 : Int) : Option (((Int) × Unit) × Unit) :=
  bif Decidable.decide (Go.IntKind.wrap Go.IntKind.i64 (p1 - (↑(List.length p0) : Int)) < 0) then
   some (((-1, ()), ()))
  else
   obind (R.L_laws_szEntryS_0 K K (p0, Go.IntKind.wrap Go.IntKind.i64 (p1 - (↑(List.length p0) : Int)), 0, 0, ())) fun v3 =>
    (match v3 with
    | .inl v4 =>
     some (((v4.1, ()), ()))
    | .inr v4 =>
     some (((v4.1, ()), ()))
    )

noncomputable def R.laws_szCommit (K : Nat) (p0 : (List (Int)) × (List ((List UInt8) × (Int)))) (p1 : Int) : Option (((Int) × Unit) × Unit) :=
  obind (R.laws_szIntS K p0.1 p1) fun v2 =>
   bif Decidable.decide (v2.1.1 < 0) then
    some (((-1, ()), ()))
   else
    obind (R.laws_szEntryS K p0.2 v2.1.1) fun v4 =>
     bif Decidable.decide (v4.1.1 < 0) then
      some (((-1, ()), ()))
     else
      some (((v4.1.1, ()), ()))

noncomputable def R.L_laws_szCommitS_0 (K : Nat) : Nat → (R.T10 × ((Int) × ((Int) × ((Int) × Unit)))) → Option R.T2
  | 0, _ => none
  | n + 1, (q0, (q1, (q2, (q3, ())))) =>
    bif Decidable.decide (q3 < (↑(List.length q0) : Int)) then
     bif Decidable.decide (0 ≤ q3) && Decidable.decide (q3 < (↑(List.length q0) : Int)) then
      obind (R.laws_szCommit K (List.getD q0 (Int.toNat q3) ([], [])) q1) fun v6 =>
       bif Decidable.decide (v6.1.1 < 0) then
        some (Sum.inr (-1, ()))
       else
        R.L_laws_szCommitS_0 K n (q0, v6.1.1, q2, Go.IntKind.wrap Go.IntKind.i64 (q3 + 1), ())
     else
      none
    else
     some (Sum.inl (q1, q2, ()))

noncomputable def R.laws_szCommitS (K : Nat) (p0 : List R.T6) (p1 : Int) : Option (((Int) × Unit) × Unit) :=
  bif Decidable.decide (Go.IntKind.wrap Go.IntKind.i64 (p1 - (↑(List.length p0) : Int)) < 0) then
   some (((-1, ()), ()))
  else
   obind (R.L_laws_szCommitS_0 K K (p0, Go.IntKind.wrap Go.IntKind.i64 (p1 - (↑(List.length p0) : Int)), 0, 0, ())) fun v3 =>
    (match v3 with
    | .inl v4 =>
     some (((v4.1, ()), ()))
    | .inr v4 =>
     some (((v4.1, ()), ()))
    )

noncomputable def R.laws_szRef (K : Nat) (p0 : (List UInt8) × ((Int) × ((Int) × (Bool)))) (p1 : Int) : Option (((Int) × Unit) × Unit) :=
  bif Decidable.decide (Go.IntKind.wrap Go.IntKind.i64 (p1 - (↑(List.length p0.1) : Int)) < 0) then
   some (((-1, ()), ()))
  else
   some (((Go.IntKind.wrap Go.IntKind.i64 (p1 - (↑(List.length p0.1) : Int)), ()), ()))

noncomputable def R.L_laws_szRefS_0 (K : Nat) : Nat → R.T31 → Option R.T2
  | 0, _ => none
  | n + 1, (q0, (q1, (q2, (q3, ())))) =>
    bif Decidable.decide (q3 < (↑(List.length q0) : Int)) then
     bif Decidable.decide (0 ≤ q3) && Decidable.decide (q3 < (↑(List.length q0) : Int)) then
      obind (R.laws_szRef K (List.getD q0 (Int.toNat q3) ([], 0, 0, Bool.false)) q1) fun v6 =>
       bif Decidable.decide (v6.1.1 < 0) then
        some (Sum.inr (-1, ()))
       else
        R.L_laws_szRefS_0 K n (q0, v6.1.1, q2, Go.IntKind.wrap Go.IntKind.i64 (q3 + 1), ())
     else
      none
    else
     some (Sum.inl (q1, q2, ()))

noncomputable def R.laws_szRefS (K : Nat) (p0 : List R.T3) (p1 : Int) : Option (((Int) × Unit) × Unit) :=
  bif Decidable.decide (Go.IntKind.wrap Go.IntKind.i64 (p1 - (↑(List.length p0) : Int)) < 0) then
   some (((-1, ()), ()))
  else
   obind (R.L_laws_szRefS_0 K K (p0, Go.IntKind.wrap Go.IntKind.i64 (p1 - (↑(List.length p0) : Int)), 0, 0, ())) fun v3 =>
    (match v3 with
    | .inl v4 =>
     some (((v4.1, ()), ()))
    | .inr v4 =>
     some (((v4.1, ()), ()))
    )

noncomputable def R.laws_szBase (K : Nat) (p0 : R.T10 × R.T9) (p1 : Int) : Option (((Int) × Unit) × Unit) :=
  obind (R.laws_szCommitS K p0.1 p1) fun v2 =>
   bif Decidable.decide (v2.1.1 < 0) then
    some (((-1, ()), ()))
   else
    obind (R.laws_szRefS K p0.2 v2.1.1) fun v4 =>
     bif Decidable.decide (v4.1.1 < 0) then
      some (((-1, ()), ()))
     else
      some (((v4.1.1, ()), ()))

noncomputable def R.laws_szEdit (K : Nat) (p0 : (List UInt8) × ((Int) × (Bool))) (p1 : Int) : Option (((Int) × Unit) × Unit) :=
  bif Decidable.decide (Go.IntKind.wrap Go.IntKind.i64 (p1 - (↑(List.length p0.1) : Int)) < 0) then
   some (((-1, ()), ()))
  else
   some (((Go.IntKind.wrap Go.IntKind.i64 (p1 - (↑(List.length p0.1) : Int)), ()), ()))

noncomputable def R.L_laws_szEditS_0 (K : Nat) : Nat → (R.T0 × ((Int) × ((Int) × ((Int) × Unit)))) → Option R.T2
  | 0, _ => none
  | n + 1, (q0, (q1, (q2, (q3, ())))) =>
    bif Decidable.decide (q3 < (↑(List.length q0) : Int)) then
     bif Decidable.decide (0 ≤ q3) && Decidable.decide (q3 < (↑(List.length q0) : Int)) then
      obind (R.laws_szEdit K (List.getD q0 (Int.toNat q3) ([], 0, Bool.false)) q1) fun v6 =>
       bif Decidable.decide (v6.1.1 < 0) then
        some (Sum.inr (-1, ()))
       else
        R.L_laws_szEditS_0 K n (q0, v6.1.1, q2, Go.IntKind.wrap Go.IntKind.i64 (q3 + 1), ())
     else
      none
    else
     some (Sum.inl (q1, q2, ()))

noncomputable def R.laws_szEditS (K : Nat) (p0 : List ((List UInt8) × ((Int) × (Bool)))) (p1 : Int) : Option (((Int) × Unit) × Unit) :=
  bif Decidable.decide (Go.IntKind.wrap Go.IntKind.i64 (p1 - (↑(List.length p0) : Int)) < 0) then
   some (((-1, ()), ()))
  else
   obind (R.L_laws_szEditS_0 K K (p0, Go.IntKind.wrap Go.IntKind.i64 (p1 - (↑(List.length p0) : Int)), 0, 0, ())) fun v3 =>
    (match v3 with
    | .inl v4 =>
     some (((v4.1, ()), ()))
    | .inr v4 =>
     some (((v4.1, ()), ()))
    )

noncomputable def R.laws_szWish (K : Nat) (p0 : (Int) × R.T33) (p1 : Int) : Option (((Int) × Unit) × Unit) :=
  bif Decidable.decide (Go.IntKind.wrap Go.IntKind.i64 (p1 - (↑(List.length p0.2.1) : Int)) < 0) then
   some (((-1, ()), ()))
  else
   bif Decidable.decide (Go.IntKind.wrap Go.IntKind.i64 (Go.IntKind.wrap Go.IntKind.i64 (p1 - (↑(List.length p0.2.1) : Int)) - (↑(List.length p0.2.2.1) : Int)) < 0) then
    some (((-1, ()), ()))
   else
    bif Decidable.decide (Go.IntKind.wrap Go.IntKind.i64 (Go.IntKind.wrap Go.IntKind.i64 (Go.IntKind.wrap Go.IntKind.i64 (p1 - (↑(List.length p0.2.1) : Int)) - (↑(List.length p0.2.2.1) : Int)) - (↑(List.length p0.2.2.2.1) : Int)) < 0) then
     some (((-1, ()), ()))
    else
     obind (R.laws_szEditS K p0.2.2.2.2 (Go.IntKind.wrap Go.IntKind.i64 (Go.IntKind.wrap Go.IntKind.i64 (Go.IntKind.wrap Go.IntKind.i64 (p1 - (↑(List.length p0.2.1) : Int)) - (↑(List.length p0.2.2.1) : Int)) - (↑(List.length p0.2.2.2.1) : Int)))) fun v5 =>
      bif Decidable.decide (v5.1.1 < 0) then
       some (((-1, ()), ()))
      else
       some (((v5.1.1, ()), ()))

noncomputable def R.L_laws_szWishS_0 (K : Nat) : Nat → R.T49 → Option R.T2
  | 0, _ => none
  | n + 1, (q0, (q1, (q2, (q3, ())))) =>
    bif Decidable.decide (q3 < (↑(List.length q0) : Int)) then
     bif Decidable.decide (0 ≤ q3) && Decidable.decide (q3 < (↑(List.length q0) : Int)) then
      obind (R.laws_szWish K (List.getD q0 (Int.toNat q3) (0, [], [], [], [])) q1) fun v6 =>
       bif Decidable.decide (v6.1.1 < 0) then
        some (Sum.inr (-1, ()))
       else
        R.L_laws_szWishS_0 K n (q0, v6.1.1, q2, Go.IntKind.wrap Go.IntKind.i64 (q3 + 1), ())
     else
      none
    else
     some (Sum.inl (q1, q2, ()))

noncomputable def R.laws_szWishS (K : Nat) (p0 : List R.T36) (p1 : Int) : Option (((Int) × Unit) × Unit) :=
  bif Decidable.decide (Go.IntKind.wrap Go.IntKind.i64 (p1 - (↑(List.length p0) : Int)) < 0) then
   some (((-1, ()), ()))
  else
   obind (R.L_laws_szWishS_0 K K (p0, Go.IntKind.wrap Go.IntKind.i64 (p1 - (↑(List.length p0) : Int)), 0, 0, ())) fun v3 =>
    (match v3 with
    | .inl v4 =>
     some (((v4.1, ()), ()))
    | .inr v4 =>
     some (((v4.1, ()), ()))
    )

noncomputable def R.L_laws_szWishSS_0 (K : Nat) : Nat → (R.T39 × ((Int) × ((Int) × ((Int) × Unit)))) → Option R.T2
  | 0, _ => none
  | n + 1, (q0, (q1, (q2, (q3, ())))) =>
    bif Decidable.decide (q3 < (↑(List.length q0) : Int)) then
     bif Decidable.decide (0 ≤ q3) && Decidable.decide (q3 < (↑(List.length q0) : Int)) then
      obind (R.laws_szWishS K (List.getD q0 (Int.toNat q3) []) q1) fun v6 =>
       bif Decidable.decide (v6.1.1 < 0) then
        some (Sum.inr (-1, ()))
       else
        R.L_laws_szWishSS_0 K n (q0, v6.1.1, q2, Go.IntKind.wrap Go.IntKind.i64 (q3 + 1), ())
     else
      none
    else
     some (Sum.inl (q1, q2, ()))

noncomputable def R.laws_szWishSS (K : Nat) (p0 : List R.T37) (p1 : Int) : Option (((Int) × Unit) × Unit) :=
  bif Decidable.decide (Go.IntKind.wrap Go.IntKind.i64 (p1 - (↑(List.length p0) : Int)) < 0) then
   some (((-1, ()), ()))
  else
   obind (R.L_laws_szWishSS_0 K K (p0, Go.IntKind.wrap Go.IntKind.i64 (p1 - (↑(List.length p0) : Int)), 0, 0, ())) fun v3 =>
    (match v3 with
    | .inl v4 =>
     some (((v4.1, ()), ()))
    | .inr v4 =>
     some (((v4.1, ()), ()))
    )

noncomputable def R.L_laws_szStringS_0 (K : Nat) : Nat → ((List (List UInt8)) × ((Int) × ((Int) × ((Int) × Unit)))) → Option R.T2
  | 0, _ => none
  | n + 1, (q0, (q1, (q2, (q3, ())))) =>
    bif Decidable.decide (q3 < (↑(List.length q0) : Int)) then
     bif Decidable.decide (0 ≤ q3) && Decidable.decide (q3 < (↑(List.length q0) : Int)) then
      bif Decidable.decide (Go.IntKind.wrap Go.IntKind.i64 (q1 - (↑(List.length (List.getD q0 (Int.toNat q3) [])) : Int)) < 0) then
       some (Sum.inr (-1, ()))
      else
       R.L_laws_szStringS_0 K n (q0, Go.IntKind.wrap Go.IntKind.i64 (q1 - (↑(List.length (List.getD q0 (Int.toNat q3) [])) : Int)), q2, Go.IntKind.wrap Go.IntKind.i64 (q3 + 1), ())
     else
      none
    else
     some (Sum.inl (q1, q2, ()))

noncomputable def R.laws_szStringS (K : Nat) (p0 : List (List UInt8)) (p1 : Int) : Option (((Int) × Unit) × Unit) :=
  bif Decidable.decide (Go.IntKind.wrap Go.IntKind.i64 (p1 - (↑(List.length p0) : Int)) < 0) then
   some (((-1, ()), ()))
  else
   obind (R.L_laws_szStringS_0 K K (p0, Go.IntKind.wrap Go.IntKind.i64 (p1 - (↑(List.length p0) : Int)), 0, 0, ())) fun v3 =>
    (match v3 with
    | .inl v4 =>
     some (((v4.1, ()), ()))
    | .inr v4 =>
     some (((v4.1, ()), ()))
    )

noncomputable def R.L_laws_toIntS_0 (K : Nat) : Nat → ((List (Int)) × ((Int) × ((List (Int)) × ((List (Int)) × Unit)))) → Option (((List (Int)) × ((List (Int)) × Unit)) ⊕ Unit)
  | 0, _ => none
  | n + 1, (q0, (q1, (q2, (q3, ())))) =>
    bif Decidable.decide (q1 < (↑(List.length q0) : Int)) then
     bif Decidable.decide (0 ≤ q1) && Decidable.decide (q1 < (↑(List.length q0) : Int)) then
      bif Decidable.decide (0 ≤ q1) && Decidable.decide (q1 < (↑(List.length q3) : Int)) then
       R.L_laws_toIntS_0 K n (q0, Go.IntKind.wrap Go.IntKind.i64 (q1 + 1), q2, List.set q3 (Int.toNat q1) (List.getD q0 (Int.toNat q1) 0), ())
      else
       none
     else
      none
    else
     some (Sum.inl (q2, q3, ()))

noncomputable def R.laws_toIntS (K : Nat) (p0 : List (Int)) : Option (((List (Int)) × Unit) × Unit) :=
  bif Decidable.decide (0 ≤ (↑(List.length p0) : Int)) && Decidable.decide ((↑(List.length p0) : Int) ≤ (↑(List.length p0) : Int)) && Decidable.decide ((↑(List.length p0) : Int) ≤ (↑268435456 : Int)) then
   obind (R.L_laws_toIntS_0 K K (p0, 0, [], List.replicate (Int.toNat (↑(List.length p0) : Int)) 0, ())) fun v3 =>
    (match v3 with
    | .inl v4 =>
     some (((v4.2.1, ()), ()))
    | .inr v4 =>
     none
    )
  else
   none

noncomputable def R.laws_toEntry (K : Nat) (p0 : (List UInt8) × (Int)) : Option ((((List UInt8) × (Int)) × Unit) × Unit) :=
  some (((p0, ()), ()))

noncomputable def R.L_laws_toEntryS_0 (K : Nat) : Nat → ((List ((List UInt8) × (Int))) × ((Int) × ((List ((List UInt8) × (Int))) × ((List ((List UInt8) × (Int))) × Unit)))) → Option (((List ((List UInt8) × (Int))) × ((List ((List UInt8) × (Int))) × Unit)) ⊕ Unit)
  | 0, _ => none
  | n + 1, (q0, (q1, (q2, (q3, ())))) =>
    bif Decidable.decide (q1 < (↑(List.length q0) : Int)) then
     bif Decidable.decide (0 ≤ q1) && Decidable.decide (q1 < (↑(List.length q0) : Int)) then
      bif Decidable.decide (0 ≤ q1) && Decidable.decide (q1 < (↑(List.length q3) : Int)) then
       R.L_laws_toEntryS_0 K n (q0, Go.IntKind.wrap Go.IntKind.i64 (q1 + 1), q2, List.set q3 (Int.toNat q1) (List.getD q0 (Int.toNat q1) ([], 0)), ())
      else
       none
     else
      none
    else
     some (Sum.inl (q2, q3, ()))

noncomputable def R.laws_toEntryS (K : Nat) (p0 : List ((List UInt8) × (Int))) : Option (((List ((List UInt8) × (Int))) × Unit) × Unit) :=
  bif Decidable.decide (0 ≤ (↑(List.length p0) : Int)) && Decidable.decide ((↑(List.length p0) : Int) ≤ (↑(List.length p0) : Int)) && Decidable.decide ((↑(List.length p0) : Int) ≤ (↑268435456 : Int)) then
   obind (R.L_laws_toEntryS_0 K K (p0, 0, [], List.replicate (Int.toNat (↑(List.length p0) : Int)) ([], 0), ())) fun v3 =>
    (match v3 with
    | .inl v4 =>
     some (((v4.2.1, ()), ()))
    | .inr v4 =>
     none
    )
  else
   none

noncomputable def R.laws_toCommit (K : Nat) (p0 : (List (Int)) × (List ((List UInt8) × (Int)))) : Option R.T19 :=
  obind (R.laws_toIntS K p0.1) fun v2 =>
   obind (R.laws_toEntryS K p0.2) fun v3 =>
    some ((((v2.1.1, v3.1.1), ()), ()))

noncomputable def R.L_laws_toCommitS_0 (K : Nat) : Nat → (R.T10 × R.T48) → Option R.T47
  | 0, _ => none
  | n + 1, (q0, (q1, (q2, (q3, ())))) =>
    bif Decidable.decide (q1 < (↑(List.length q0) : Int)) then
     bif Decidable.decide (0 ≤ q1) && Decidable.decide (q1 < (↑(List.length q0) : Int)) then
      obind (R.laws_toCommit K (List.getD q0 (Int.toNat q1) ([], []))) fun v6 =>
       bif Decidable.decide (0 ≤ q1) && Decidable.decide (q1 < (↑(List.length q3) : Int)) then
        R.L_laws_toCommitS_0 K n (q0, Go.IntKind.wrap Go.IntKind.i64 (q1 + 1), q2, List.set q3 (Int.toNat q1) v6.1.1, ())
       else
        none
     else
      none
    else
     some (Sum.inl (q2, q3, ()))

noncomputable def R.laws_toCommitS (K : Nat) (p0 : List R.T6) : Option R.T23 :=
  bif Decidable.decide (0 ≤ (↑(List.length p0) : Int)) && Decidable.decide ((↑(List.length p0) : Int) ≤ (↑(List.length p0) : Int)) && Decidable.decide ((↑(List.length p0) : Int) ≤ (↑268435456 : Int)) then
   obind (R.L_laws_toCommitS_0 K K (p0, 0, [], List.replicate (Int.toNat (↑(List.length p0) : Int)) ([], []), ())) fun v3 =>
    (match v3 with
    | .inl v4 =>
     some (((v4.2.1, ()), ()))
    | .inr v4 =>
     none
    )
  else
   none

noncomputable def R.laws_toRef (K : Nat) (p0 : (List UInt8) × ((Int) × ((Int) × (Bool)))) : Option ((R.T3 × Unit) × Unit) :=
  some (((p0, ()), ()))

noncomputable def R.L_laws_toRefS_0 (K : Nat) : Nat → (R.T9 × ((Int) × (R.T9 × R.T14))) → Option ((R.T9 × R.T14) ⊕ Unit)
  | 0, _ => none
  | n + 1, (q0, (q1, (q2, (q3, ())))) =>
    bif Decidable.decide (q1 < (↑(List.length q0) : Int)) then
     bif Decidable.decide (0 ≤ q1) && Decidable.decide (q1 < (↑(List.length q0) : Int)) then
      bif Decidable.decide (0 ≤ q1) && Decidable.decide (q1 < (↑(List.length q3) : Int)) then
       R.L_laws_toRefS_0 K n (q0, Go.IntKind.wrap Go.IntKind.i64 (q1 + 1), q2, List.set q3 (Int.toNat q1) (List.getD q0 (Int.toNat q1) ([], 0, 0, Bool.false)), ())
      else
       none
     else
      none
    else
     some (Sum.inl (q2, q3, ()))

noncomputable def R.laws_toRefS (K : Nat) (p0 : List R.T3) : Option (R.T14 × Unit) :=
  bif Decidable.decide (0 ≤ (↑(List.length p0) : Int)) && Decidable.decide ((↑(List.length p0) : Int) ≤ (↑(List.length p0) : Int)) && Decidable.decide ((↑(List.length p0) : Int) ≤ (↑268435456 : Int)) then
   obind (R.L_laws_toRefS_0 K K (p0, 0, [], List.replicate (Int.toNat (↑(List.length p0) : Int)) ([], 0, 0, Bool.false), ())) fun v3 =>
    (match v3 with
    | .inl v4 =>
     some (((v4.2.1, ()), ()))
    | .inr v4 =>
     none
    )
  else
   none

noncomputable def R.laws_toBase (K : Nat) (p0 : R.T10 × R.T9) : Option R.T44 :=
  obind (R.laws_toCommitS K p0.1) fun v2 =>
   obind (R.laws_toRefS K p0.2) fun v3 =>
    some ((((v2.1.1, v3.1.1), ()), ()))

noncomputable def R.laws_toEdit (K : Nat) (p0 : (List UInt8) × ((Int) × (Bool))) : Option ((((List UInt8) × ((Int) × (Bool))) × Unit) × Unit) :=
  some (((p0, ()), ()))

noncomputable def R.L_laws_toEditS_0 (K : Nat) : Nat → (R.T0 × ((Int) × (R.T0 × R.T7))) → Option ((R.T0 × R.T7) ⊕ Unit)
  | 0, _ => none
  | n + 1, (q0, (q1, (q2, (q3, ())))) =>
    bif Decidable.decide (q1 < (↑(List.length q0) : Int)) then
     bif Decidable.decide (0 ≤ q1) && Decidable.decide (q1 < (↑(List.length q0) : Int)) then
      bif Decidable.decide (0 ≤ q1) && Decidable.decide (q1 < (↑(List.length q3) : Int)) then
       R.L_laws_toEditS_0 K n (q0, Go.IntKind.wrap Go.IntKind.i64 (q1 + 1), q2, List.set q3 (Int.toNat q1) (List.getD q0 (Int.toNat q1) ([], 0, Bool.false)), ())
      else
       none
     else
      none
    else
     some (Sum.inl (q2, q3, ()))

noncomputable def R.laws_toEditS (K : Nat) (p0 : List ((List UInt8) × ((Int) × (Bool)))) : Option (R.T7 × Unit) :=
  bif Decidable.decide (0 ≤ (↑(List.length p0) : Int)) && Decidable.decide ((↑(List.length p0) : Int) ≤ (↑(List.length p0) : Int)) && Decidable.decide ((↑(List.length p0) : Int) ≤ (↑268435456 : Int)) then
   obind (R.L_laws_toEditS_0 K K (p0, 0, [], List.replicate (Int.toNat (↑(List.length p0) : Int)) ([], 0, Bool.false), ())) fun v3 =>
    (match v3 with
    | .inl v4 =>
     some (((v4.2.1, ()), ()))
    | .inr v4 =>
     none
    )
  else
   none

noncomputable def R.laws_toWish (K : Nat) (p0 : (Int) × R.T33) : Option ((R.T36 × Unit) × Unit) :=
  obind (R.laws_toEditS K p0.2.2.2.2) fun v2 =>
   some ((((p0.1, p0.2.1, p0.2.2.1, p0.2.2.2.1, v2.1.1), ()), ()))

noncomputable def R.L_laws_toWishS_0 (K : Nat) : Nat → (R.T37 × R.T64) → Option R.T63
  | 0, _ => none
  | n + 1, (q0, (q1, (q2, (q3, ())))) =>
    bif Decidable.decide (q1 < (↑(List.length q0) : Int)) then
     bif Decidable.decide (0 ≤ q1) && Decidable.decide (q1 < (↑(List.length q0) : Int)) then
      obind (R.laws_toWish K (List.getD q0 (Int.toNat q1) (0, [], [], [], []))) fun v6 =>
       bif Decidable.decide (0 ≤ q1) && Decidable.decide (q1 < (↑(List.length q3) : Int)) then
        R.L_laws_toWishS_0 K n (q0, Go.IntKind.wrap Go.IntKind.i64 (q1 + 1), q2, List.set q3 (Int.toNat q1) v6.1.1, ())
       else
        none
     else
      none
    else
     some (Sum.inl (q2, q3, ()))

noncomputable def R.laws_toWishS (K : Nat) (p0 : List R.T36) : Option R.T45 :=
  bif Decidable.decide (0 ≤ (↑(List.length p0) : Int)) && Decidable.decide ((↑(List.length p0) : Int) ≤ (↑(List.length p0) : Int)) && Decidable.decide ((↑(List.length p0) : Int) ≤ (↑268435456 : Int)) then
   obind (R.L_laws_toWishS_0 K K (p0, 0, [], List.replicate (Int.toNat (↑(List.length p0) : Int)) (0, [], [], [], []), ())) fun v3 =>
    (match v3 with
    | .inl v4 =>
     some (((v4.2.1, ()), ()))
    | .inr v4 =>
     none
    )
  else
   none

noncomputable def R.L_laws_toWishSS_0 (K : Nat) : Nat → (R.T39 × ((Int) × (R.T39 × R.T43))) → Option ((R.T39 × R.T43) ⊕ Unit)
  | 0, _ => none
  | n + 1, (q0, (q1, (q2, (q3, ())))) =>
    bif Decidable.decide (q1 < (↑(List.length q0) : Int)) then
     bif Decidable.decide (0 ≤ q1) && Decidable.decide (q1 < (↑(List.length q0) : Int)) then
      obind (R.laws_toWishS K (List.getD q0 (Int.toNat q1) [])) fun v6 =>
       bif Decidable.decide (0 ≤ q1) && Decidable.decide (q1 < (↑(List.length q3) : Int)) then
        R.L_laws_toWishSS_0 K n (q0, Go.IntKind.wrap Go.IntKind.i64 (q1 + 1), q2, List.set q3 (Int.toNat q1) v6.1.1, ())
       else
        none
     else
      none
    else
     some (Sum.inl (q2, q3, ()))

noncomputable def R.laws_toWishSS (K : Nat) (p0 : List R.T37) : Option (R.T43 × Unit) :=
  bif Decidable.decide (0 ≤ (↑(List.length p0) : Int)) && Decidable.decide ((↑(List.length p0) : Int) ≤ (↑(List.length p0) : Int)) && Decidable.decide ((↑(List.length p0) : Int) ≤ (↑268435456 : Int)) then
   obind (R.L_laws_toWishSS_0 K K (p0, 0, [], List.replicate (Int.toNat (↑(List.length p0) : Int)) [], ())) fun v3 =>
    (match v3 with
    | .inl v4 =>
     some (((v4.2.1, ()), ()))
    | .inr v4 =>
     none
    )
  else
   none

noncomputable def R.L_laws_toStringS_0 (K : Nat) : Nat → ((List (List UInt8)) × ((Int) × ((List (List UInt8)) × ((List (List UInt8)) × Unit)))) → Option (((List (List UInt8)) × ((List (List UInt8)) × Unit)) ⊕ Unit)
  | 0, _ => none
  | n + 1, (q0, (q1, (q2, (q3, ())))) =>
    bif Decidable.decide (q1 < (↑(List.length q0) : Int)) then
     bif Decidable.decide (0 ≤ q1) && Decidable.decide (q1 < (↑(List.length q0) : Int)) then
      bif Decidable.decide (0 ≤ q1) && Decidable.decide (q1 < (↑(List.length q3) : Int)) then
       R.L_laws_toStringS_0 K n (q0, Go.IntKind.wrap Go.IntKind.i64 (q1 + 1), q2, List.set q3 (Int.toNat q1) (List.getD q0 (Int.toNat q1) []), ())
      else
       none
     else
      none
    else
     some (Sum.inl (q2, q3, ()))

noncomputable def R.laws_toStringS (K : Nat) (p0 : List (List UInt8)) : Option (((List (List UInt8)) × Unit) × Unit) :=
  bif Decidable.decide (0 ≤ (↑(List.length p0) : Int)) && Decidable.decide ((↑(List.length p0) : Int) ≤ (↑(List.length p0) : Int)) && Decidable.decide ((↑(List.length p0) : Int) ≤ (↑268435456 : Int)) then
   obind (R.L_laws_toStringS_0 K K (p0, 0, [], List.replicate (Int.toNat (↑(List.length p0) : Int)) [], ())) fun v3 =>
    (match v3 with
    | .inl v4 =>
     some (((v4.2.1, ()), ()))
    | .inr v4 =>
     none
    )
  else
   none

noncomputable def R.spec_l01In (K : Nat) (p0 : Int) (p1 : Int) (p2 : Int) : Option (((Bool) × Unit) × Unit) :=
  bif Decidable.decide (p0 ≥ p1) then
   some (((Decidable.decide (p0 ≤ p2), ()), ()))
  else
   some (((Bool.false, ()), ()))

noncomputable def R.spec_l00Letter (K : Nat) (p0 : Int) : Option (((Bool) × Unit) × Unit) :=
  bif Decidable.decide (p0 ≥ 97) then
   bif Decidable.decide (p0 ≤ 122) then
    some (((Bool.true, ()), ()))
   else
    bif Decidable.decide (p0 ≥ 65) then
     bif Decidable.decide (p0 ≤ 90) then
      some (((Bool.true, ()), ()))
     else
      some (((p0 == 95, ()), ()))
    else
     some (((p0 == 95, ()), ()))
  else
   bif Decidable.decide (p0 ≥ 65) then
    bif Decidable.decide (p0 ≤ 90) then
     some (((Bool.true, ()), ()))
    else
     some (((p0 == 95, ()), ()))
   else
    some (((p0 == 95, ()), ()))

noncomputable def R.spec_l00Digit (K : Nat) (p0 : Int) : Option (((Bool) × Unit) × Unit) :=
  bif Decidable.decide (p0 ≥ 48) then
   some (((Decidable.decide (p0 ≤ 57), ()), ()))
  else
   some (((Bool.false, ()), ()))

noncomputable def R.L_spec_l00Word_0 (K : Nat) : Nat → ((List UInt8) × ((Bool) × ((Int) × Unit))) → Option (((Bool) × Unit) ⊕ ((Bool) × Unit))
  | 0, _ => none
  | n + 1, (q0, (q1, (q2, ()))) =>
    bif Decidable.decide (q2 < (↑(List.length q0) : Int)) then
     bif Decidable.decide (0 ≤ q2) && Decidable.decide (q2 < (↑(List.length q0) : Int)) then
      obind (R.spec_l00Letter K (↑(UInt8.toNat (List.getD q0 (Int.toNat q2) 0)) : Int)) fun v6 =>
       bif !v6.1.1 then
        bif Decidable.decide (0 ≤ q2) && Decidable.decide (q2 < (↑(List.length q0) : Int)) then
         obind (R.spec_l00Digit K (↑(UInt8.toNat (List.getD q0 (Int.toNat q2) 0)) : Int)) fun v9 =>
          bif !v9.1.1 then
           some (Sum.inr (Bool.false, ()))
          else
           R.L_spec_l00Word_0 K n (q0, q1, Go.IntKind.wrap Go.IntKind.i64 (q2 + 1), ())
        else
         none
       else
        R.L_spec_l00Word_0 K n (q0, q1, Go.IntKind.wrap Go.IntKind.i64 (q2 + 1), ())
     else
      none
    else
     some (Sum.inl (q1, ()))

noncomputable def R.spec_l00Word (K : Nat) (p0 : List UInt8) : Option (((Bool) × Unit) × Unit) :=
  bif Decidable.decide ((↑(List.length p0) : Int) < 1) then
   some (((Bool.false, ()), ()))
  else
   bif Decidable.decide ((↑(List.length p0) : Int) > 12) then
    some (((Bool.false, ()), ()))
   else
    bif Decidable.decide (0 ≤ 0) && Decidable.decide (0 < (↑(List.length p0) : Int)) then
     obind (R.spec_l00Letter K (↑(UInt8.toNat (List.getD p0 (Int.toNat 0) 0)) : Int)) fun v5 =>
      bif !v5.1.1 then
       some (((Bool.false, ()), ()))
      else
       obind (R.L_spec_l00Word_0 K K (p0, Bool.false, 1, ())) fun v7 =>
        (match v7 with
        | .inl v8 =>
         some (((Bool.true, ()), ()))
        | .inr v8 =>
         some (((v8.1, ()), ()))
        )
    else
     none

noncomputable def R.L_spec_l01OK_0 (K : Nat) : Nat → ((List ((List UInt8) × (Int))) × ((Bool) × ((Int) × Unit))) → Option (((Bool) × Unit) ⊕ ((Bool) × Unit))
  | 0, _ => none
  | n + 1, (q0, (q1, (q2, ()))) =>
    bif Decidable.decide (q2 < (↑(List.length q0) : Int)) then
     bif Decidable.decide (0 ≤ q2) && Decidable.decide (q2 < (↑(List.length q0) : Int)) then
      obind (R.spec_l00Word K (Prod.fst (List.getD q0 (Int.toNat q2) ([], 0)))) fun v6 =>
       bif !v6.1.1 then
        some (Sum.inr (Bool.false, ()))
       else
        bif Decidable.decide (0 ≤ q2) && Decidable.decide (q2 < (↑(List.length q0) : Int)) then
         obind (R.spec_l01In K (Prod.snd (List.getD q0 (Int.toNat q2) ([], 0))) (-1000000) 1000000) fun v9 =>
          bif !v9.1.1 then
           some (Sum.inr (Bool.false, ()))
          else
           bif Decidable.decide (q2 > 0) then
            bif Decidable.decide (0 ≤ q2) && Decidable.decide (q2 < (↑(List.length q0) : Int)) then
             bif Decidable.decide (0 ≤ Go.IntKind.wrap Go.IntKind.i64 (q2 - 1)) && Decidable.decide (Go.IntKind.wrap Go.IntKind.i64 (q2 - 1) < (↑(List.length q0) : Int)) then
              bif Fw.sless (Prod.fst (List.getD q0 (Int.toNat q2) ([], 0))) (Prod.fst (List.getD q0 (Int.toNat (Go.IntKind.wrap Go.IntKind.i64 (q2 - 1))) ([], 0))) || Prod.fst (List.getD q0 (Int.toNat q2) ([], 0)) == Prod.fst (List.getD q0 (Int.toNat (Go.IntKind.wrap Go.IntKind.i64 (q2 - 1))) ([], 0)) then
               some (Sum.inr (Bool.false, ()))
              else
               R.L_spec_l01OK_0 K n (q0, q1, Go.IntKind.wrap Go.IntKind.i64 (q2 + 1), ())
             else
              none
            else
             none
           else
            R.L_spec_l01OK_0 K n (q0, q1, Go.IntKind.wrap Go.IntKind.i64 (q2 + 1), ())
        else
         none
     else
      none
    else
     some (Sum.inl (q1, ()))

noncomputable def R.spec_l01OK (K : Nat) (p0 : List ((List UInt8) × (Int))) : Option (((Bool) × Unit) × Unit) :=
  bif Decidable.decide ((↑(List.length p0) : Int) > 12) then
   some (((Bool.false, ()), ()))
  else
   obind (R.L_spec_l01OK_0 K K (p0, Bool.false, 0, ())) fun v3 =>
    (match v3 with
    | .inl v4 =>
     some (((Bool.true, ()), ()))
    | .inr v4 =>
     some (((v4.1, ()), ()))
    )

noncomputable def R.L_spec_l03Commit_0 (K : Nat) : Nat → (R.T10 × ((Bool) × ((Int) × ((Int) × ((List (Int)) × ((List ((List UInt8) × (Int))) × Unit)))))) → Option (((Bool) × Unit) ⊕ ((Bool) × Unit))
  | 0, _ => none
  | n + 1, (q0, (q1, (q2, (q3, (q4, (q5, ())))))) =>
    bif Decidable.decide (q3 < q2) then
     bif Decidable.decide (0 ≤ q3) && Decidable.decide (q3 < (↑(List.length q4) : Int)) then
      obind (R.spec_l01In K (List.getD q4 (Int.toNat q3) 0) 1 (↑(List.length q0) : Int)) fun v6 =>
       bif !v6.1.1 then
        some (Sum.inr (Bool.false, ()))
       else
        bif Decidable.decide (q3 > 0) then
         bif Decidable.decide (0 ≤ q3) && Decidable.decide (q3 < (↑(List.length q4) : Int)) then
          bif Decidable.decide (0 ≤ 0) && Decidable.decide (0 < (↑(List.length q4) : Int)) then
           bif List.getD q4 (Int.toNat q3) 0 == List.getD q4 (Int.toNat 0) 0 then
            some (Sum.inr (Bool.false, ()))
           else
            R.L_spec_l03Commit_0 K n (q0, q1, q2, Go.IntKind.wrap Go.IntKind.i64 (q3 + 1), q4, q5, ())
          else
           none
         else
          none
        else
         R.L_spec_l03Commit_0 K n (q0, q1, q2, Go.IntKind.wrap Go.IntKind.i64 (q3 + 1), q4, q5, ())
     else
      none
    else
     some (Sum.inl (q1, ()))

noncomputable def R.spec_l03Commit (K : Nat) (p0 : List R.T6) (p1 : (List (Int)) × (List ((List UInt8) × (Int)))) : Option (((Bool) × Unit) × Unit) :=
  obind (R.spec_l01OK K p1.2) fun v2 =>
   bif !v2.1.1 then
    some (((Bool.false, ()), ()))
   else
    bif Decidable.decide ((↑(List.length p1.1) : Int) > 2) then
     some (((Bool.false, ()), ()))
    else
     bif !((↑(List.length p1.1) : Int) == 0) == ((↑(List.length p0) : Int) == 0) then
      some (((Bool.false, ()), ()))
     else
      obind (R.L_spec_l03Commit_0 K K (p0, Bool.false, (↑(List.length p1.1) : Int), 0, p1.1, p1.2, ())) fun v6 =>
       (match v6 with
       | .inl v7 =>
        some (((Bool.true, ()), ()))
       | .inr v7 =>
        some (((v7.1, ()), ()))
       )

noncomputable def R.L_spec_l03OK_0 (K : Nat) : Nat → (R.T10 × ((Bool) × ((Int) × Unit))) → Option (((Bool) × Unit) ⊕ ((Bool) × Unit))
  | 0, _ => none
  | n + 1, (q0, (q1, (q2, ()))) =>
    bif Decidable.decide (q2 < (↑(List.length q0) : Int)) then
     bif Decidable.decide (0 ≤ q2) && Decidable.decide (q2 ≤ (↑(List.length q0) : Int)) then
      bif Decidable.decide (0 ≤ q2) && Decidable.decide (q2 < (↑(List.length q0) : Int)) then
       obind (R.spec_l03Commit K (List.drop 0 (List.take (Int.toNat q2) q0)) (List.getD q0 (Int.toNat q2) ([], []))) fun v7 =>
        bif !v7.1.1 then
         some (Sum.inr (Bool.false, ()))
        else
         R.L_spec_l03OK_0 K n (q0, q1, Go.IntKind.wrap Go.IntKind.i64 (q2 + 1), ())
      else
       none
     else
      none
    else
     some (Sum.inl (q1, ()))

noncomputable def R.spec_l03OK (K : Nat) (p0 : List R.T6) : Option (((Bool) × Unit) × Unit) :=
  obind (R.spec_l01In K (↑(List.length p0) : Int) 1 60) fun v2 =>
   bif !v2.1.1 then
    some (((Bool.false, ()), ()))
   else
    obind (R.L_spec_l03OK_0 K K (p0, Bool.false, 0, ())) fun v4 =>
     (match v4 with
     | .inl v5 =>
      some (((Bool.true, ()), ()))
     | .inr v5 =>
      some (((v5.1, ()), ()))
     )

noncomputable def R.L_spec_l04At_0 (K : Nat) : Nat → (R.T9 × ((List UInt8) × ((Int) × ((Int) × Unit)))) → Option (((Int) × Unit) ⊕ ((Int) × Unit))
  | 0, _ => none
  | n + 1, (q0, (q1, (q2, (q3, ())))) =>
    bif Decidable.decide (q3 < (↑(List.length q0) : Int)) then
     bif Decidable.decide (0 ≤ q3) && Decidable.decide (q3 < (↑(List.length q0) : Int)) then
      bif Prod.fst (List.getD q0 (Int.toNat q3) ([], 0, 0, Bool.false)) == q1 then
       some (Sum.inr (q3, ()))
      else
       R.L_spec_l04At_0 K n (q0, q1, q2, Go.IntKind.wrap Go.IntKind.i64 (q3 + 1), ())
     else
      none
    else
     some (Sum.inl (q2, ()))

noncomputable def R.spec_l04At (K : Nat) (p0 : List R.T3) (p1 : List UInt8) : Option (((Int) × Unit) × Unit) :=
  obind (R.L_spec_l04At_0 K K (p0, p1, 0, 0, ())) fun v2 =>
   (match v2 with
   | .inl v3 =>
    some (((-1, ()), ()))
   | .inr v3 =>
    some (((v3.1, ()), ()))
   )

noncomputable def R.L_spec_l04OK_0 (K : Nat) : Nat → (R.T9 × ((Bool) × ((Int) × Unit))) → Option (((Bool) × Unit) ⊕ ((Bool) × Unit))
  | 0, _ => none
  | n + 1, (q0, (q1, (q2, ()))) =>
    bif Decidable.decide (q2 < (↑(List.length q0) : Int)) then
     bif Decidable.decide (0 ≤ q2) && Decidable.decide (q2 < (↑(List.length q0) : Int)) then
      obind (R.spec_l00Word K (Prod.fst (List.getD q0 (Int.toNat q2) ([], 0, 0, Bool.false)))) fun v6 =>
       bif !v6.1.1 then
        some (Sum.inr (Bool.false, ()))
       else
        obind (R.spec_l01In K (Prod.fst (Prod.snd (Prod.snd (List.getD q0 (Int.toNat q2) ([], 0, 0, Bool.false))))) 1 1000000) fun v8 =>
         bif !v8.1.1 then
          some (Sum.inr (Bool.false, ()))
         else
          obind (R.spec_l04At K q0 (Prod.fst (List.getD q0 (Int.toNat q2) ([], 0, 0, Bool.false)))) fun v10 =>
           bif v10.1.1 != q2 then
            some (Sum.inr (Bool.false, ()))
           else
            bif Prod.snd (Prod.snd (Prod.snd (List.getD q0 (Int.toNat q2) ([], 0, 0, Bool.false)))) then
             bif Prod.fst (Prod.snd (List.getD q0 (Int.toNat q2) ([], 0, 0, Bool.false))) != 0 then
              some (Sum.inr (Bool.false, ()))
             else
              bif !Prod.snd (Prod.snd (Prod.snd (List.getD q0 (Int.toNat q2) ([], 0, 0, Bool.false)))) then
               obind (R.spec_l01In K (Prod.fst (Prod.snd (List.getD q0 (Int.toNat q2) ([], 0, 0, Bool.false)))) 1 60) fun v15 =>
                bif !v15.1.1 then
                 some (Sum.inr (Bool.false, ()))
                else
                 R.L_spec_l04OK_0 K n (q0, q1, Go.IntKind.wrap Go.IntKind.i64 (q2 + 1), ())
              else
               R.L_spec_l04OK_0 K n (q0, q1, Go.IntKind.wrap Go.IntKind.i64 (q2 + 1), ())
            else
             bif !Prod.snd (Prod.snd (Prod.snd (List.getD q0 (Int.toNat q2) ([], 0, 0, Bool.false)))) then
              obind (R.spec_l01In K (Prod.fst (Prod.snd (List.getD q0 (Int.toNat q2) ([], 0, 0, Bool.false)))) 1 60) fun v14 =>
               bif !v14.1.1 then
                some (Sum.inr (Bool.false, ()))
               else
                R.L_spec_l04OK_0 K n (q0, q1, Go.IntKind.wrap Go.IntKind.i64 (q2 + 1), ())
             else
              R.L_spec_l04OK_0 K n (q0, q1, Go.IntKind.wrap Go.IntKind.i64 (q2 + 1), ())
     else
      none
    else
     some (Sum.inl (q1, ()))

noncomputable def R.spec_l04OK (K : Nat) (p0 : List R.T3) : Option (((Bool) × Unit) × Unit) :=
  bif Decidable.decide ((↑(List.length p0) : Int) > 8) then
   some (((Bool.false, ()), ()))
  else
   obind (R.L_spec_l04OK_0 K K (p0, Bool.false, 0, ())) fun v3 =>
    (match v3 with
    | .inl v4 =>
     some (((Bool.true, ()), ()))
    | .inr v4 =>
     some (((v4.1, ()), ()))
    )

noncomputable def R.L_spec_l05OK_0 (K : Nat) : Nat → ((Bool) × ((Int) × (R.T10 × R.T14))) → Option (((Bool) × Unit) ⊕ ((Bool) × Unit))
  | 0, _ => none
  | n + 1, (q0, (q1, (q2, (q3, ())))) =>
    bif Decidable.decide (q1 < (↑(List.length q3) : Int)) then
     bif Decidable.decide (0 ≤ q1) && Decidable.decide (q1 < (↑(List.length q3) : Int)) then
      bif Decidable.decide (Prod.fst (Prod.snd (List.getD q3 (Int.toNat q1) ([], 0, 0, Bool.false))) > (↑(List.length q2) : Int)) then
       some (Sum.inr (Bool.false, ()))
      else
       R.L_spec_l05OK_0 K n (q0, Go.IntKind.wrap Go.IntKind.i64 (q1 + 1), q2, q3, ())
     else
      none
    else
     some (Sum.inl (q0, ()))

noncomputable def R.spec_l05OK (K : Nat) (p0 : R.T10 × R.T9) : Option (((Bool) × Unit) × Unit) :=
  obind (R.spec_l03OK K p0.1) fun v2 =>
   bif !v2.1.1 then
    some (((Bool.false, ()), ()))
   else
    obind (R.spec_l04OK K p0.2) fun v4 =>
     bif !v4.1.1 then
      some (((Bool.false, ()), ()))
     else
      obind (R.L_spec_l05OK_0 K K (Bool.false, 0, p0.1, p0.2, ())) fun v6 =>
       (match v6 with
       | .inl v7 =>
        some (((Bool.true, ()), ()))
       | .inr v7 =>
        some (((v7.1, ()), ()))
       )

noncomputable def R.L_spec_l01Edits_0 (K : Nat) : Nat → (R.T0 × ((Bool) × ((Int) × Unit))) → Option (((Bool) × Unit) ⊕ ((Bool) × Unit))
  | 0, _ => none
  | n + 1, (q0, (q1, (q2, ()))) =>
    bif Decidable.decide (q2 < (↑(List.length q0) : Int)) then
     bif Decidable.decide (0 ≤ q2) && Decidable.decide (q2 < (↑(List.length q0) : Int)) then
      obind (R.spec_l00Word K (Prod.fst (List.getD q0 (Int.toNat q2) ([], 0, Bool.false)))) fun v6 =>
       bif !v6.1.1 then
        some (Sum.inr (Bool.false, ()))
       else
        obind (R.spec_l01In K (Prod.fst (Prod.snd (List.getD q0 (Int.toNat q2) ([], 0, Bool.false)))) (-1000000) 1000000) fun v8 =>
         bif !v8.1.1 then
          some (Sum.inr (Bool.false, ()))
         else
          bif Prod.snd (Prod.snd (List.getD q0 (Int.toNat q2) ([], 0, Bool.false))) then
           bif Prod.fst (Prod.snd (List.getD q0 (Int.toNat q2) ([], 0, Bool.false))) != 0 then
            some (Sum.inr (Bool.false, ()))
           else
            bif Decidable.decide (q2 > 0) then
             bif Decidable.decide (0 ≤ Go.IntKind.wrap Go.IntKind.i64 (q2 - 1)) && Decidable.decide (Go.IntKind.wrap Go.IntKind.i64 (q2 - 1) < (↑(List.length q0) : Int)) then
              bif Fw.sless (Prod.fst (List.getD q0 (Int.toNat q2) ([], 0, Bool.false))) (Prod.fst (List.getD q0 (Int.toNat (Go.IntKind.wrap Go.IntKind.i64 (q2 - 1))) ([], 0, Bool.false))) || Prod.fst (List.getD q0 (Int.toNat q2) ([], 0, Bool.false)) == Prod.fst (List.getD q0 (Int.toNat (Go.IntKind.wrap Go.IntKind.i64 (q2 - 1))) ([], 0, Bool.false)) then
               some (Sum.inr (Bool.false, ()))
              else
               R.L_spec_l01Edits_0 K n (q0, q1, Go.IntKind.wrap Go.IntKind.i64 (q2 + 1), ())
             else
              none
            else
             R.L_spec_l01Edits_0 K n (q0, q1, Go.IntKind.wrap Go.IntKind.i64 (q2 + 1), ())
          else
           bif Decidable.decide (q2 > 0) then
            bif Decidable.decide (0 ≤ Go.IntKind.wrap Go.IntKind.i64 (q2 - 1)) && Decidable.decide (Go.IntKind.wrap Go.IntKind.i64 (q2 - 1) < (↑(List.length q0) : Int)) then
             bif Fw.sless (Prod.fst (List.getD q0 (Int.toNat q2) ([], 0, Bool.false))) (Prod.fst (List.getD q0 (Int.toNat (Go.IntKind.wrap Go.IntKind.i64 (q2 - 1))) ([], 0, Bool.false))) || Prod.fst (List.getD q0 (Int.toNat q2) ([], 0, Bool.false)) == Prod.fst (List.getD q0 (Int.toNat (Go.IntKind.wrap Go.IntKind.i64 (q2 - 1))) ([], 0, Bool.false)) then
              some (Sum.inr (Bool.false, ()))
             else
              R.L_spec_l01Edits_0 K n (q0, q1, Go.IntKind.wrap Go.IntKind.i64 (q2 + 1), ())
            else
             none
           else
            R.L_spec_l01Edits_0 K n (q0, q1, Go.IntKind.wrap Go.IntKind.i64 (q2 + 1), ())
     else
      none
    else
     some (Sum.inl (q1, ()))

noncomputable def R.spec_l01Edits (K : Nat) (p0 : List ((List UInt8) × ((Int) × (Bool)))) : Option (((Bool) × Unit) × Unit) :=
  bif Decidable.decide ((↑(List.length p0) : Int) > 6) then
   some (((Bool.false, ()), ()))
  else
   obind (R.L_spec_l01Edits_0 K K (p0, Bool.false, 0, ())) fun v3 =>
    (match v3 with
    | .inl v4 =>
     some (((Bool.true, ()), ()))
    | .inr v4 =>
     some (((v4.1, ()), ()))
    )

noncomputable def R.spec_l07Wish (K : Nat) (p0 : (Int) × R.T33) : Option (((Bool) × Unit) × Unit) :=
  obind (R.spec_l00Word K p0.2.1) fun v2 =>
   bif !v2.1.1 then
    some (((Bool.false, ()), ()))
   else
    obind (R.spec_l01In K p0.1 1 6) fun v4 =>
     bif !v4.1.1 then
      some (((Bool.false, ()), ()))
     else
      obind (R.spec_l01Edits K p0.2.2.2.2) fun v6 =>
       bif !v6.1.1 then
        some (((Bool.false, ()), ()))
       else
        bif p0.1 != 3 then
         bif Decidable.decide ((↑(List.length p0.2.2.2.2) : Int) > 0) then
          some (((Bool.false, ()), ()))
         else
          bif p0.1 == 1 then
           obind (R.spec_l00Word K p0.2.2.1) fun v11 =>
            bif v11.1.1 then
             bif p0.1 == 5 then
              obind (R.spec_l00Word K p0.2.2.2.1) fun v14 =>
               bif v14.1.1 then
                some (((Bool.true, ()), ()))
               else
                bif !p0.1 == 5 then
                 some (((p0.2.2.2.1 == Array.toList (ByteArray.data (ByteArray.mk #[])), ()), ()))
                else
                 some (((Bool.false, ()), ()))
             else
              bif !p0.1 == 5 then
               some (((p0.2.2.2.1 == Array.toList (ByteArray.data (ByteArray.mk #[])), ()), ()))
              else
               some (((Bool.false, ()), ()))
            else
             some (((Bool.false, ()), ()))
          else
           bif p0.1 == 4 then
            obind (R.spec_l00Word K p0.2.2.1) fun v12 =>
             bif v12.1.1 then
              bif p0.1 == 5 then
               obind (R.spec_l00Word K p0.2.2.2.1) fun v15 =>
                bif v15.1.1 then
                 some (((Bool.true, ()), ()))
                else
                 bif !p0.1 == 5 then
                  some (((p0.2.2.2.1 == Array.toList (ByteArray.data (ByteArray.mk #[])), ()), ()))
                 else
                  some (((Bool.false, ()), ()))
              else
               bif !p0.1 == 5 then
                some (((p0.2.2.2.1 == Array.toList (ByteArray.data (ByteArray.mk #[])), ()), ()))
               else
                some (((Bool.false, ()), ()))
             else
              bif !p0.1 == 4 then
               bif p0.2.2.1 == Array.toList (ByteArray.data (ByteArray.mk #[])) then
                bif p0.1 == 5 then
                 obind (R.spec_l00Word K p0.2.2.2.1) fun v17 =>
                  bif v17.1.1 then
                   some (((Bool.true, ()), ()))
                  else
                   bif !p0.1 == 5 then
                    some (((p0.2.2.2.1 == Array.toList (ByteArray.data (ByteArray.mk #[])), ()), ()))
                   else
                    some (((Bool.false, ()), ()))
                else
                 bif !p0.1 == 5 then
                  some (((p0.2.2.2.1 == Array.toList (ByteArray.data (ByteArray.mk #[])), ()), ()))
                 else
                  some (((Bool.false, ()), ()))
               else
                some (((Bool.false, ()), ()))
              else
               some (((Bool.false, ()), ()))
           else
            bif !p0.1 == 4 then
             bif p0.2.2.1 == Array.toList (ByteArray.data (ByteArray.mk #[])) then
              bif p0.1 == 5 then
               obind (R.spec_l00Word K p0.2.2.2.1) fun v15 =>
                bif v15.1.1 then
                 some (((Bool.true, ()), ()))
                else
                 bif !p0.1 == 5 then
                  some (((p0.2.2.2.1 == Array.toList (ByteArray.data (ByteArray.mk #[])), ()), ()))
                 else
                  some (((Bool.false, ()), ()))
              else
               bif !p0.1 == 5 then
                some (((p0.2.2.2.1 == Array.toList (ByteArray.data (ByteArray.mk #[])), ()), ()))
               else
                some (((Bool.false, ()), ()))
             else
              some (((Bool.false, ()), ()))
            else
             some (((Bool.false, ()), ()))
        else
         bif p0.1 == 1 then
          obind (R.spec_l00Word K p0.2.2.1) fun v10 =>
           bif v10.1.1 then
            bif p0.1 == 5 then
             obind (R.spec_l00Word K p0.2.2.2.1) fun v13 =>
              bif v13.1.1 then
               some (((Bool.true, ()), ()))
              else
               bif !p0.1 == 5 then
                some (((p0.2.2.2.1 == Array.toList (ByteArray.data (ByteArray.mk #[])), ()), ()))
               else
                some (((Bool.false, ()), ()))
            else
             bif !p0.1 == 5 then
              some (((p0.2.2.2.1 == Array.toList (ByteArray.data (ByteArray.mk #[])), ()), ()))
             else
              some (((Bool.false, ()), ()))
           else
            some (((Bool.false, ()), ()))
         else
          bif p0.1 == 4 then
           obind (R.spec_l00Word K p0.2.2.1) fun v11 =>
            bif v11.1.1 then
             bif p0.1 == 5 then
              obind (R.spec_l00Word K p0.2.2.2.1) fun v14 =>
               bif v14.1.1 then
                some (((Bool.true, ()), ()))
               else
                bif !p0.1 == 5 then
                 some (((p0.2.2.2.1 == Array.toList (ByteArray.data (ByteArray.mk #[])), ()), ()))
                else
                 some (((Bool.false, ()), ()))
             else
              bif !p0.1 == 5 then
               some (((p0.2.2.2.1 == Array.toList (ByteArray.data (ByteArray.mk #[])), ()), ()))
              else
               some (((Bool.false, ()), ()))
            else
             bif !p0.1 == 4 then
              bif p0.2.2.1 == Array.toList (ByteArray.data (ByteArray.mk #[])) then
               bif p0.1 == 5 then
                obind (R.spec_l00Word K p0.2.2.2.1) fun v16 =>
                 bif v16.1.1 then
                  some (((Bool.true, ()), ()))
                 else
                  bif !p0.1 == 5 then
                   some (((p0.2.2.2.1 == Array.toList (ByteArray.data (ByteArray.mk #[])), ()), ()))
                  else
                   some (((Bool.false, ()), ()))
               else
                bif !p0.1 == 5 then
                 some (((p0.2.2.2.1 == Array.toList (ByteArray.data (ByteArray.mk #[])), ()), ()))
                else
                 some (((Bool.false, ()), ()))
              else
               some (((Bool.false, ()), ()))
             else
              some (((Bool.false, ()), ()))
          else
           bif !p0.1 == 4 then
            bif p0.2.2.1 == Array.toList (ByteArray.data (ByteArray.mk #[])) then
             bif p0.1 == 5 then
              obind (R.spec_l00Word K p0.2.2.2.1) fun v14 =>
               bif v14.1.1 then
                some (((Bool.true, ()), ()))
               else
                bif !p0.1 == 5 then
                 some (((p0.2.2.2.1 == Array.toList (ByteArray.data (ByteArray.mk #[])), ()), ()))
                else
                 some (((Bool.false, ()), ()))
             else
              bif !p0.1 == 5 then
               some (((p0.2.2.2.1 == Array.toList (ByteArray.data (ByteArray.mk #[])), ()), ()))
              else
               some (((Bool.false, ()), ()))
            else
             some (((Bool.false, ()), ()))
           else
            some (((Bool.false, ()), ()))

noncomputable def R.L_spec_l07Wishes_0 (K : Nat) : Nat → (R.T37 × ((Bool) × ((Int) × Unit))) → Option (((Bool) × Unit) ⊕ ((Bool) × Unit))
  | 0, _ => none
  | n + 1, (q0, (q1, (q2, ()))) =>
    bif Decidable.decide (q2 < (↑(List.length q0) : Int)) then
     bif Decidable.decide (0 ≤ q2) && Decidable.decide (q2 < (↑(List.length q0) : Int)) then
      obind (R.spec_l07Wish K (List.getD q0 (Int.toNat q2) (0, [], [], [], []))) fun v6 =>
       bif !v6.1.1 then
        some (Sum.inr (Bool.false, ()))
       else
        R.L_spec_l07Wishes_0 K n (q0, q1, Go.IntKind.wrap Go.IntKind.i64 (q2 + 1), ())
     else
      none
    else
     some (Sum.inl (q1, ()))

noncomputable def R.spec_l07Wishes (K : Nat) (p0 : List R.T36) : Option (((Bool) × Unit) × Unit) :=
  bif Decidable.decide ((↑(List.length p0) : Int) > 6) then
   some (((Bool.false, ()), ()))
  else
   obind (R.L_spec_l07Wishes_0 K K (p0, Bool.false, 0, ())) fun v3 =>
    (match v3 with
    | .inl v4 =>
     some (((Bool.true, ()), ()))
    | .inr v4 =>
     some (((v4.1, ()), ()))
    )

noncomputable def R.L_spec_l07CopyWishes_0 (K : Nat) : Nat → (R.T37 × R.T64) → Option R.T63
  | 0, _ => none
  | n + 1, (q0, (q1, (q2, (q3, ())))) =>
    bif Decidable.decide (q1 < (↑(List.length q0) : Int)) then
     bif Decidable.decide (0 ≤ q1) && Decidable.decide (q1 < (↑(List.length q0) : Int)) then
      bif Nat.ble (0 + List.length (Prod.snd (Prod.snd (Prod.snd (Prod.snd (List.getD q0 (Int.toNat q1) (0, [], [], [], []))))))) 268435456 then
       bif Nat.ble (List.length q3 + 1) 268435456 then
        R.L_spec_l07CopyWishes_0 K n (q0, Go.IntKind.wrap Go.IntKind.i64 (q1 + 1), q2, q3 ++ [List.getD q0 (Int.toNat q1) (0, [], [], [], [])], ())
       else
        none
      else
       none
     else
      none
    else
     some (Sum.inl (q2, q3, ()))

noncomputable def R.spec_l07CopyWishes (K : Nat) (p0 : List R.T36) : Option R.T45 :=
  obind (R.L_spec_l07CopyWishes_0 K K (p0, 0, [], [], ())) fun v2 =>
   (match v2 with
   | .inl v3 =>
    some (((v3.2.1, ()), ()))
   | .inr v3 =>
    none
   )

noncomputable def R.spec_l07New (K : Nat) (p0 : List R.T36) : Option ((R.T55 × Unit) × Unit) :=
  obind (R.spec_l07CopyWishes K p0) fun v2 =>
   some ((((v2.1.1, 0, 0, 0, 0, 0, 0, 0, []), ()), ()))

noncomputable def R.spec_l06New (K : Nat) (p0 : List R.T3) (p1 : List UInt8) : Option ((R.T16 × Unit) × Unit) :=
  obind (R.spec_l04At K p0 p1) fun v2 =>
   bif Decidable.decide (v2.1.1 ≥ 0) then
    bif Decidable.decide (0 ≤ v2.1.1) && Decidable.decide (v2.1.1 < (↑(List.length p0) : Int)) then
     some ((((p1, Prod.fst (Prod.snd (Prod.snd (List.getD p0 (Int.toNat v2.1.1) ([], 0, 0, Bool.false)))), []), ()), ()))
    else
     none
   else
    some ((((p1, 0, []), ()), ()))

noncomputable def R.L_spec_l08New_40 (K : Nat) : Nat → (R.T39 × ((List (List UInt8)) × ((Int) × R.T97))) → Option (((List (List UInt8)) × R.T97) ⊕ Unit)
  | 0, _ => none
  | n + 1, (q0, (q1, (q2, (q3, (q4, (q5, (q6, (q7, (q8, (q9, (q10, (q11, (q12, (q13, (q14, (q15, (q16, ()))))))))))))))))) =>
    bif Decidable.decide (q2 < (↑(List.length q0) : Int)) then
     bif Decidable.decide (0 ≤ q2) && Decidable.decide (q2 < (↑(List.length q0) : Int)) then
      obind (R.spec_l07New K (List.getD q0 (Int.toNat q2) [])) fun v6 =>
       bif Nat.ble (List.length q14 + 1) 268435456 then
        R.L_spec_l08New_40 K n (q0, q1, Go.IntKind.wrap Go.IntKind.i64 (q2 + 1), q3, q4, q5, q6, q7, q8, q9, q10, q11, q12, q13, q14 ++ [v6.1.1], q15, q16, ())
       else
        none
     else
      none
    else
     some (Sum.inl (q1, q3, q4, q5, q6, q7, q8, q9, q10, q11, q12, q13, q14, q15, q16, ()))

noncomputable def R.L_spec_l08New_41 (K : Nat) : Nat → ((List (List UInt8)) × ((Int) × R.T97)) → Option (R.T92 ⊕ Unit)
  | 0, _ => none
  | n + 1, (q0, (q1, (q2, (q3, (q4, (q5, (q6, (q7, (q8, (q9, (q10, (q11, (q12, (q13, (q14, (q15, ())))))))))))))))) =>
    bif Decidable.decide (q1 < (↑(List.length q0) : Int)) then
     bif Decidable.decide (0 ≤ q1) && Decidable.decide (q1 < (↑(List.length q0) : Int)) then
      obind (R.spec_l06New K q3 (List.getD q0 (Int.toNat q1) [])) fun v6 =>
       bif Nat.ble (List.length q14 + 1) 268435456 then
        R.L_spec_l08New_41 K n (q0, Go.IntKind.wrap Go.IntKind.i64 (q1 + 1), q2, q3, q4, q5, q6, q7, q8, q9, q10, q11, q12, q13, q14 ++ [v6.1.1], q15, ())
       else
        none
     else
      none
    else
     some (Sum.inl (q4, q5, q6, q7, q8, q9, q10, q11, q12, q13, q14, q15, ()))

noncomputable def R.spec_l08New (K : Nat) (p0 : R.T10 × R.T9) (p1 : List R.T37) (p2 : List (List UInt8)) : Option (R.T72 × Unit) :=
  obind (R.L_spec_l08New_40 K K (p1, p2, 0, p0.1, p0.2, 0, p0.1, p0.2, 0, [], [], [], [], [], [], [], [], ())) fun v2 =>
   (match v2 with
   | .inl v3 =>
    obind (R.L_spec_l08New_41 K K (v3.1, 0, v3.2.1, v3.2.2.1, v3.2.2.2.1, v3.2.2.2.2.1, v3.2.2.2.2.2.1, v3.2.2.2.2.2.2.1, v3.2.2.2.2.2.2.2.1, v3.2.2.2.2.2.2.2.2.1, v3.2.2.2.2.2.2.2.2.2.1, v3.2.2.2.2.2.2.2.2.2.2.1, v3.2.2.2.2.2.2.2.2.2.2.2.1, v3.2.2.2.2.2.2.2.2.2.2.2.2.1, v3.2.2.2.2.2.2.2.2.2.2.2.2.2.1, v3.2.2.2.2.2.2.2.2.2.2.2.2.2.2.1, ())) fun v4 =>
     (match v4 with
     | .inl v5 =>
      some (((((v5.2.1, v5.2.2.1), v5.2.2.2.2.2.2.2.2.2.1, v5.2.2.2.2.2.2.2.2.2.2.1, v5.2.2.2.2.2.2.2.2.2.2.2.1, v5.2.2.2.1), ()), ()))
     | .inr v5 =>
      none
     )
   | .inr v3 =>
    none
   )

noncomputable def R.spec_l03Own (K : Nat) (p0 : (List (Int)) × (List ((List UInt8) × (Int)))) : Option R.T19 :=
  obind (
    Fw.alt (
     Fw.dup (
      bif Nat.ble (0 + List.length p0.1) 268435456 then
       bif Nat.ble (0 + List.length p0.2) 268435456 then
        some ((p0.1, p0.2, ()))
       else
        none
      else
       none
     )
    ) (
     bif Nat.ble (0 + List.length p0.1) 268435456 then
      bif Nat.ble (0 + List.length p0.2) 268435456 then
       some ((p0.1, p0.2, ()))
      else
       none
     else
      none
    )
   ) fun (v2 : List Int × List (List UInt8 × Int) × PUnit) =>
   some ((((v2.1, v2.2.1), ()), ()))

noncomputable def R.L_spec_l03Copy_0 (K : Nat) : Nat → (R.T10 × R.T48) → Option R.T47
  | 0, _ => none
  | n + 1, (q0, (q1, (q2, (q3, ())))) =>
    bif Decidable.decide (q1 < (↑(List.length q0) : Int)) then
     bif Decidable.decide (0 ≤ q1) && Decidable.decide (q1 < (↑(List.length q0) : Int)) then
      obind (R.spec_l03Own K (List.getD q0 (Int.toNat q1) ([], []))) fun v6 =>
       bif Nat.ble (List.length q3 + 1) 268435456 then
        R.L_spec_l03Copy_0 K n (q0, Go.IntKind.wrap Go.IntKind.i64 (q1 + 1), q2, q3 ++ [v6.1.1], ())
       else
        none
     else
      none
    else
     some (Sum.inl (q2, q3, ()))

noncomputable def R.spec_l03Copy (K : Nat) (p0 : List R.T6) : Option R.T23 :=
  obind (R.L_spec_l03Copy_0 K K (p0, 0, [], [], ())) fun v2 =>
   (match v2 with
   | .inl v3 =>
    some (((v3.2.1, ()), ()))
   | .inr v3 =>
    none
   )

noncomputable def R.spec_l05Own (K : Nat) (p0 : R.T10 × R.T9) : Option R.T44 :=
  obind (
    Fw.dup (
     obind (R.spec_l03Copy K p0.1) fun v5 =>
      bif Nat.ble (0 + List.length p0.2) 268435456 then
       some ((v5.1.1, p0.2, ()))
      else
       none
    )
   ) fun (v2 : List (List Int × List (List UInt8 × Int)) × List (List UInt8 × Int × Int × Bool) × PUnit) =>
   some ((((v2.1, v2.2.1), ()), ()))

noncomputable def R.spec_l07Own (K : Nat) (p0 : R.T37 × R.T35) : Option ((R.T55 × Unit) × Unit) :=
  obind (R.spec_l07CopyWishes K p0.1) fun v2 =>
   bif Nat.ble (0 + List.length p0.2.2.2.2.2.2.2.2) 268435456 then
    some ((((v2.1.1, p0.2), ()), ()))
   else
    none

noncomputable def R.spec_l06Own (K : Nat) (p0 : (List UInt8) × R.T4) : Option ((R.T16 × Unit) × Unit) :=
  bif Nat.ble (0 + List.length p0.2.2) 268435456 then
   some (((p0, ()), ()))
  else
   none

noncomputable def R.spec_l05OwnResult (K : Nat) (p0 : (Int) × R.T24) : Option ((R.T29 × Unit) × Unit) :=
  bif Nat.ble (0 + List.length p0.2.2.2.1) 268435456 then
   bif Nat.ble (0 + List.length p0.2.2.2.2) 268435456 then
    some (((p0, ()), ()))
   else
    none
  else
   none

noncomputable def R.spec_l07OwnMoment (K : Nat) (p0 : (Int) × R.T54) : Option ((R.T56 × Unit) × Unit) :=
  bif Nat.ble (0 + List.length p0.2.2.2.1.2.2.2.2) 268435456 then
   obind (R.spec_l05OwnResult K p0.2.2.2.2) fun v3 =>
    some ((((p0.1, p0.2.1, p0.2.2.1, p0.2.2.2.1, v3.1.1), ()), ()))
  else
   none

noncomputable def R.L_spec_l08Own_0 (K : Nat) : Nat → R.T105 → Option (R.T104 ⊕ Unit)
  | 0, _ => none
  | n + 1, (q0, (q1, (q2, (q3, (q4, (q5, (q6, (q7, (q8, (q9, (q10, (q11, (q12, (q13, (q14, (q15, (q16, (q17, (q18, ()))))))))))))))))))) =>
    bif Decidable.decide (q0 < (↑(List.length q3) : Int)) then
     bif Decidable.decide (0 ≤ q0) && Decidable.decide (q0 < (↑(List.length q3) : Int)) then
      obind (R.spec_l07Own K (List.getD q3 (Int.toNat q0) ([], 0, 0, 0, 0, 0, 0, 0, []))) fun v6 =>
       bif Nat.ble (List.length q16 + 1) 268435456 then
        R.L_spec_l08Own_0 K n (Go.IntKind.wrap Go.IntKind.i64 (q0 + 1), q1, q2, q3, q4, q5, q6, q7, q8, q9, q10, q11, q12, q13, q14, q15, q16 ++ [v6.1.1], q17, q18, ())
       else
        none
     else
      none
    else
     some (Sum.inl (q1, q2, q3, q4, q5, q6, q7, q8, q9, q10, q11, q12, q13, q14, q15, q16, q17, q18, ()))

noncomputable def R.L_spec_l08Own_1 (K : Nat) : Nat → R.T105 → Option (R.T104 ⊕ Unit)
  | 0, _ => none
  | n + 1, (q0, (q1, (q2, (q3, (q4, (q5, (q6, (q7, (q8, (q9, (q10, (q11, (q12, (q13, (q14, (q15, (q16, (q17, (q18, ()))))))))))))))))))) =>
    bif Decidable.decide (q0 < (↑(List.length q4) : Int)) then
     bif Decidable.decide (0 ≤ q0) && Decidable.decide (q0 < (↑(List.length q4) : Int)) then
      obind (R.spec_l06Own K (List.getD q4 (Int.toNat q0) ([], 0, []))) fun v6 =>
       bif Nat.ble (List.length q17 + 1) 268435456 then
        R.L_spec_l08Own_1 K n (Go.IntKind.wrap Go.IntKind.i64 (q0 + 1), q1, q2, q3, q4, q5, q6, q7, q8, q9, q10, q11, q12, q13, q14, q15, q16, q17 ++ [v6.1.1], q18, ())
       else
        none
     else
      none
    else
     some (Sum.inl (q1, q2, q3, q4, q5, q6, q7, q8, q9, q10, q11, q12, q13, q14, q15, q16, q17, q18, ()))

noncomputable def R.L_spec_l08Own_2 (K : Nat) : Nat → R.T105 → Option (R.T93 ⊕ Unit)
  | 0, _ => none
  | n + 1, (q0, (q1, (q2, (q3, (q4, (q5, (q6, (q7, (q8, (q9, (q10, (q11, (q12, (q13, (q14, (q15, (q16, (q17, (q18, ()))))))))))))))))))) =>
    bif Decidable.decide (q0 < (↑(List.length q5) : Int)) then
     bif Decidable.decide (0 ≤ q0) && Decidable.decide (q0 < (↑(List.length q5) : Int)) then
      obind (R.spec_l07OwnMoment K (List.getD q5 (Int.toNat q0) (0, 0, 0, (0, 0, [], [], []), 0, 0, 0, [], []))) fun v6 =>
       bif Nat.ble (List.length q18 + 1) 268435456 then
        R.L_spec_l08Own_2 K n (Go.IntKind.wrap Go.IntKind.i64 (q0 + 1), q1, q2, q3, q4, q5, q6, q7, q8, q9, q10, q11, q12, q13, q14, q15, q16, q17, q18 ++ [v6.1.1], ())
       else
        none
     else
      none
    else
     some (Sum.inl (q7, q8, q9, q10, q11, q12, q13, q14, q15, q16, q17, q18, ()))

noncomputable def R.spec_l08Own (K : Nat) (p0 : R.T38 × R.T68) : Option (R.T72 × Unit) :=
  obind (
    Fw.alt (
     obind (R.spec_l05Own K p0.1) fun v5 =>
      Fw.alt (
       Fw.alt (
        Fw.dup (
         some ((p0.1.1, p0.1.2, p0.2.1, p0.2.2.1, p0.2.2.2.1, p0.2.2.2.2, 0, p0.2.2.2.2, [], [], [], [], [], v5.1.1.1, v5.1.1.2, [], [], [], ()))
        )
       ) (
        Fw.dup (
         Fw.dup (
          some ((p0.1.1, p0.1.2, p0.2.1, p0.2.2.1, p0.2.2.2.1, p0.2.2.2.2, 0, p0.2.2.2.2, [], [], [], [], [], v5.1.1.1, v5.1.1.2, [], [], [], ()))
         )
        )
       )
      ) (
       Fw.alt (
        Fw.alt (
         Fw.dup (
          some ((p0.1.1, p0.1.2, p0.2.1, p0.2.2.1, p0.2.2.2.1, p0.2.2.2.2, 0, p0.2.2.2.2, [], [], [], [], [], v5.1.1.1, v5.1.1.2, [], [], [], ()))
         )
        ) (
         Fw.dup (
          Fw.dup (
           some ((p0.1.1, p0.1.2, p0.2.1, p0.2.2.1, p0.2.2.2.1, p0.2.2.2.2, 0, p0.2.2.2.2, [], [], [], [], [], v5.1.1.1, v5.1.1.2, [], [], [], ()))
          )
         )
        )
       ) (
        Fw.dup (
         Fw.alt (
          Fw.dup (
           some ((p0.1.1, p0.1.2, p0.2.1, p0.2.2.1, p0.2.2.2.1, p0.2.2.2.2, 0, p0.2.2.2.2, [], [], [], [], [], v5.1.1.1, v5.1.1.2, [], [], [], ()))
          )
         ) (
          Fw.dup (
           Fw.dup (
            some ((p0.1.1, p0.1.2, p0.2.1, p0.2.2.1, p0.2.2.2.1, p0.2.2.2.2, 0, p0.2.2.2.2, [], [], [], [], [], v5.1.1.1, v5.1.1.2, [], [], [], ()))
           )
          )
         )
        )
       )
      )
    ) (
     Fw.alt (
      Fw.alt (
       obind (R.spec_l05Own K p0.1) fun v7 =>
        Fw.alt (
         Fw.dup (
          some ((p0.1.1, p0.1.2, p0.2.1, p0.2.2.1, p0.2.2.2.1, p0.2.2.2.2, 0, p0.2.2.2.2, [], [], [], [], [], v7.1.1.1, v7.1.1.2, [], [], [], ()))
         )
        ) (
         Fw.dup (
          Fw.dup (
           some ((p0.1.1, p0.1.2, p0.2.1, p0.2.2.1, p0.2.2.2.1, p0.2.2.2.2, 0, p0.2.2.2.2, [], [], [], [], [], v7.1.1.1, v7.1.1.2, [], [], [], ()))
          )
         )
        )
      ) (
       Fw.alt (
        Fw.alt (
         obind (R.spec_l05Own K p0.1) fun v9 =>
          Fw.dup (
           some ((p0.1.1, p0.1.2, p0.2.1, p0.2.2.1, p0.2.2.2.1, p0.2.2.2.2, 0, p0.2.2.2.2, [], [], [], [], [], v9.1.1.1, v9.1.1.2, [], [], [], ()))
          )
        ) (
         Fw.dup (
          Fw.dup (
           obind (R.spec_l05Own K p0.1) fun v11 =>
            some ((p0.1.1, p0.1.2, p0.2.1, p0.2.2.1, p0.2.2.2.1, p0.2.2.2.2, 0, p0.2.2.2.2, [], [], [], [], [], v11.1.1.1, v11.1.1.2, [], [], [], ()))
          )
         )
        )
       ) (
        Fw.dup (
         Fw.alt (
          obind (R.spec_l05Own K p0.1) fun v10 =>
           Fw.dup (
            some ((p0.1.1, p0.1.2, p0.2.1, p0.2.2.1, p0.2.2.2.1, p0.2.2.2.2, 0, p0.2.2.2.2, [], [], [], [], [], v10.1.1.1, v10.1.1.2, [], [], [], ()))
           )
         ) (
          Fw.dup (
           Fw.dup (
            obind (R.spec_l05Own K p0.1) fun v12 =>
             some ((p0.1.1, p0.1.2, p0.2.1, p0.2.2.1, p0.2.2.2.1, p0.2.2.2.2, 0, p0.2.2.2.2, [], [], [], [], [], v12.1.1.1, v12.1.1.2, [], [], [], ()))
           )
          )
         )
        )
       )
      )
     ) (
      Fw.alt (
       Fw.alt (
        obind (R.spec_l05Own K p0.1) fun v8 =>
         Fw.alt (
          Fw.dup (
           some ((p0.1.1, p0.1.2, p0.2.1, p0.2.2.1, p0.2.2.2.1, p0.2.2.2.2, 0, p0.2.2.2.2, [], [], [], [], [], v8.1.1.1, v8.1.1.2, [], [], [], ()))
          )
         ) (
          Fw.dup (
           Fw.dup (
            some ((p0.1.1, p0.1.2, p0.2.1, p0.2.2.1, p0.2.2.2.1, p0.2.2.2.2, 0, p0.2.2.2.2, [], [], [], [], [], v8.1.1.1, v8.1.1.2, [], [], [], ()))
           )
          )
         )
       ) (
        Fw.alt (
         Fw.alt (
          obind (R.spec_l05Own K p0.1) fun v10 =>
           Fw.dup (
            some ((p0.1.1, p0.1.2, p0.2.1, p0.2.2.1, p0.2.2.2.1, p0.2.2.2.2, 0, p0.2.2.2.2, [], [], [], [], [], v10.1.1.1, v10.1.1.2, [], [], [], ()))
           )
         ) (
          Fw.dup (
           Fw.dup (
            obind (R.spec_l05Own K p0.1) fun v12 =>
             some ((p0.1.1, p0.1.2, p0.2.1, p0.2.2.1, p0.2.2.2.1, p0.2.2.2.2, 0, p0.2.2.2.2, [], [], [], [], [], v12.1.1.1, v12.1.1.2, [], [], [], ()))
           )
          )
         )
        ) (
         Fw.dup (
          Fw.alt (
           obind (R.spec_l05Own K p0.1) fun v11 =>
            Fw.dup (
             some ((p0.1.1, p0.1.2, p0.2.1, p0.2.2.1, p0.2.2.2.1, p0.2.2.2.2, 0, p0.2.2.2.2, [], [], [], [], [], v11.1.1.1, v11.1.1.2, [], [], [], ()))
            )
          ) (
           Fw.dup (
            Fw.dup (
             obind (R.spec_l05Own K p0.1) fun v13 =>
              some ((p0.1.1, p0.1.2, p0.2.1, p0.2.2.1, p0.2.2.2.1, p0.2.2.2.2, 0, p0.2.2.2.2, [], [], [], [], [], v13.1.1.1, v13.1.1.2, [], [], [], ()))
            )
           )
          )
         )
        )
       )
      ) (
       Fw.dup (
        Fw.alt (
         obind (R.spec_l05Own K p0.1) fun v9 =>
          Fw.alt (
           Fw.dup (
            some ((p0.1.1, p0.1.2, p0.2.1, p0.2.2.1, p0.2.2.2.1, p0.2.2.2.2, 0, p0.2.2.2.2, [], [], [], [], [], v9.1.1.1, v9.1.1.2, [], [], [], ()))
           )
          ) (
           Fw.dup (
            Fw.dup (
             some ((p0.1.1, p0.1.2, p0.2.1, p0.2.2.1, p0.2.2.2.1, p0.2.2.2.2, 0, p0.2.2.2.2, [], [], [], [], [], v9.1.1.1, v9.1.1.2, [], [], [], ()))
            )
           )
          )
        ) (
         Fw.alt (
          Fw.alt (
           obind (R.spec_l05Own K p0.1) fun v11 =>
            Fw.dup (
             some ((p0.1.1, p0.1.2, p0.2.1, p0.2.2.1, p0.2.2.2.1, p0.2.2.2.2, 0, p0.2.2.2.2, [], [], [], [], [], v11.1.1.1, v11.1.1.2, [], [], [], ()))
            )
          ) (
           Fw.dup (
            Fw.dup (
             obind (R.spec_l05Own K p0.1) fun v13 =>
              some ((p0.1.1, p0.1.2, p0.2.1, p0.2.2.1, p0.2.2.2.1, p0.2.2.2.2, 0, p0.2.2.2.2, [], [], [], [], [], v13.1.1.1, v13.1.1.2, [], [], [], ()))
            )
           )
          )
         ) (
          Fw.dup (
           Fw.alt (
            obind (R.spec_l05Own K p0.1) fun v12 =>
             Fw.dup (
              some ((p0.1.1, p0.1.2, p0.2.1, p0.2.2.1, p0.2.2.2.1, p0.2.2.2.2, 0, p0.2.2.2.2, [], [], [], [], [], v12.1.1.1, v12.1.1.2, [], [], [], ()))
             )
           ) (
            Fw.dup (
             Fw.dup (
              obind (R.spec_l05Own K p0.1) fun v14 =>
               some ((p0.1.1, p0.1.2, p0.2.1, p0.2.2.1, p0.2.2.2.1, p0.2.2.2.2, 0, p0.2.2.2.2, [], [], [], [], [], v14.1.1.1, v14.1.1.2, [], [], [], ()))
             )
            )
           )
          )
         )
        )
       )
      )
     )
    )
   ) fun (v2 : List (List Int × List (List UInt8 × Int)) × List (List UInt8 × Int × Int × Bool) × List R.T50 × List R.T5 × List R.T51 × Int × Int × Int × List (List Int × List (List UInt8 × Int)) × List (List UInt8 × Int × Int × Bool) × List R.T50 × List R.T5 × List R.T51 × List (List Int × List (List UInt8 × Int)) × List (List UInt8 × Int × Int × Bool) × List R.T50 × List R.T5 × List R.T51 × PUnit) =>
   obind (R.L_spec_l08Own_0 K K (0, v2.1, v2.2.1, v2.2.2.1, v2.2.2.2.1, v2.2.2.2.2.1, v2.2.2.2.2.2.1, v2.2.2.2.2.2.2.1, v2.2.2.2.2.2.2.2.1, v2.2.2.2.2.2.2.2.2.1, v2.2.2.2.2.2.2.2.2.2.1, v2.2.2.2.2.2.2.2.2.2.2.1, v2.2.2.2.2.2.2.2.2.2.2.2.1, v2.2.2.2.2.2.2.2.2.2.2.2.2.1, v2.2.2.2.2.2.2.2.2.2.2.2.2.2.1, v2.2.2.2.2.2.2.2.2.2.2.2.2.2.2.1, v2.2.2.2.2.2.2.2.2.2.2.2.2.2.2.2.1, v2.2.2.2.2.2.2.2.2.2.2.2.2.2.2.2.2.1, v2.2.2.2.2.2.2.2.2.2.2.2.2.2.2.2.2.2.1, ())) fun v3 =>
    (match v3 with
    | .inl v4 =>
     obind (R.L_spec_l08Own_1 K K (0, v4.1, v4.2.1, v4.2.2.1, v4.2.2.2.1, v4.2.2.2.2.1, v4.2.2.2.2.2.1, v4.2.2.2.2.2.2.1, v4.2.2.2.2.2.2.2.1, v4.2.2.2.2.2.2.2.2.1, v4.2.2.2.2.2.2.2.2.2.1, v4.2.2.2.2.2.2.2.2.2.2.1, v4.2.2.2.2.2.2.2.2.2.2.2.1, v4.2.2.2.2.2.2.2.2.2.2.2.2.1, v4.2.2.2.2.2.2.2.2.2.2.2.2.2.1, v4.2.2.2.2.2.2.2.2.2.2.2.2.2.2.1, v4.2.2.2.2.2.2.2.2.2.2.2.2.2.2.2.1, v4.2.2.2.2.2.2.2.2.2.2.2.2.2.2.2.2.1, v4.2.2.2.2.2.2.2.2.2.2.2.2.2.2.2.2.2.1, ())) fun v5 =>
      (match v5 with
      | .inl v6 =>
       obind (R.L_spec_l08Own_2 K K (0, v6.1, v6.2.1, v6.2.2.1, v6.2.2.2.1, v6.2.2.2.2.1, v6.2.2.2.2.2.1, v6.2.2.2.2.2.2.1, v6.2.2.2.2.2.2.2.1, v6.2.2.2.2.2.2.2.2.1, v6.2.2.2.2.2.2.2.2.2.1, v6.2.2.2.2.2.2.2.2.2.2.1, v6.2.2.2.2.2.2.2.2.2.2.2.1, v6.2.2.2.2.2.2.2.2.2.2.2.2.1, v6.2.2.2.2.2.2.2.2.2.2.2.2.2.1, v6.2.2.2.2.2.2.2.2.2.2.2.2.2.2.1, v6.2.2.2.2.2.2.2.2.2.2.2.2.2.2.2.1, v6.2.2.2.2.2.2.2.2.2.2.2.2.2.2.2.2.1, v6.2.2.2.2.2.2.2.2.2.2.2.2.2.2.2.2.2.1, ())) fun v7 =>
        (match v7 with
        | .inl v8 =>
         some (((((v8.2.2.2.2.2.2.2.1, v8.2.2.2.2.2.2.2.2.1), v8.2.2.2.2.2.2.2.2.2.1, v8.2.2.2.2.2.2.2.2.2.2.1, v8.2.2.2.2.2.2.2.2.2.2.2.1, v8.2.1), ()), ()))
        | .inr v8 =>
         none
        )
      | .inr v6 =>
       none
      )
    | .inr v4 =>
     none
    )

noncomputable def R.L_spec_NewWorld_0 (K : Nat) : Nat → (R.T39 × ((List (List UInt8)) × ((Int) × R.T78))) → Option ((R.T39 × ((List (List UInt8)) × R.T78)) ⊕ R.T74)
  | 0, _ => none
  | n + 1, (q0, (q1, (q2, (q3, (q4, (q5, (q6, (q7, (q8, (q9, (q10, (q11, ())))))))))))) =>
    bif Decidable.decide (q3 < (↑(List.length q0) : Int)) then
     bif Decidable.decide (0 ≤ q3) && Decidable.decide (q3 < (↑(List.length q0) : Int)) then
      obind (R.spec_l07Wishes K (List.getD q0 (Int.toNat q3) [])) fun v6 =>
       bif !v6.1.1 then
        some (Sum.inr (1, 0, [], [], [], [], [], ()))
       else
        R.L_spec_NewWorld_0 K n (q0, q1, q2, Go.IntKind.wrap Go.IntKind.i64 (q3 + 1), q4, q5, q6, q7, q8, q9, q10, q11, ())
     else
      none
    else
     some (Sum.inl (q0, q1, q2, q4, q5, q6, q7, q8, q9, q10, q11, ()))

noncomputable def R.L_spec_NewWorld_1 (K : Nat) : Nat → (R.T39 × ((List (List UInt8)) × ((Int) × R.T78))) → Option ((R.T39 × ((List (List UInt8)) × R.T78)) ⊕ R.T74)
  | 0, _ => none
  | n + 1, (q0, (q1, (q2, (q3, (q4, (q5, (q6, (q7, (q8, (q9, (q10, (q11, ())))))))))))) =>
    bif Decidable.decide (q3 < (↑(List.length q1) : Int)) then
     bif Decidable.decide (0 ≤ q3) && Decidable.decide (q3 < (↑(List.length q1) : Int)) then
      obind (R.spec_l00Word K (List.getD q1 (Int.toNat q3) [])) fun v6 =>
       bif !v6.1.1 then
        some (Sum.inr (10, 0, [], [], [], [], [], ()))
       else
        R.L_spec_NewWorld_1 K n (q0, q1, q2, Go.IntKind.wrap Go.IntKind.i64 (q3 + 1), q4, q5, q6, q7, q8, q9, q10, q11, ())
     else
      none
    else
     some (Sum.inl (q0, q1, q2, q4, q5, q6, q7, q8, q9, q10, q11, ()))

noncomputable def R.spec_NewWorld (K : Nat) (p0 : R.T10 × R.T9) (p1 : List R.T37) (p2 : List (List UInt8)) : Option ((R.T71 × ((Int) × Unit)) × Unit) :=
  bif Decidable.decide ((↑(List.length p1) : Int) > 4096) then
   some ((((([], []), [], [], [], 0), 2, ()), ()))
  else
   bif Decidable.decide ((↑(List.length p2) : Int) > 4096) then
    some ((((([], []), [], [], [], 0), 2, ()), ()))
   else
    obind (R.spec_l05OK K p0) fun v4 =>
     bif !v4.1.1 then
      some ((((([], []), [], [], [], 0), 1, ()), ()))
     else
      bif Decidable.decide ((↑(List.length p1) : Int) > 5) then
       some ((((([], []), [], [], [], 0), 6, ()), ()))
      else
       bif Decidable.decide ((↑(List.length p2) : Int) > 3) then
        some ((((([], []), [], [], [], 0), 6, ()), ()))
       else
        obind (R.L_spec_NewWorld_0 K K (p1, p2, 0, 0, p0.1, p0.2, 0, [], [], [], [], [], ())) fun v8 =>
         (match v8 with
         | .inl v9 =>
          obind (R.L_spec_NewWorld_1 K K (v9.1, v9.2.1, v9.2.2.1, 0, v9.2.2.2.1, v9.2.2.2.2.1, v9.2.2.2.2.2.1, v9.2.2.2.2.2.2.1, v9.2.2.2.2.2.2.2.1, v9.2.2.2.2.2.2.2.2.1, v9.2.2.2.2.2.2.2.2.2.1, v9.2.2.2.2.2.2.2.2.2.2.1, ())) fun v10 =>
           (match v10 with
           | .inl v11 =>
            obind (R.spec_l08New K (v11.2.2.2.1, v11.2.2.2.2.1) v11.1 v11.2.1) fun v12 =>
             obind (R.spec_l08Own K v12.1.1) fun v13 =>
              some (((v13.1.1, 0, ()), ()))
           | .inr v11 =>
            some (((((v11.2.2.1, v11.2.2.2.1), v11.2.2.2.2.1, v11.2.2.2.2.2.1, v11.2.2.2.2.2.2.1, v11.2.1), v11.1, ()), ()))
           )
         | .inr v9 =>
          some (((((v9.2.2.1, v9.2.2.2.1), v9.2.2.2.2.1, v9.2.2.2.2.2.1, v9.2.2.2.2.2.2.1, v9.2.1), v9.1, ()), ()))
         )

noncomputable def R.impl_isList_simpl_Wish (K : Nat) (p0 : List R.T37) : Option (((Bool) × Unit) × Unit) :=
  some (((Decidable.decide ((↑(List.length p0) : Int) ≤ 4096), ()), ()))

noncomputable def R.impl_isList_string (K : Nat) (p0 : List (List UInt8)) : Option (((Bool) × Unit) × Unit) :=
  some (((Decidable.decide ((↑(List.length p0) : Int) ≤ 4096), ()), ()))

noncomputable def R.impl_isList_impl_Commit (K : Nat) (p0 : List R.T6) : Option (((Bool) × Unit) × Unit) :=
  some (((Decidable.decide ((↑(List.length p0) : Int) ≤ 4096), ()), ()))

noncomputable def R.impl_within (K : Nat) (p0 : Int) (p1 : Int) (p2 : Int) : Option (((Bool) × Unit) × Unit) :=
  bif Decidable.decide (p1 ≤ p0) then
   some (((Decidable.decide (p0 ≤ p2), ()), ()))
  else
   some (((Bool.false, ()), ()))

noncomputable def R.impl_isLetter (K : Nat) (p0 : Int) : Option (((Bool) × Unit) × Unit) :=
  bif Decidable.decide (p0 ≥ 97) then
   bif Decidable.decide (p0 ≤ 122) then
    some (((Bool.true, ()), ()))
   else
    bif Decidable.decide (p0 ≥ 65) then
     bif Decidable.decide (p0 ≤ 90) then
      some (((Bool.true, ()), ()))
     else
      some (((p0 == 95, ()), ()))
    else
     some (((p0 == 95, ()), ()))
  else
   bif Decidable.decide (p0 ≥ 65) then
    bif Decidable.decide (p0 ≤ 90) then
     some (((Bool.true, ()), ()))
    else
     some (((p0 == 95, ()), ()))
   else
    some (((p0 == 95, ()), ()))

noncomputable def R.impl_isDigit (K : Nat) (p0 : Int) : Option (((Bool) × Unit) × Unit) :=
  bif Decidable.decide (p0 ≥ 48) then
   some (((Decidable.decide (p0 ≤ 57), ()), ()))
  else
   some (((Bool.false, ()), ()))

noncomputable def R.impl_NameOK_1 (K : Nat) (p0 : Int) : Option (((Bool) × Unit) × Unit) :=
  obind (R.impl_isLetter K p0) fun v2 =>
   bif v2.1.1 then
    some (((Bool.true, ()), ()))
   else
    obind (R.impl_isDigit K p0) fun v4 =>
     some (((v4.1.1, ()), ()))

noncomputable def R.L_impl_areAll_byte__impl_NameOK_1_0 (K : Nat) : Nat → ((List (Int)) × ((Bool) × ((List (Int)) × ((List (Int)) × ((Bool) × ((List (Int)) × ((List (Int)) × ((Int) × ((Int) × ((Int) × Unit)))))))))) → Option (((List (Int)) × ((Bool) × ((List (Int)) × ((List (Int)) × ((Bool) × ((List (Int)) × ((Int) × Unit))))))) ⊕ ((List (Int)) × ((Bool) × ((List (Int)) × ((List (Int)) × ((Bool) × ((List (Int)) × ((Int) × Unit))))))))
  | 0, _ => none
  | n + 1, (q0, (q1, (q2, (q3, (q4, (q5, (q6, (q7, (q8, (q9, ())))))))))) =>
    bif Decidable.decide (q9 < q8) then
     bif Decidable.decide (0 ≤ q9) && Decidable.decide (q9 < (↑(List.length q6) : Int)) then
      obind (R.impl_NameOK_1 K (List.getD q6 (Int.toNat q9) 0)) fun v6 =>
       bif !v6.1.1 then
        some (Sum.inr (q0, q1, q2, q3, q4, q5, q9, ()))
       else
        R.L_impl_areAll_byte__impl_NameOK_1_0 K n (q0, q1, q2, q3, q4, q5, q6, q7, q8, Go.IntKind.wrap Go.IntKind.i64 (q9 + 1), ())
     else
      none
    else
     some (Sum.inl (q0, q1, q2, q3, q4, q5, q7, ()))

noncomputable def R.impl_areAll_byte__impl_NameOK_1 (K : Nat) (p0 : List (Int)) : Option (((Bool) × Unit) × Unit) :=
  obind (R.L_impl_areAll_byte__impl_NameOK_1_0 K K (p0, Bool.false, p0, p0, Bool.false, p0, p0, 0, (↑(List.length p0) : Int), 0, ())) fun v2 =>
   (match v2 with
   | .inl v3 =>
    some (((!Decidable.decide (-1 ≥ 0), ()), ()))
   | .inr v3 =>
    some (((!Decidable.decide (v3.2.2.2.2.2.2.1 ≥ 0), ()), ()))
   )

noncomputable def R.impl_NameOK (K : Nat) (p0 : List UInt8) : Option (((Bool) × Unit) × Unit) :=
  obind (R.impl_within K (↑(List.length p0) : Int) 1 12) fun v2 =>
   bif v2.1.1 then
    bif Decidable.decide (0 ≤ 0) && Decidable.decide (0 < (↑(List.length p0) : Int)) then
     obind (R.impl_isLetter K (↑(UInt8.toNat (List.getD p0 (Int.toNat 0) 0)) : Int)) fun v5 =>
      bif v5.1.1 then
       obind (R.impl_areAll_byte__impl_NameOK_1 K (Fw.bytesIn p0)) fun v7 =>
        some (((v7.1.1, ()), ()))
      else
       some (((Bool.false, ()), ()))
    else
     none
   else
    some (((Bool.false, ()), ()))

noncomputable def R.impl_isValue (K : Nat) (p0 : Int) : Option (((Bool) × Unit) × Unit) :=
  obind (R.impl_within K p0 (-1000000) 1000000) fun v2 =>
   some (((v2.1.1, ()), ()))

noncomputable def R.L_impl_MapOK_0 (K : Nat) : Nat → ((List ((List UInt8) × (Int))) × ((Bool) × ((List ((List UInt8) × (Int))) × ((Int) × ((Int) × Unit))))) → Option (((List ((List UInt8) × (Int))) × ((Bool) × Unit)) ⊕ ((Bool) × Unit))
  | 0, _ => none
  | n + 1, (q0, (q1, (q2, (q3, (q4, ()))))) =>
    bif Decidable.decide (q4 < q3) then
     bif Decidable.decide (0 ≤ q4) && Decidable.decide (q4 < (↑(List.length q2) : Int)) then
      obind (R.impl_NameOK K (Prod.fst (List.getD q2 (Int.toNat q4) ([], 0)))) fun v6 =>
       bif !v6.1.1 then
        some (Sum.inr (Bool.false, ()))
       else
        obind (R.impl_isValue K (Prod.snd (List.getD q2 (Int.toNat q4) ([], 0)))) fun v8 =>
         bif !v8.1.1 then
          some (Sum.inr (Bool.false, ()))
         else
          bif Decidable.decide (q4 > 0) then
           bif Decidable.decide (0 ≤ Go.IntKind.wrap Go.IntKind.i64 (q4 - 1)) && Decidable.decide (Go.IntKind.wrap Go.IntKind.i64 (q4 - 1) < (↑(List.length q0) : Int)) then
            bif !Fw.sless (Prod.fst (List.getD q0 (Int.toNat (Go.IntKind.wrap Go.IntKind.i64 (q4 - 1))) ([], 0))) (Prod.fst (List.getD q2 (Int.toNat q4) ([], 0))) then
             some (Sum.inr (Bool.false, ()))
            else
             R.L_impl_MapOK_0 K n (q0, q1, q2, q3, Go.IntKind.wrap Go.IntKind.i64 (q4 + 1), ())
           else
            none
          else
           R.L_impl_MapOK_0 K n (q0, q1, q2, q3, Go.IntKind.wrap Go.IntKind.i64 (q4 + 1), ())
     else
      none
    else
     some (Sum.inl (q0, q1, ()))

noncomputable def R.impl_MapOK (K : Nat) (p0 : List ((List UInt8) × (Int))) : Option (((Bool) × Unit) × Unit) :=
  obind (R.L_impl_MapOK_0 K K (p0, Bool.false, p0, (↑(List.length p0) : Int), 0, ())) fun v2 =>
   (match v2 with
   | .inl v3 =>
    some (((Decidable.decide ((↑(List.length v3.1) : Int) ≤ 12), ()), ()))
   | .inr v3 =>
    some (((v3.1, ()), ()))
   )

noncomputable def R.L_impl_areAll_int__impl_Commit_isAt_1_0 (K : Nat) : Nat → ((List (Int)) × ((Int) × ((Bool) × ((List (Int)) × ((List (Int)) × ((Bool) × ((List (Int)) × ((List (Int)) × ((Int) × ((Int) × ((Int) × ((Int) × Unit)))))))))))) → Option (((List (Int)) × ((Int) × ((Bool) × ((List (Int)) × ((List (Int)) × ((Bool) × ((List (Int)) × ((Int) × ((Int) × Unit))))))))) ⊕ ((List (Int)) × ((Int) × ((Bool) × ((List (Int)) × ((List (Int)) × ((Bool) × ((List (Int)) × ((Int) × ((Int) × Unit))))))))))
  | 0, _ => none
  | n + 1, (q0, (q1, (q2, (q3, (q4, (q5, (q6, (q7, (q8, (q9, (q10, (q11, ())))))))))))) =>
    bif Decidable.decide (q10 < q9) then
     bif Decidable.decide (0 ≤ q10) && Decidable.decide (q10 < (↑(List.length q7) : Int)) then
      obind (R.impl_within K (List.getD q7 (Int.toNat q10) 0) 1 (Go.IntKind.wrap Go.IntKind.i64 (q11 - 1))) fun v6 =>
       bif !v6.1.1 then
        some (Sum.inr (q0, q1, q2, q3, q4, q5, q6, q10, q11, ()))
       else
        R.L_impl_areAll_int__impl_Commit_isAt_1_0 K n (q0, q1, q2, q3, q4, q5, q6, q7, q8, q9, Go.IntKind.wrap Go.IntKind.i64 (q10 + 1), q11, ())
     else
      none
    else
     some (Sum.inl (q0, q1, q2, q3, q4, q5, q6, q8, q11, ()))

noncomputable def R.impl_areAll_int__impl_Commit_isAt_1 (K : Nat) (p0 : List (Int)) (p1_0 : Int) : Option (((Bool) × Unit) × Unit) :=
  obind (R.L_impl_areAll_int__impl_Commit_isAt_1_0 K K (p0, p1_0, Bool.false, p0, p0, Bool.false, p0, p0, 0, (↑(List.length p0) : Int), 0, p1_0, ())) fun v2 =>
   (match v2 with
   | .inl v3 =>
    some (((!Decidable.decide (-1 ≥ 0), ()), ()))
   | .inr v3 =>
    some (((!Decidable.decide (v3.2.2.2.2.2.2.2.1 ≥ 0), ()), ()))
   )

noncomputable def R.impl_Commit_isAt (K : Nat) (p0 : (List (Int)) × (List ((List UInt8) × (Int)))) (p1 : Int) : Option (((Bool) × Unit) × Unit) :=
  obind (R.impl_MapOK K p0.2) fun v2 =>
   bif !v2.1.1 then
    some (((Bool.false, ()), ()))
   else
    bif Decidable.decide ((↑(List.length p0.1) : Int) > 2) then
     some (((Bool.false, ()), ()))
    else
     bif !((↑(List.length p0.1) : Int) == 0) == (p1 == 1) then
      some (((Bool.false, ()), ()))
     else
      bif (↑(List.length p0.1) : Int) == 2 then
       bif Decidable.decide (0 ≤ 0) && Decidable.decide (0 < (↑(List.length p0.1) : Int)) then
        bif Decidable.decide (0 ≤ 1) && Decidable.decide (1 < (↑(List.length p0.1) : Int)) then
         bif List.getD p0.1 (Int.toNat 0) 0 == List.getD p0.1 (Int.toNat 1) 0 then
          some (((Bool.false, ()), ()))
         else
          obind (R.impl_areAll_int__impl_Commit_isAt_1 K p0.1 p1) fun v10 =>
           some (((v10.1.1, ()), ()))
        else
         none
       else
        none
      else
       obind (R.impl_areAll_int__impl_Commit_isAt_1 K p0.1 p1) fun v7 =>
        some (((v7.1.1, ()), ()))

noncomputable def R.L_impl_areCommits_0 (K : Nat) : Nat → (R.T10 × ((Bool) × (R.T10 × ((Int) × ((Int) × Unit))))) → Option ((R.T10 × ((Bool) × Unit)) ⊕ ((Bool) × Unit))
  | 0, _ => none
  | n + 1, (q0, (q1, (q2, (q3, (q4, ()))))) =>
    bif Decidable.decide (q4 < q3) then
     bif Decidable.decide (0 ≤ q4) && Decidable.decide (q4 < (↑(List.length q2) : Int)) then
      obind (R.impl_Commit_isAt K (List.getD q2 (Int.toNat q4) ([], [])) (Go.IntKind.wrap Go.IntKind.i64 (q4 + 1))) fun v6 =>
       bif !v6.1.1 then
        some (Sum.inr (Bool.false, ()))
       else
        R.L_impl_areCommits_0 K n (q0, q1, q2, q3, Go.IntKind.wrap Go.IntKind.i64 (q4 + 1), ())
     else
      none
    else
     some (Sum.inl (q0, q1, ()))

noncomputable def R.impl_areCommits (K : Nat) (p0 : List R.T6) : Option (((Bool) × Unit) × Unit) :=
  obind (R.L_impl_areCommits_0 K K (p0, Bool.false, p0, (↑(List.length p0) : Int), 0, ())) fun v2 =>
   (match v2 with
   | .inl v3 =>
    some (((Decidable.decide ((↑(List.length v3.1) : Int) ≤ 60), ()), ()))
   | .inr v3 =>
    some (((v3.1, ()), ()))
   )

noncomputable def R.impl_StoreOK (K : Nat) (p0 : List R.T6) : Option (((Bool) × Unit) × Unit) :=
  bif Decidable.decide ((↑(List.length p0) : Int) > 0) then
   bif Decidable.decide ((↑(List.length p0) : Int) ≤ 4096) then
    obind (R.impl_areCommits K p0) fun v4 =>
     some (((v4.1.1, ()), ()))
   else
    some (((Bool.false, ()), ()))
  else
   some (((Bool.false, ()), ()))

noncomputable def R.impl_isHead (K : Nat) (p0 : Int) : Option (((Bool) × Unit) × Unit) :=
  obind (R.impl_within K p0 1 60) fun v2 =>
   some (((v2.1.1, ()), ()))

noncomputable def R.impl_isRef (K : Nat) (p0 : (List UInt8) × ((Int) × ((Int) × (Bool)))) : Option (((Bool) × Unit) × Unit) :=
  obind (R.impl_NameOK K p0.1) fun v2 =>
   bif v2.1.1 then
    obind (R.impl_within K p0.2.2.1 1 1000000) fun v4 =>
     bif v4.1.1 then
      bif p0.2.2.2 then
       bif p0.2.1 == 0 then
        some (((Bool.true, ()), ()))
       else
        bif !p0.2.2.2 then
         obind (R.impl_isHead K p0.2.1) fun v9 =>
          some (((v9.1.1, ()), ()))
        else
         some (((Bool.false, ()), ()))
      else
       bif !p0.2.2.2 then
        obind (R.impl_isHead K p0.2.1) fun v8 =>
         some (((v8.1.1, ()), ()))
       else
        some (((Bool.false, ()), ()))
     else
      some (((Bool.false, ()), ()))
   else
    some (((Bool.false, ()), ()))

noncomputable def R.L_slices_IndexFunc_impl_Ref__impl_place_1_0 (K : Nat) : Nat → (R.T9 × ((List UInt8) × ((Int) × ((Int) × ((Int) × Unit))))) → Option (((Int) × Unit) ⊕ ((Int) × Unit))
  | 0, _ => none
  | n + 1, (q0, (q1, (q2, (q3, (q4, ()))))) =>
    bif Decidable.decide (q4 < q3) then
     bif Decidable.decide (0 ≤ q4) && Decidable.decide (q4 < (↑(List.length q0) : Int)) then
      bif Prod.fst (List.getD q0 (Int.toNat q4) ([], 0, 0, Bool.false)) == q1 then
       some (Sum.inr (q4, ()))
      else
       R.L_slices_IndexFunc_impl_Ref__impl_place_1_0 K n (q0, q1, q2, q3, Go.IntKind.wrap Go.IntKind.i64 (q4 + 1), ())
     else
      none
    else
     some (Sum.inl (q2, ()))

noncomputable def R.slices_IndexFunc_impl_Ref__impl_place_1 (K : Nat) (p0 : List R.T3) (p1_0 : List UInt8) : Option (((Int) × Unit) × Unit) :=
  obind (R.L_slices_IndexFunc_impl_Ref__impl_place_1_0 K K (p0, p1_0, 0, (↑(List.length p0) : Int), 0, ())) fun v2 =>
   (match v2 with
   | .inl v3 =>
    some (((-1, ()), ()))
   | .inr v3 =>
    some (((v3.1, ()), ()))
   )

noncomputable def R.impl_place (K : Nat) (p0 : List R.T3) (p1 : List UInt8) : Option (((Int) × Unit) × Unit) :=
  obind (R.slices_IndexFunc_impl_Ref__impl_place_1 K p0 p1) fun v2 =>
   some (((v2.1.1, ()), ()))

noncomputable def R.L_impl_areAll_impl_Ref__impl_isRef_0 (K : Nat) : Nat → (R.T9 × ((Bool) × (R.T9 × (R.T9 × ((Bool) × (R.T9 × R.T31)))))) → Option ((R.T9 × ((Bool) × (R.T9 × (R.T9 × ((Bool) × (R.T9 × ((Int) × Unit))))))) ⊕ (R.T9 × ((Bool) × (R.T9 × (R.T9 × ((Bool) × (R.T9 × ((Int) × Unit))))))))
  | 0, _ => none
  | n + 1, (q0, (q1, (q2, (q3, (q4, (q5, (q6, (q7, (q8, (q9, ())))))))))) =>
    bif Decidable.decide (q9 < q8) then
     bif Decidable.decide (0 ≤ q9) && Decidable.decide (q9 < (↑(List.length q6) : Int)) then
      obind (R.impl_isRef K (List.getD q6 (Int.toNat q9) ([], 0, 0, Bool.false))) fun v6 =>
       bif !v6.1.1 then
        some (Sum.inr (q0, q1, q2, q3, q4, q5, q9, ()))
       else
        R.L_impl_areAll_impl_Ref__impl_isRef_0 K n (q0, q1, q2, q3, q4, q5, q6, q7, q8, Go.IntKind.wrap Go.IntKind.i64 (q9 + 1), ())
     else
      none
    else
     some (Sum.inl (q0, q1, q2, q3, q4, q5, q7, ()))

noncomputable def R.impl_areAll_impl_Ref__impl_isRef (K : Nat) (p0 : List R.T3) : Option (((Bool) × Unit) × Unit) :=
  obind (R.L_impl_areAll_impl_Ref__impl_isRef_0 K K (p0, Bool.false, p0, p0, Bool.false, p0, p0, 0, (↑(List.length p0) : Int), 0, ())) fun v2 =>
   (match v2 with
   | .inl v3 =>
    some (((!Decidable.decide (-1 ≥ 0), ()), ()))
   | .inr v3 =>
    some (((!Decidable.decide (v3.2.2.2.2.2.2.1 ≥ 0), ()), ()))
   )

noncomputable def R.L_impl_RefsOK_0 (K : Nat) : Nat → (R.T9 × ((Bool) × (R.T9 × ((Int) × ((Int) × Unit))))) → Option (((Bool) × Unit) ⊕ ((Bool) × Unit))
  | 0, _ => none
  | n + 1, (q0, (q1, (q2, (q3, (q4, ()))))) =>
    bif Decidable.decide (q4 < q3) then
     bif Decidable.decide (0 ≤ q4) && Decidable.decide (q4 < (↑(List.length q2) : Int)) then
      bif Decidable.decide (0 ≤ q4) && Decidable.decide (q4 ≤ (↑(List.length q0) : Int)) then
       obind (R.impl_place K (List.drop 0 (List.take (Int.toNat q4) q0)) (Prod.fst (List.getD q2 (Int.toNat q4) ([], 0, 0, Bool.false)))) fun v7 =>
        bif Decidable.decide (v7.1.1 ≥ 0) then
         some (Sum.inr (Bool.false, ()))
        else
         R.L_impl_RefsOK_0 K n (q0, q1, q2, q3, Go.IntKind.wrap Go.IntKind.i64 (q4 + 1), ())
      else
       none
     else
      none
    else
     some (Sum.inl (q1, ()))

noncomputable def R.impl_RefsOK (K : Nat) (p0 : List R.T3) : Option (((Bool) × Unit) × Unit) :=
  bif Decidable.decide ((↑(List.length p0) : Int) > 8) then
   some (((Bool.false, ()), ()))
  else
   obind (R.impl_areAll_impl_Ref__impl_isRef K p0) fun v3 =>
    bif !v3.1.1 then
     some (((Bool.false, ()), ()))
    else
     obind (R.L_impl_RefsOK_0 K K (p0, Bool.false, p0, (↑(List.length p0) : Int), 0, ())) fun v5 =>
      (match v5 with
      | .inl v6 =>
       some (((Bool.true, ()), ()))
      | .inr v6 =>
       some (((v6.1, ()), ()))
      )

noncomputable def R.L_impl_areAll_impl_Ref__impl_BaseOK_1_0 (K : Nat) : Nat → (R.T9 × (R.T38 × ((Bool) × (R.T9 × (R.T9 × ((Bool) × (R.T9 × (R.T9 × ((Int) × ((Int) × R.T46)))))))))) → Option ((R.T9 × (R.T38 × ((Bool) × (R.T9 × (R.T9 × ((Bool) × (R.T9 × R.T46))))))) ⊕ (R.T9 × (R.T38 × ((Bool) × (R.T9 × (R.T9 × ((Bool) × (R.T9 × R.T46))))))))
  | 0, _ => none
  | n + 1, (q0, (q1, (q2, (q3, (q4, (q5, (q6, (q7, (q8, (q9, (q10, (q11, ())))))))))))) =>
    bif Decidable.decide (q10 < q9) then
     bif Decidable.decide (0 ≤ q10) && Decidable.decide (q10 < (↑(List.length q7) : Int)) then
      bif !Decidable.decide (Prod.fst (Prod.snd (List.getD q7 (Int.toNat q10) ([], 0, 0, Bool.false))) ≤ (↑(List.length q11.1) : Int)) then
       some (Sum.inr (q0, q1, q2, q3, q4, q5, q6, q10, q11, ()))
      else
       R.L_impl_areAll_impl_Ref__impl_BaseOK_1_0 K n (q0, q1, q2, q3, q4, q5, q6, q7, q8, q9, Go.IntKind.wrap Go.IntKind.i64 (q10 + 1), q11, ())
     else
      none
    else
     some (Sum.inl (q0, q1, q2, q3, q4, q5, q6, q8, q11, ()))

noncomputable def R.impl_areAll_impl_Ref__impl_BaseOK_1 (K : Nat) (p0 : List R.T3) (p1_0 : R.T10 × R.T9) : Option (((Bool) × Unit) × Unit) :=
  obind (R.L_impl_areAll_impl_Ref__impl_BaseOK_1_0 K K (p0, p1_0, Bool.false, p0, p0, Bool.false, p0, p0, 0, (↑(List.length p0) : Int), 0, p1_0, ())) fun v2 =>
   (match v2 with
   | .inl v3 =>
    some (((!Decidable.decide (-1 ≥ 0), ()), ()))
   | .inr v3 =>
    some (((!Decidable.decide (v3.2.2.2.2.2.2.2.1 ≥ 0), ()), ()))
   )

noncomputable def R.impl_BaseOK (K : Nat) (p0 : R.T10 × R.T9) : Option (((Bool) × Unit) × Unit) :=
  obind (R.impl_StoreOK K p0.1) fun v2 =>
   bif v2.1.1 then
    obind (R.impl_RefsOK K p0.2) fun v4 =>
     bif v4.1.1 then
      obind (R.impl_areAll_impl_Ref__impl_BaseOK_1 K p0.2 p0) fun v6 =>
       some (((v6.1.1, ()), ()))
     else
      some (((Bool.false, ()), ()))
   else
    some (((Bool.false, ()), ()))

noncomputable def R.slices_Clone_int (K : Nat) (p0 : List (Int)) : Option (((List (Int)) × Unit) × Unit) :=
  bif List.isEmpty p0 then
   Fw.alt (
    some ((([], ()), ()))
   ) (
    bif Nat.ble (0 + List.length p0) 268435456 then
     some (((p0, ()), ()))
    else
     none
   )
  else
   bif Nat.ble (0 + List.length p0) 268435456 then
    some (((p0, ()), ()))
   else
    none

noncomputable def R.slices_Clone_impl_Entry (K : Nat) (p0 : List ((List UInt8) × (Int))) : Option (((List ((List UInt8) × (Int))) × Unit) × Unit) :=
  bif List.isEmpty p0 then
   Fw.alt (
    some ((([], ()), ()))
   ) (
    bif Nat.ble (0 + List.length p0) 268435456 then
     some (((p0, ()), ()))
    else
     none
   )
  else
   bif Nat.ble (0 + List.length p0) 268435456 then
    some (((p0, ()), ()))
   else
    none

noncomputable def R.impl_Commit_own (K : Nat) (p0 : (List (Int)) × (List ((List UInt8) × (Int)))) : Option R.T19 :=
  obind (R.slices_Clone_int K p0.1) fun v2 =>
   obind (R.slices_Clone_impl_Entry K p0.2) fun v3 =>
    some ((((v2.1.1, v3.1.1), ()), ()))

noncomputable def R.L_impl_ownStore_0 (K : Nat) : Nat → (R.T10 × ((Int) × R.T48)) → Option R.T47
  | 0, _ => none
  | n + 1, (q0, (q1, (q2, (q3, (q4, ()))))) =>
    bif Decidable.decide (q2 < q1) then
     bif Decidable.decide (0 ≤ q2) && Decidable.decide (q2 < (↑(List.length q0) : Int)) then
      obind (R.impl_Commit_own K (List.getD q0 (Int.toNat q2) ([], []))) fun v6 =>
       bif Nat.ble (List.length q4 + 1) 268435456 then
        R.L_impl_ownStore_0 K n (q0, q1, Go.IntKind.wrap Go.IntKind.i64 (q2 + 1), q3, q4 ++ [v6.1.1], ())
       else
        none
     else
      none
    else
     some (Sum.inl (q3, q4, ()))

noncomputable def R.impl_ownStore (K : Nat) (p0 : List R.T6) : Option R.T23 :=
  obind (R.L_impl_ownStore_0 K K (p0, (↑(List.length p0) : Int), 0, [], [], ())) fun v2 =>
   (match v2 with
   | .inl v3 =>
    some (((v3.2.1, ()), ()))
   | .inr v3 =>
    none
   )

noncomputable def R.slices_Clone_impl_Ref (K : Nat) (p0 : List R.T3) : Option (R.T14 × Unit) :=
  bif List.isEmpty p0 then
   Fw.alt (
    some ((([], ()), ()))
   ) (
    bif Nat.ble (0 + List.length p0) 268435456 then
     some (((p0, ()), ()))
    else
     none
   )
  else
   bif Nat.ble (0 + List.length p0) 268435456 then
    some (((p0, ()), ()))
   else
    none

noncomputable def R.impl_Base_own (K : Nat) (p0 : R.T10 × R.T9) : Option R.T44 :=
  obind (R.impl_ownStore K p0.1) fun v2 =>
   obind (R.slices_Clone_impl_Ref K p0.2) fun v3 =>
    some ((((v2.1.1, v3.1.1), ()), ()))

noncomputable def R.impl_isList_impl_Wish (K : Nat) (p0 : List R.T36) : Option (((Bool) × Unit) × Unit) :=
  some (((Decidable.decide ((↑(List.length p0) : Int) ≤ 4096), ()), ()))

noncomputable def R.impl_hasSource (K : Nat) (p0 : Int) : Option (((Bool) × Unit) × Unit) :=
  bif p0 == 1 then
   some (((Bool.true, ()), ()))
  else
   some (((p0 == 4, ()), ()))

noncomputable def R.slices_Clone_impl_Edit (K : Nat) (p0 : List ((List UInt8) × ((Int) × (Bool)))) : Option (R.T7 × Unit) :=
  bif List.isEmpty p0 then
   Fw.alt (
    some ((([], ()), ()))
   ) (
    bif Nat.ble (0 + List.length p0) 268435456 then
     some (((p0, ()), ()))
    else
     none
   )
  else
   bif Nat.ble (0 + List.length p0) 268435456 then
    some (((p0, ()), ()))
   else
    none

noncomputable def R.impl_Wish_op (K : Nat) (p0 : (Int) × R.T33) (p1 : Int) : Option ((R.T34 × Unit) × Unit) :=
  obind (R.slices_Clone_impl_Edit K p0.2.2.2.2) fun v2 =>
   some ((((p0.1, p1, p0.2.1, p0.2.2.2.1, v2.1.1), ()), ()))

noncomputable def R.L_impl_EditsOK_0 (K : Nat) : Nat → (R.T0 × ((Bool) × (R.T0 × ((Int) × ((Int) × Unit))))) → Option ((R.T0 × ((Bool) × Unit)) ⊕ ((Bool) × Unit))
  | 0, _ => none
  | n + 1, (q0, (q1, (q2, (q3, (q4, ()))))) =>
    bif Decidable.decide (q4 < q3) then
     bif Decidable.decide (0 ≤ q4) && Decidable.decide (q4 < (↑(List.length q2) : Int)) then
      obind (R.impl_NameOK K (Prod.fst (List.getD q2 (Int.toNat q4) ([], 0, Bool.false)))) fun v6 =>
       bif !v6.1.1 then
        some (Sum.inr (Bool.false, ()))
       else
        obind (R.impl_isValue K (Prod.fst (Prod.snd (List.getD q2 (Int.toNat q4) ([], 0, Bool.false))))) fun v8 =>
         bif !v8.1.1 then
          some (Sum.inr (Bool.false, ()))
         else
          bif Prod.snd (Prod.snd (List.getD q2 (Int.toNat q4) ([], 0, Bool.false))) then
           bif Prod.fst (Prod.snd (List.getD q2 (Int.toNat q4) ([], 0, Bool.false))) != 0 then
            some (Sum.inr (Bool.false, ()))
           else
            bif Decidable.decide (q4 > 0) then
             bif Decidable.decide (0 ≤ Go.IntKind.wrap Go.IntKind.i64 (q4 - 1)) && Decidable.decide (Go.IntKind.wrap Go.IntKind.i64 (q4 - 1) < (↑(List.length q0) : Int)) then
              bif !Fw.sless (Prod.fst (List.getD q0 (Int.toNat (Go.IntKind.wrap Go.IntKind.i64 (q4 - 1))) ([], 0, Bool.false))) (Prod.fst (List.getD q2 (Int.toNat q4) ([], 0, Bool.false))) then
               some (Sum.inr (Bool.false, ()))
              else
               R.L_impl_EditsOK_0 K n (q0, q1, q2, q3, Go.IntKind.wrap Go.IntKind.i64 (q4 + 1), ())
             else
              none
            else
             R.L_impl_EditsOK_0 K n (q0, q1, q2, q3, Go.IntKind.wrap Go.IntKind.i64 (q4 + 1), ())
          else
           bif Decidable.decide (q4 > 0) then
            bif Decidable.decide (0 ≤ Go.IntKind.wrap Go.IntKind.i64 (q4 - 1)) && Decidable.decide (Go.IntKind.wrap Go.IntKind.i64 (q4 - 1) < (↑(List.length q0) : Int)) then
             bif !Fw.sless (Prod.fst (List.getD q0 (Int.toNat (Go.IntKind.wrap Go.IntKind.i64 (q4 - 1))) ([], 0, Bool.false))) (Prod.fst (List.getD q2 (Int.toNat q4) ([], 0, Bool.false))) then
              some (Sum.inr (Bool.false, ()))
             else
              R.L_impl_EditsOK_0 K n (q0, q1, q2, q3, Go.IntKind.wrap Go.IntKind.i64 (q4 + 1), ())
            else
             none
           else
            R.L_impl_EditsOK_0 K n (q0, q1, q2, q3, Go.IntKind.wrap Go.IntKind.i64 (q4 + 1), ())
     else
      none
    else
     some (Sum.inl (q0, q1, ()))

noncomputable def R.impl_EditsOK (K : Nat) (p0 : List ((List UInt8) × ((Int) × (Bool)))) : Option (((Bool) × Unit) × Unit) :=
  obind (R.L_impl_EditsOK_0 K K (p0, Bool.false, p0, (↑(List.length p0) : Int), 0, ())) fun v2 =>
   (match v2 with
   | .inl v3 =>
    some (((Decidable.decide ((↑(List.length v3.1) : Int) ≤ 6), ()), ()))
   | .inr v3 =>
    some (((v3.1, ()), ()))
   )

noncomputable def R.impl_OpOK (K : Nat) (p0 : (Int) × R.T30) : Option (((Bool) × Unit) × Unit) :=
  obind (R.impl_NameOK K p0.2.2.1) fun v2 =>
   bif !v2.1.1 then
    some (((Bool.false, ()), ()))
   else
    bif p0.1 != 5 then
     bif !p0.2.2.2.1 == Array.toList (ByteArray.data (ByteArray.mk #[])) then
      some (((Bool.false, ()), ()))
     else
      bif p0.1 != 3 then
       bif Decidable.decide ((↑(List.length p0.2.2.2.2) : Int) > 0) then
        some (((Bool.false, ()), ()))
       else
        bif p0.1 == 1 then
         bif p0.1 == 1 then
          obind (R.impl_isHead K p0.2.1) fun v10 =>
           some (((v10.1.1, ()), ()))
         else
          bif p0.1 == 2 then
           bif p0.1 == 2 then
            some (((p0.2.1 == 0, ()), ()))
           else
            bif p0.1 == 3 then
             obind (R.impl_within K p0.2.1 0 60) fun v13 =>
              bif v13.1.1 then
               obind (R.impl_EditsOK K p0.2.2.2.2) fun v15 =>
                some (((v15.1.1, ()), ()))
              else
               some (((Bool.false, ()), ()))
            else
             bif p0.1 == 5 then
              bif p0.2.1 == 0 then
               obind (R.impl_NameOK K p0.2.2.2.1) fun v15 =>
                some (((v15.1.1, ()), ()))
              else
               some (((Bool.false, ()), ()))
             else
              some (((Bool.false, ()), ()))
          else
           bif p0.1 == 6 then
            some (((p0.2.1 == 0, ()), ()))
           else
            bif p0.1 == 3 then
             obind (R.impl_within K p0.2.1 0 60) fun v13 =>
              bif v13.1.1 then
               obind (R.impl_EditsOK K p0.2.2.2.2) fun v15 =>
                some (((v15.1.1, ()), ()))
              else
               some (((Bool.false, ()), ()))
            else
             bif p0.1 == 5 then
              bif p0.2.1 == 0 then
               obind (R.impl_NameOK K p0.2.2.2.1) fun v15 =>
                some (((v15.1.1, ()), ()))
              else
               some (((Bool.false, ()), ()))
             else
              some (((Bool.false, ()), ()))
        else
         bif p0.1 == 4 then
          obind (R.impl_isHead K p0.2.1) fun v10 =>
           some (((v10.1.1, ()), ()))
         else
          bif p0.1 == 2 then
           bif p0.1 == 2 then
            some (((p0.2.1 == 0, ()), ()))
           else
            bif p0.1 == 3 then
             obind (R.impl_within K p0.2.1 0 60) fun v13 =>
              bif v13.1.1 then
               obind (R.impl_EditsOK K p0.2.2.2.2) fun v15 =>
                some (((v15.1.1, ()), ()))
              else
               some (((Bool.false, ()), ()))
            else
             bif p0.1 == 5 then
              bif p0.2.1 == 0 then
               obind (R.impl_NameOK K p0.2.2.2.1) fun v15 =>
                some (((v15.1.1, ()), ()))
              else
               some (((Bool.false, ()), ()))
             else
              some (((Bool.false, ()), ()))
          else
           bif p0.1 == 6 then
            some (((p0.2.1 == 0, ()), ()))
           else
            bif p0.1 == 3 then
             obind (R.impl_within K p0.2.1 0 60) fun v13 =>
              bif v13.1.1 then
               obind (R.impl_EditsOK K p0.2.2.2.2) fun v15 =>
                some (((v15.1.1, ()), ()))
              else
               some (((Bool.false, ()), ()))
            else
             bif p0.1 == 5 then
              bif p0.2.1 == 0 then
               obind (R.impl_NameOK K p0.2.2.2.1) fun v15 =>
                some (((v15.1.1, ()), ()))
              else
               some (((Bool.false, ()), ()))
             else
              some (((Bool.false, ()), ()))
      else
       bif p0.1 == 1 then
        bif p0.1 == 1 then
         obind (R.impl_isHead K p0.2.1) fun v9 =>
          some (((v9.1.1, ()), ()))
        else
         bif p0.1 == 2 then
          bif p0.1 == 2 then
           some (((p0.2.1 == 0, ()), ()))
          else
           bif p0.1 == 3 then
            obind (R.impl_within K p0.2.1 0 60) fun v12 =>
             bif v12.1.1 then
              obind (R.impl_EditsOK K p0.2.2.2.2) fun v14 =>
               some (((v14.1.1, ()), ()))
             else
              some (((Bool.false, ()), ()))
           else
            bif p0.1 == 5 then
             bif p0.2.1 == 0 then
              obind (R.impl_NameOK K p0.2.2.2.1) fun v14 =>
               some (((v14.1.1, ()), ()))
             else
              some (((Bool.false, ()), ()))
            else
             some (((Bool.false, ()), ()))
         else
          bif p0.1 == 6 then
           some (((p0.2.1 == 0, ()), ()))
          else
           bif p0.1 == 3 then
            obind (R.impl_within K p0.2.1 0 60) fun v12 =>
             bif v12.1.1 then
              obind (R.impl_EditsOK K p0.2.2.2.2) fun v14 =>
               some (((v14.1.1, ()), ()))
             else
              some (((Bool.false, ()), ()))
           else
            bif p0.1 == 5 then
             bif p0.2.1 == 0 then
              obind (R.impl_NameOK K p0.2.2.2.1) fun v14 =>
               some (((v14.1.1, ()), ()))
             else
              some (((Bool.false, ()), ()))
            else
             some (((Bool.false, ()), ()))
       else
        bif p0.1 == 4 then
         obind (R.impl_isHead K p0.2.1) fun v9 =>
          some (((v9.1.1, ()), ()))
        else
         bif p0.1 == 2 then
          bif p0.1 == 2 then
           some (((p0.2.1 == 0, ()), ()))
          else
           bif p0.1 == 3 then
            obind (R.impl_within K p0.2.1 0 60) fun v12 =>
             bif v12.1.1 then
              obind (R.impl_EditsOK K p0.2.2.2.2) fun v14 =>
               some (((v14.1.1, ()), ()))
             else
              some (((Bool.false, ()), ()))
           else
            bif p0.1 == 5 then
             bif p0.2.1 == 0 then
              obind (R.impl_NameOK K p0.2.2.2.1) fun v14 =>
               some (((v14.1.1, ()), ()))
             else
              some (((Bool.false, ()), ()))
            else
             some (((Bool.false, ()), ()))
         else
          bif p0.1 == 6 then
           some (((p0.2.1 == 0, ()), ()))
          else
           bif p0.1 == 3 then
            obind (R.impl_within K p0.2.1 0 60) fun v12 =>
             bif v12.1.1 then
              obind (R.impl_EditsOK K p0.2.2.2.2) fun v14 =>
               some (((v14.1.1, ()), ()))
             else
              some (((Bool.false, ()), ()))
           else
            bif p0.1 == 5 then
             bif p0.2.1 == 0 then
              obind (R.impl_NameOK K p0.2.2.2.1) fun v14 =>
               some (((v14.1.1, ()), ()))
             else
              some (((Bool.false, ()), ()))
            else
             some (((Bool.false, ()), ()))
    else
     bif p0.1 != 3 then
      bif Decidable.decide ((↑(List.length p0.2.2.2.2) : Int) > 0) then
       some (((Bool.false, ()), ()))
      else
       bif p0.1 == 1 then
        bif p0.1 == 1 then
         obind (R.impl_isHead K p0.2.1) fun v9 =>
          some (((v9.1.1, ()), ()))
        else
         bif p0.1 == 2 then
          bif p0.1 == 2 then
           some (((p0.2.1 == 0, ()), ()))
          else
           bif p0.1 == 3 then
            obind (R.impl_within K p0.2.1 0 60) fun v12 =>
             bif v12.1.1 then
              obind (R.impl_EditsOK K p0.2.2.2.2) fun v14 =>
               some (((v14.1.1, ()), ()))
             else
              some (((Bool.false, ()), ()))
           else
            bif p0.1 == 5 then
             bif p0.2.1 == 0 then
              obind (R.impl_NameOK K p0.2.2.2.1) fun v14 =>
               some (((v14.1.1, ()), ()))
             else
              some (((Bool.false, ()), ()))
            else
             some (((Bool.false, ()), ()))
         else
          bif p0.1 == 6 then
           some (((p0.2.1 == 0, ()), ()))
          else
           bif p0.1 == 3 then
            obind (R.impl_within K p0.2.1 0 60) fun v12 =>
             bif v12.1.1 then
              obind (R.impl_EditsOK K p0.2.2.2.2) fun v14 =>
               some (((v14.1.1, ()), ()))
             else
              some (((Bool.false, ()), ()))
           else
            bif p0.1 == 5 then
             bif p0.2.1 == 0 then
              obind (R.impl_NameOK K p0.2.2.2.1) fun v14 =>
               some (((v14.1.1, ()), ()))
             else
              some (((Bool.false, ()), ()))
            else
             some (((Bool.false, ()), ()))
       else
        bif p0.1 == 4 then
         obind (R.impl_isHead K p0.2.1) fun v9 =>
          some (((v9.1.1, ()), ()))
        else
         bif p0.1 == 2 then
          bif p0.1 == 2 then
           some (((p0.2.1 == 0, ()), ()))
          else
           bif p0.1 == 3 then
            obind (R.impl_within K p0.2.1 0 60) fun v12 =>
             bif v12.1.1 then
              obind (R.impl_EditsOK K p0.2.2.2.2) fun v14 =>
               some (((v14.1.1, ()), ()))
             else
              some (((Bool.false, ()), ()))
           else
            bif p0.1 == 5 then
             bif p0.2.1 == 0 then
              obind (R.impl_NameOK K p0.2.2.2.1) fun v14 =>
               some (((v14.1.1, ()), ()))
             else
              some (((Bool.false, ()), ()))
            else
             some (((Bool.false, ()), ()))
         else
          bif p0.1 == 6 then
           some (((p0.2.1 == 0, ()), ()))
          else
           bif p0.1 == 3 then
            obind (R.impl_within K p0.2.1 0 60) fun v12 =>
             bif v12.1.1 then
              obind (R.impl_EditsOK K p0.2.2.2.2) fun v14 =>
               some (((v14.1.1, ()), ()))
             else
              some (((Bool.false, ()), ()))
           else
            bif p0.1 == 5 then
             bif p0.2.1 == 0 then
              obind (R.impl_NameOK K p0.2.2.2.1) fun v14 =>
               some (((v14.1.1, ()), ()))
             else
              some (((Bool.false, ()), ()))
            else
             some (((Bool.false, ()), ()))
     else
      bif p0.1 == 1 then
       bif p0.1 == 1 then
        obind (R.impl_isHead K p0.2.1) fun v8 =>
         some (((v8.1.1, ()), ()))
       else
        bif p0.1 == 2 then
         bif p0.1 == 2 then
          some (((p0.2.1 == 0, ()), ()))
         else
          bif p0.1 == 3 then
           obind (R.impl_within K p0.2.1 0 60) fun v11 =>
            bif v11.1.1 then
             obind (R.impl_EditsOK K p0.2.2.2.2) fun v13 =>
              some (((v13.1.1, ()), ()))
            else
             some (((Bool.false, ()), ()))
          else
           bif p0.1 == 5 then
            bif p0.2.1 == 0 then
             obind (R.impl_NameOK K p0.2.2.2.1) fun v13 =>
              some (((v13.1.1, ()), ()))
            else
             some (((Bool.false, ()), ()))
           else
            some (((Bool.false, ()), ()))
        else
         bif p0.1 == 6 then
          some (((p0.2.1 == 0, ()), ()))
         else
          bif p0.1 == 3 then
           obind (R.impl_within K p0.2.1 0 60) fun v11 =>
            bif v11.1.1 then
             obind (R.impl_EditsOK K p0.2.2.2.2) fun v13 =>
              some (((v13.1.1, ()), ()))
            else
             some (((Bool.false, ()), ()))
          else
           bif p0.1 == 5 then
            bif p0.2.1 == 0 then
             obind (R.impl_NameOK K p0.2.2.2.1) fun v13 =>
              some (((v13.1.1, ()), ()))
            else
             some (((Bool.false, ()), ()))
           else
            some (((Bool.false, ()), ()))
      else
       bif p0.1 == 4 then
        obind (R.impl_isHead K p0.2.1) fun v8 =>
         some (((v8.1.1, ()), ()))
       else
        bif p0.1 == 2 then
         bif p0.1 == 2 then
          some (((p0.2.1 == 0, ()), ()))
         else
          bif p0.1 == 3 then
           obind (R.impl_within K p0.2.1 0 60) fun v11 =>
            bif v11.1.1 then
             obind (R.impl_EditsOK K p0.2.2.2.2) fun v13 =>
              some (((v13.1.1, ()), ()))
            else
             some (((Bool.false, ()), ()))
          else
           bif p0.1 == 5 then
            bif p0.2.1 == 0 then
             obind (R.impl_NameOK K p0.2.2.2.1) fun v13 =>
              some (((v13.1.1, ()), ()))
            else
             some (((Bool.false, ()), ()))
           else
            some (((Bool.false, ()), ()))
        else
         bif p0.1 == 6 then
          some (((p0.2.1 == 0, ()), ()))
         else
          bif p0.1 == 3 then
           obind (R.impl_within K p0.2.1 0 60) fun v11 =>
            bif v11.1.1 then
             obind (R.impl_EditsOK K p0.2.2.2.2) fun v13 =>
              some (((v13.1.1, ()), ()))
            else
             some (((Bool.false, ()), ()))
          else
           bif p0.1 == 5 then
            bif p0.2.1 == 0 then
             obind (R.impl_NameOK K p0.2.2.2.1) fun v13 =>
              some (((v13.1.1, ()), ()))
            else
             some (((Bool.false, ()), ()))
           else
            some (((Bool.false, ()), ()))

noncomputable def R.impl_WishOK (K : Nat) (p0 : (Int) × R.T33) : Option (((Bool) × Unit) × Unit) :=
  obind (R.impl_hasSource K p0.1) fun v2 =>
   bif !v2.1.1 then
    bif p0.2.2.1 == Array.toList (ByteArray.data (ByteArray.mk #[])) then
     obind (R.impl_Wish_op K p0 0) fun v5 =>
      obind (R.impl_OpOK K v5.1.1) fun v6 =>
       some (((v6.1.1, ()), ()))
    else
     some (((Bool.false, ()), ()))
   else
    obind (R.impl_NameOK K p0.2.2.1) fun v4 =>
     bif v4.1.1 then
      obind (R.impl_Wish_op K p0 1) fun v6 =>
       obind (R.impl_OpOK K v6.1.1) fun v7 =>
        some (((v7.1.1, ()), ()))
     else
      some (((Bool.false, ()), ()))

noncomputable def R.L_impl_ownWishes_0 (K : Nat) : Nat → (R.T37 × ((Int) × R.T64)) → Option R.T63
  | 0, _ => none
  | n + 1, (q0, (q1, (q2, (q3, (q4, ()))))) =>
    bif Decidable.decide (q2 < q1) then
     bif Decidable.decide (0 ≤ q2) && Decidable.decide (q2 < (↑(List.length q0) : Int)) then
      obind (R.slices_Clone_impl_Edit K (Prod.snd (Prod.snd (Prod.snd (Prod.snd (List.getD q0 (Int.toNat q2) (0, [], [], [], []))))))) fun v6 =>
       bif Nat.ble (List.length q4 + 1) 268435456 then
        R.L_impl_ownWishes_0 K n (q0, q1, Go.IntKind.wrap Go.IntKind.i64 (q2 + 1), q3, q4 ++ [(Prod.fst (List.getD q0 (Int.toNat q2) (0, [], [], [], [])), Prod.fst (Prod.snd (List.getD q0 (Int.toNat q2) (0, [], [], [], []))), Prod.fst (Prod.snd (Prod.snd (List.getD q0 (Int.toNat q2) (0, [], [], [], [])))), Prod.fst (Prod.snd (Prod.snd (Prod.snd (List.getD q0 (Int.toNat q2) (0, [], [], [], []))))), v6.1.1)], ())
       else
        none
     else
      none
    else
     some (Sum.inl (q3, q4, ()))

noncomputable def R.impl_ownWishes (K : Nat) (p0 : List R.T36) : Option R.T45 :=
  obind (R.L_impl_ownWishes_0 K K (p0, (↑(List.length p0) : Int), 0, [], [], ())) fun v2 =>
   (match v2 with
   | .inl v3 =>
    some (((v3.2.1, ()), ()))
   | .inr v3 =>
    none
   )

noncomputable def R.L_impl_areAll_impl_Wish__impl_WishOK_0 (K : Nat) : Nat → (R.T37 × ((Bool) × (R.T37 × (R.T37 × ((Bool) × (R.T37 × R.T49)))))) → Option ((R.T37 × ((Bool) × (R.T37 × (R.T37 × ((Bool) × (R.T37 × ((Int) × Unit))))))) ⊕ (R.T37 × ((Bool) × (R.T37 × (R.T37 × ((Bool) × (R.T37 × ((Int) × Unit))))))))
  | 0, _ => none
  | n + 1, (q0, (q1, (q2, (q3, (q4, (q5, (q6, (q7, (q8, (q9, ())))))))))) =>
    bif Decidable.decide (q9 < q8) then
     bif Decidable.decide (0 ≤ q9) && Decidable.decide (q9 < (↑(List.length q6) : Int)) then
      obind (R.impl_WishOK K (List.getD q6 (Int.toNat q9) (0, [], [], [], []))) fun v6 =>
       bif !v6.1.1 then
        some (Sum.inr (q0, q1, q2, q3, q4, q5, q9, ()))
       else
        R.L_impl_areAll_impl_Wish__impl_WishOK_0 K n (q0, q1, q2, q3, q4, q5, q6, q7, q8, Go.IntKind.wrap Go.IntKind.i64 (q9 + 1), ())
     else
      none
    else
     some (Sum.inl (q0, q1, q2, q3, q4, q5, q7, ()))

noncomputable def R.impl_areAll_impl_Wish__impl_WishOK (K : Nat) (p0 : List R.T36) : Option (((Bool) × Unit) × Unit) :=
  obind (R.L_impl_areAll_impl_Wish__impl_WishOK_0 K K (p0, Bool.false, p0, p0, Bool.false, p0, p0, 0, (↑(List.length p0) : Int), 0, ())) fun v2 =>
   (match v2 with
   | .inl v3 =>
    some (((!Decidable.decide (-1 ≥ 0), ()), ()))
   | .inr v3 =>
    some (((!Decidable.decide (v3.2.2.2.2.2.2.1 ≥ 0), ()), ()))
   )

noncomputable def R.impl_NewClient (K : Nat) (p0 : List R.T36) : Option ((R.T55 × ((Int) × Unit)) × Unit) :=
  bif !Decidable.decide ((↑(List.length p0) : Int) ≤ 4096) then
   some (((([], 0, 0, 0, 0, 0, 0, 0, []), 2, ()), ()))
  else
   bif Decidable.decide ((↑(List.length p0) : Int) > 6) then
    some (((([], 0, 0, 0, 0, 0, 0, 0, []), 6, ()), ()))
   else
    obind (R.impl_areAll_impl_Wish__impl_WishOK K p0) fun v4 =>
     bif !v4.1.1 then
      some (((([], 0, 0, 0, 0, 0, 0, 0, []), 1, ()), ()))
     else
      obind (R.impl_ownWishes K p0) fun v6 =>
       some ((((v6.1.1, 0, 0, 0, 0, 0, 0, 0, []), 0, ()), ()))

noncomputable def R.impl_versionOf (K : Nat) (p0 : List R.T3) (p1 : List UInt8) : Option (((Int) × Unit) × Unit) :=
  obind (R.impl_place K p0 p1) fun v2 =>
   bif Decidable.decide (v2.1.1 ≥ 0) then
    bif Decidable.decide (0 ≤ v2.1.1) && Decidable.decide (v2.1.1 < (↑(List.length p0) : Int)) then
     some (((Prod.fst (Prod.snd (Prod.snd (List.getD p0 (Int.toNat v2.1.1) ([], 0, 0, Bool.false)))), ()), ()))
    else
     none
   else
    some (((0, ()), ()))

noncomputable def R.L_impl_NewWorld_0 (K : Nat) : Nat → ((List (List UInt8)) × ((Int) × (R.T39 × ((Int) × R.T99)))) → Option (((List (List UInt8)) × R.T99) ⊕ R.T74)
  | 0, _ => none
  | n + 1, (q0, (q1, (q2, (q3, (q4, (q5, (q6, (q7, (q8, (q9, (q10, (q11, (q12, (q13, (q14, (q15, (q16, (q17, (q18, ()))))))))))))))))))) =>
    bif Decidable.decide (q4 < q3) then
     bif Decidable.decide (0 ≤ q4) && Decidable.decide (q4 < (↑(List.length q2) : Int)) then
      obind (R.impl_NewClient K (List.getD q2 (Int.toNat q4) [])) fun v6 =>
       bif v6.1.2.1 != 0 then
        some (Sum.inr (1, 0, [], [], [], [], [], ()))
       else
        bif Nat.ble (List.length q16 + 1) 268435456 then
         R.L_impl_NewWorld_0 K n (q0, q1, q2, q3, Go.IntKind.wrap Go.IntKind.i64 (q4 + 1), q5, q6, q7, q8, q9, q10, q11, q12, q13, q14, q15, q16 ++ [v6.1.1], q17, q18, ())
        else
         none
     else
      none
    else
     some (Sum.inl (q0, q1, q5, q6, q7, q8, q9, q10, q11, q12, q13, q14, q15, q16, q17, q18, ()))

noncomputable def R.L_impl_NewWorld_1 (K : Nat) : Nat → ((Int) × ((List (List UInt8)) × ((Int) × R.T99))) → Option (R.T94 ⊕ R.T74)
  | 0, _ => none
  | n + 1, (q0, (q1, (q2, (q3, (q4, (q5, (q6, (q7, (q8, (q9, (q10, (q11, (q12, (q13, (q14, (q15, (q16, (q17, ())))))))))))))))))) =>
    bif Decidable.decide (q3 < q2) then
     bif Decidable.decide (0 ≤ q3) && Decidable.decide (q3 < (↑(List.length q1) : Int)) then
      obind (R.impl_NameOK K (List.getD q1 (Int.toNat q3) [])) fun v6 =>
       bif !v6.1.1 then
        some (Sum.inr (10, 0, [], [], [], [], [], ()))
       else
        obind (R.impl_versionOf K q5 (List.getD q1 (Int.toNat q3) [])) fun v8 =>
         bif Nat.ble (List.length q16 + 1) 268435456 then
          R.L_impl_NewWorld_1 K n (q0, q1, q2, Go.IntKind.wrap Go.IntKind.i64 (q3 + 1), q4, q5, q6, q7, q8, q9, q10, q11, q12, q13, q14, q15, q16 ++ [(List.getD q1 (Int.toNat q3) [], v8.1.1, [])], q17, ())
         else
          none
     else
      none
    else
     some (Sum.inl (q0, q6, q7, q8, q9, q10, q11, q12, q13, q14, q15, q16, q17, ()))

noncomputable def R.impl_NewWorld (K : Nat) (p0 : R.T10 × R.T9) (p1 : List R.T37) (p2 : List (List UInt8)) : Option ((R.T71 × ((Int) × Unit)) × Unit) :=
  bif !Decidable.decide ((↑(List.length p1) : Int) ≤ 4096) then
   some ((((([], []), [], [], [], 0), 2, ()), ()))
  else
   bif !Decidable.decide ((↑(List.length p2) : Int) ≤ 4096) then
    some ((((([], []), [], [], [], 0), 2, ()), ()))
   else
    obind (R.impl_BaseOK K p0) fun v4 =>
     bif !v4.1.1 then
      some ((((([], []), [], [], [], 0), 1, ()), ()))
     else
      bif Decidable.decide ((↑(List.length p1) : Int) > 5) then
       some ((((([], []), [], [], [], 0), 6, ()), ()))
      else
       bif Decidable.decide ((↑(List.length p2) : Int) > 3) then
        some ((((([], []), [], [], [], 0), 6, ()), ()))
       else
        obind (R.impl_Base_own K p0) fun v8 =>
         obind (R.L_impl_NewWorld_0 K K (p2, 0, p1, (↑(List.length p1) : Int), 0, p0.1, p0.2, 0, 0, [], [], [], [], [], v8.1.1.1, v8.1.1.2, [], [], [], ())) fun v9 =>
          (match v9 with
          | .inl v10 =>
           obind (R.L_impl_NewWorld_1 K K (v10.2.1, v10.1, (↑(List.length v10.1) : Int), 0, v10.2.2.1, v10.2.2.2.1, v10.2.2.2.2.1, v10.2.2.2.2.2.1, v10.2.2.2.2.2.2.1, v10.2.2.2.2.2.2.2.1, v10.2.2.2.2.2.2.2.2.1, v10.2.2.2.2.2.2.2.2.2.1, v10.2.2.2.2.2.2.2.2.2.2.1, v10.2.2.2.2.2.2.2.2.2.2.2.1, v10.2.2.2.2.2.2.2.2.2.2.2.2.1, v10.2.2.2.2.2.2.2.2.2.2.2.2.2.1, v10.2.2.2.2.2.2.2.2.2.2.2.2.2.2.1, v10.2.2.2.2.2.2.2.2.2.2.2.2.2.2.2.1, ())) fun v11 =>
            (match v11 with
            | .inl v12 =>
             some (((((v12.2.2.2.2.2.2.2.2.1, v12.2.2.2.2.2.2.2.2.2.1), v12.2.2.2.2.2.2.2.2.2.2.1, v12.2.2.2.2.2.2.2.2.2.2.2.1, v12.2.2.2.2.2.2.2.2.2.2.2.2.1, v12.2.2.1), 0, ()), ()))
            | .inr v12 =>
             some (((((v12.2.2.1, v12.2.2.2.1), v12.2.2.2.2.1, v12.2.2.2.2.2.1, v12.2.2.2.2.2.2.1, v12.2.1), v12.1, ()), ()))
            )
          | .inr v10 =>
           some (((((v10.2.2.1, v10.2.2.2.1), v10.2.2.2.2.1, v10.2.2.2.2.2.1, v10.2.2.2.2.2.2.1, v10.2.1), v10.1, ()), ()))
          )

noncomputable def R.L_laws_eqIntS_0 (K : Nat) : Nat → ((List (Int)) × ((List (Int)) × ((Bool) × ((Int) × Unit)))) → Option (((Bool) × Unit) ⊕ ((Bool) × Unit))
  | 0, _ => none
  | n + 1, (q0, (q1, (q2, (q3, ())))) =>
    bif Decidable.decide (q3 < (↑(List.length q0) : Int)) then
     bif Decidable.decide (0 ≤ q3) && Decidable.decide (q3 < (↑(List.length q0) : Int)) then
      bif Decidable.decide (0 ≤ q3) && Decidable.decide (q3 < (↑(List.length q1) : Int)) then
       bif List.getD q0 (Int.toNat q3) 0 != List.getD q1 (Int.toNat q3) 0 then
        some (Sum.inr (Bool.false, ()))
       else
        R.L_laws_eqIntS_0 K n (q0, q1, q2, Go.IntKind.wrap Go.IntKind.i64 (q3 + 1), ())
      else
       none
     else
      none
    else
     some (Sum.inl (q2, ()))

noncomputable def R.laws_eqIntS (K : Nat) (p0 : List (Int)) (p1 : List (Int)) : Option (((Bool) × Unit) × Unit) :=
  bif (↑(List.length p0) : Int) != (↑(List.length p1) : Int) then
   some (((Bool.false, ()), ()))
  else
   obind (R.L_laws_eqIntS_0 K K (p0, p1, Bool.false, 0, ())) fun v3 =>
    (match v3 with
    | .inl v4 =>
     some (((Bool.true, ()), ()))
    | .inr v4 =>
     some (((v4.1, ()), ()))
    )

noncomputable def R.laws_eqEntry (K : Nat) (p0 : (List UInt8) × (Int)) (p1 : (List UInt8) × (Int)) : Option (((Bool) × Unit) × Unit) :=
  bif !p0.1 == p1.1 then
   some (((Bool.false, ()), ()))
  else
   bif p0.2 != p1.2 then
    some (((Bool.false, ()), ()))
   else
    some (((Bool.true, ()), ()))

noncomputable def R.L_laws_eqEntryS_0 (K : Nat) : Nat → ((List ((List UInt8) × (Int))) × ((List ((List UInt8) × (Int))) × ((Bool) × ((Int) × Unit)))) → Option (((Bool) × Unit) ⊕ ((Bool) × Unit))
  | 0, _ => none
  | n + 1, (q0, (q1, (q2, (q3, ())))) =>
    bif Decidable.decide (q3 < (↑(List.length q0) : Int)) then
     bif Decidable.decide (0 ≤ q3) && Decidable.decide (q3 < (↑(List.length q0) : Int)) then
      bif Decidable.decide (0 ≤ q3) && Decidable.decide (q3 < (↑(List.length q1) : Int)) then
       obind (R.laws_eqEntry K (List.getD q0 (Int.toNat q3) ([], 0)) (List.getD q1 (Int.toNat q3) ([], 0))) fun v7 =>
        bif !v7.1.1 then
         some (Sum.inr (Bool.false, ()))
        else
         R.L_laws_eqEntryS_0 K n (q0, q1, q2, Go.IntKind.wrap Go.IntKind.i64 (q3 + 1), ())
      else
       none
     else
      none
    else
     some (Sum.inl (q2, ()))

noncomputable def R.laws_eqEntryS (K : Nat) (p0 : List ((List UInt8) × (Int))) (p1 : List ((List UInt8) × (Int))) : Option (((Bool) × Unit) × Unit) :=
  bif (↑(List.length p0) : Int) != (↑(List.length p1) : Int) then
   some (((Bool.false, ()), ()))
  else
   obind (R.L_laws_eqEntryS_0 K K (p0, p1, Bool.false, 0, ())) fun v3 =>
    (match v3 with
    | .inl v4 =>
     some (((Bool.true, ()), ()))
    | .inr v4 =>
     some (((v4.1, ()), ()))
    )

noncomputable def R.laws_eqCommit (K : Nat) (p0 : (List (Int)) × (List ((List UInt8) × (Int)))) (p1 : (List (Int)) × (List ((List UInt8) × (Int)))) : Option (((Bool) × Unit) × Unit) :=
  obind (R.laws_eqIntS K p0.1 p1.1) fun v2 =>
   bif !v2.1.1 then
    some (((Bool.false, ()), ()))
   else
    obind (R.laws_eqEntryS K p0.2 p1.2) fun v4 =>
     bif !v4.1.1 then
      some (((Bool.false, ()), ()))
     else
      some (((Bool.true, ()), ()))

noncomputable def R.L_laws_eqCommitS_0 (K : Nat) : Nat → (R.T10 × (R.T10 × ((Bool) × ((Int) × Unit)))) → Option (((Bool) × Unit) ⊕ ((Bool) × Unit))
  | 0, _ => none
  | n + 1, (q0, (q1, (q2, (q3, ())))) =>
    bif Decidable.decide (q3 < (↑(List.length q0) : Int)) then
     bif Decidable.decide (0 ≤ q3) && Decidable.decide (q3 < (↑(List.length q0) : Int)) then
      bif Decidable.decide (0 ≤ q3) && Decidable.decide (q3 < (↑(List.length q1) : Int)) then
       obind (R.laws_eqCommit K (List.getD q0 (Int.toNat q3) ([], [])) (List.getD q1 (Int.toNat q3) ([], []))) fun v7 =>
        bif !v7.1.1 then
         some (Sum.inr (Bool.false, ()))
        else
         R.L_laws_eqCommitS_0 K n (q0, q1, q2, Go.IntKind.wrap Go.IntKind.i64 (q3 + 1), ())
      else
       none
     else
      none
    else
     some (Sum.inl (q2, ()))

noncomputable def R.laws_eqCommitS (K : Nat) (p0 : List R.T6) (p1 : List R.T6) : Option (((Bool) × Unit) × Unit) :=
  bif (↑(List.length p0) : Int) != (↑(List.length p1) : Int) then
   some (((Bool.false, ()), ()))
  else
   obind (R.L_laws_eqCommitS_0 K K (p0, p1, Bool.false, 0, ())) fun v3 =>
    (match v3 with
    | .inl v4 =>
     some (((Bool.true, ()), ()))
    | .inr v4 =>
     some (((v4.1, ()), ()))
    )

noncomputable def R.laws_eqRef (K : Nat) (p0 : (List UInt8) × ((Int) × ((Int) × (Bool)))) (p1 : (List UInt8) × ((Int) × ((Int) × (Bool)))) : Option (((Bool) × Unit) × Unit) :=
  bif !p0.1 == p1.1 then
   some (((Bool.false, ()), ()))
  else
   bif p0.2.1 != p1.2.1 then
    some (((Bool.false, ()), ()))
   else
    bif p0.2.2.1 != p1.2.2.1 then
     some (((Bool.false, ()), ()))
    else
     bif !p0.2.2.2 == p1.2.2.2 then
      some (((Bool.false, ()), ()))
     else
      some (((Bool.true, ()), ()))

noncomputable def R.L_laws_eqRefS_0 (K : Nat) : Nat → (R.T9 × (R.T9 × ((Bool) × ((Int) × Unit)))) → Option (((Bool) × Unit) ⊕ ((Bool) × Unit))
  | 0, _ => none
  | n + 1, (q0, (q1, (q2, (q3, ())))) =>
    bif Decidable.decide (q3 < (↑(List.length q0) : Int)) then
     bif Decidable.decide (0 ≤ q3) && Decidable.decide (q3 < (↑(List.length q0) : Int)) then
      bif Decidable.decide (0 ≤ q3) && Decidable.decide (q3 < (↑(List.length q1) : Int)) then
       obind (R.laws_eqRef K (List.getD q0 (Int.toNat q3) ([], 0, 0, Bool.false)) (List.getD q1 (Int.toNat q3) ([], 0, 0, Bool.false))) fun v7 =>
        bif !v7.1.1 then
         some (Sum.inr (Bool.false, ()))
        else
         R.L_laws_eqRefS_0 K n (q0, q1, q2, Go.IntKind.wrap Go.IntKind.i64 (q3 + 1), ())
      else
       none
     else
      none
    else
     some (Sum.inl (q2, ()))

noncomputable def R.laws_eqRefS (K : Nat) (p0 : List R.T3) (p1 : List R.T3) : Option (((Bool) × Unit) × Unit) :=
  bif (↑(List.length p0) : Int) != (↑(List.length p1) : Int) then
   some (((Bool.false, ()), ()))
  else
   obind (R.L_laws_eqRefS_0 K K (p0, p1, Bool.false, 0, ())) fun v3 =>
    (match v3 with
    | .inl v4 =>
     some (((Bool.true, ()), ()))
    | .inr v4 =>
     some (((v4.1, ()), ()))
    )

noncomputable def R.laws_eqBase (K : Nat) (p0 : R.T10 × R.T9) (p1 : R.T10 × R.T9) : Option (((Bool) × Unit) × Unit) :=
  obind (R.laws_eqCommitS K p0.1 p1.1) fun v2 =>
   bif !v2.1.1 then
    some (((Bool.false, ()), ()))
   else
    obind (R.laws_eqRefS K p0.2 p1.2) fun v4 =>
     bif !v4.1.1 then
      some (((Bool.false, ()), ()))
     else
      some (((Bool.true, ()), ()))

noncomputable def R.laws_eqEdit (K : Nat) (p0 : (List UInt8) × ((Int) × (Bool))) (p1 : (List UInt8) × ((Int) × (Bool))) : Option (((Bool) × Unit) × Unit) :=
  bif !p0.1 == p1.1 then
   some (((Bool.false, ()), ()))
  else
   bif p0.2.1 != p1.2.1 then
    some (((Bool.false, ()), ()))
   else
    bif !p0.2.2 == p1.2.2 then
     some (((Bool.false, ()), ()))
    else
     some (((Bool.true, ()), ()))

noncomputable def R.L_laws_eqEditS_0 (K : Nat) : Nat → (R.T0 × (R.T0 × ((Bool) × ((Int) × Unit)))) → Option (((Bool) × Unit) ⊕ ((Bool) × Unit))
  | 0, _ => none
  | n + 1, (q0, (q1, (q2, (q3, ())))) =>
    bif Decidable.decide (q3 < (↑(List.length q0) : Int)) then
     bif Decidable.decide (0 ≤ q3) && Decidable.decide (q3 < (↑(List.length q0) : Int)) then
      bif Decidable.decide (0 ≤ q3) && Decidable.decide (q3 < (↑(List.length q1) : Int)) then
       obind (R.laws_eqEdit K (List.getD q0 (Int.toNat q3) ([], 0, Bool.false)) (List.getD q1 (Int.toNat q3) ([], 0, Bool.false))) fun v7 =>
        bif !v7.1.1 then
         some (Sum.inr (Bool.false, ()))
        else
         R.L_laws_eqEditS_0 K n (q0, q1, q2, Go.IntKind.wrap Go.IntKind.i64 (q3 + 1), ())
      else
       none
     else
      none
    else
     some (Sum.inl (q2, ()))

noncomputable def R.laws_eqEditS (K : Nat) (p0 : List ((List UInt8) × ((Int) × (Bool)))) (p1 : List ((List UInt8) × ((Int) × (Bool)))) : Option (((Bool) × Unit) × Unit) :=
  bif (↑(List.length p0) : Int) != (↑(List.length p1) : Int) then
   some (((Bool.false, ()), ()))
  else
   obind (R.L_laws_eqEditS_0 K K (p0, p1, Bool.false, 0, ())) fun v3 =>
    (match v3 with
    | .inl v4 =>
     some (((Bool.true, ()), ()))
    | .inr v4 =>
     some (((v4.1, ()), ()))
    )

noncomputable def R.laws_eqWish (K : Nat) (p0 : (Int) × R.T33) (p1 : (Int) × R.T33) : Option (((Bool) × Unit) × Unit) :=
  bif p0.1 != p1.1 then
   some (((Bool.false, ()), ()))
  else
   bif !p0.2.1 == p1.2.1 then
    some (((Bool.false, ()), ()))
   else
    bif !p0.2.2.1 == p1.2.2.1 then
     some (((Bool.false, ()), ()))
    else
     bif !p0.2.2.2.1 == p1.2.2.2.1 then
      some (((Bool.false, ()), ()))
     else
      obind (R.laws_eqEditS K p0.2.2.2.2 p1.2.2.2.2) fun v6 =>
       bif !v6.1.1 then
        some (((Bool.false, ()), ()))
       else
        some (((Bool.true, ()), ()))

noncomputable def R.L_laws_eqWishS_0 (K : Nat) : Nat → (R.T37 × (R.T37 × ((Bool) × ((Int) × Unit)))) → Option (((Bool) × Unit) ⊕ ((Bool) × Unit))
  | 0, _ => none
  | n + 1, (q0, (q1, (q2, (q3, ())))) =>
    bif Decidable.decide (q3 < (↑(List.length q0) : Int)) then
     bif Decidable.decide (0 ≤ q3) && Decidable.decide (q3 < (↑(List.length q0) : Int)) then
      bif Decidable.decide (0 ≤ q3) && Decidable.decide (q3 < (↑(List.length q1) : Int)) then
       obind (R.laws_eqWish K (List.getD q0 (Int.toNat q3) (0, [], [], [], [])) (List.getD q1 (Int.toNat q3) (0, [], [], [], []))) fun v7 =>
        bif !v7.1.1 then
         some (Sum.inr (Bool.false, ()))
        else
         R.L_laws_eqWishS_0 K n (q0, q1, q2, Go.IntKind.wrap Go.IntKind.i64 (q3 + 1), ())
      else
       none
     else
      none
    else
     some (Sum.inl (q2, ()))

noncomputable def R.laws_eqWishS (K : Nat) (p0 : List R.T36) (p1 : List R.T36) : Option (((Bool) × Unit) × Unit) :=
  bif (↑(List.length p0) : Int) != (↑(List.length p1) : Int) then
   some (((Bool.false, ()), ()))
  else
   obind (R.L_laws_eqWishS_0 K K (p0, p1, Bool.false, 0, ())) fun v3 =>
    (match v3 with
    | .inl v4 =>
     some (((Bool.true, ()), ()))
    | .inr v4 =>
     some (((v4.1, ()), ()))
    )

noncomputable def R.laws_eqClient (K : Nat) (p0 : R.T37 × R.T35) (p1 : R.T37 × R.T35) : Option (((Bool) × Unit) × Unit) :=
  obind (R.laws_eqWishS K p0.1 p1.1) fun v2 =>
   bif !v2.1.1 then
    some (((Bool.false, ()), ()))
   else
    bif p0.2.1 != p1.2.1 then
     some (((Bool.false, ()), ()))
    else
     bif p0.2.2.1 != p1.2.2.1 then
      some (((Bool.false, ()), ()))
     else
      bif p0.2.2.2.1 != p1.2.2.2.1 then
       some (((Bool.false, ()), ()))
      else
       bif p0.2.2.2.2.1 != p1.2.2.2.2.1 then
        some (((Bool.false, ()), ()))
       else
        bif p0.2.2.2.2.2.1 != p1.2.2.2.2.2.1 then
         some (((Bool.false, ()), ()))
        else
         bif p0.2.2.2.2.2.2.1 != p1.2.2.2.2.2.2.1 then
          some (((Bool.false, ()), ()))
         else
          bif p0.2.2.2.2.2.2.2.1 != p1.2.2.2.2.2.2.2.1 then
           some (((Bool.false, ()), ()))
          else
           obind (R.laws_eqEntryS K p0.2.2.2.2.2.2.2.2 p1.2.2.2.2.2.2.2.2) fun v11 =>
            bif !v11.1.1 then
             some (((Bool.false, ()), ()))
            else
             some (((Bool.true, ()), ()))

noncomputable def R.L_laws_eqClientS_0 (K : Nat) : Nat → (R.T57 × (R.T57 × ((Bool) × ((Int) × Unit)))) → Option (((Bool) × Unit) ⊕ ((Bool) × Unit))
  | 0, _ => none
  | n + 1, (q0, (q1, (q2, (q3, ())))) =>
    bif Decidable.decide (q3 < (↑(List.length q0) : Int)) then
     bif Decidable.decide (0 ≤ q3) && Decidable.decide (q3 < (↑(List.length q0) : Int)) then
      bif Decidable.decide (0 ≤ q3) && Decidable.decide (q3 < (↑(List.length q1) : Int)) then
       obind (R.laws_eqClient K (List.getD q0 (Int.toNat q3) ([], 0, 0, 0, 0, 0, 0, 0, [])) (List.getD q1 (Int.toNat q3) ([], 0, 0, 0, 0, 0, 0, 0, []))) fun v7 =>
        bif !v7.1.1 then
         some (Sum.inr (Bool.false, ()))
        else
         R.L_laws_eqClientS_0 K n (q0, q1, q2, Go.IntKind.wrap Go.IntKind.i64 (q3 + 1), ())
      else
       none
     else
      none
    else
     some (Sum.inl (q2, ()))

noncomputable def R.laws_eqClientS (K : Nat) (p0 : List R.T55) (p1 : List R.T55) : Option (((Bool) × Unit) × Unit) :=
  bif (↑(List.length p0) : Int) != (↑(List.length p1) : Int) then
   some (((Bool.false, ()), ()))
  else
   obind (R.L_laws_eqClientS_0 K K (p0, p1, Bool.false, 0, ())) fun v3 =>
    (match v3 with
    | .inl v4 =>
     some (((Bool.true, ()), ()))
    | .inr v4 =>
     some (((v4.1, ()), ()))
    )

noncomputable def R.laws_eqEvent (K : Nat) (p0 : (Int) × ((Int) × (Bool))) (p1 : (Int) × ((Int) × (Bool))) : Option (((Bool) × Unit) × Unit) :=
  bif p0.1 != p1.1 then
   some (((Bool.false, ()), ()))
  else
   bif p0.2.1 != p1.2.1 then
    some (((Bool.false, ()), ()))
   else
    bif !p0.2.2 == p1.2.2 then
     some (((Bool.false, ()), ()))
    else
     some (((Bool.true, ()), ()))

noncomputable def R.L_laws_eqEventS_0 (K : Nat) : Nat → ((List ((Int) × ((Int) × (Bool)))) × ((List ((Int) × ((Int) × (Bool)))) × ((Bool) × ((Int) × Unit)))) → Option (((Bool) × Unit) ⊕ ((Bool) × Unit))
  | 0, _ => none
  | n + 1, (q0, (q1, (q2, (q3, ())))) =>
    bif Decidable.decide (q3 < (↑(List.length q0) : Int)) then
     bif Decidable.decide (0 ≤ q3) && Decidable.decide (q3 < (↑(List.length q0) : Int)) then
      bif Decidable.decide (0 ≤ q3) && Decidable.decide (q3 < (↑(List.length q1) : Int)) then
       obind (R.laws_eqEvent K (List.getD q0 (Int.toNat q3) (0, 0, Bool.false)) (List.getD q1 (Int.toNat q3) (0, 0, Bool.false))) fun v7 =>
        bif !v7.1.1 then
         some (Sum.inr (Bool.false, ()))
        else
         R.L_laws_eqEventS_0 K n (q0, q1, q2, Go.IntKind.wrap Go.IntKind.i64 (q3 + 1), ())
      else
       none
     else
      none
    else
     some (Sum.inl (q2, ()))

noncomputable def R.laws_eqEventS (K : Nat) (p0 : List ((Int) × ((Int) × (Bool)))) (p1 : List ((Int) × ((Int) × (Bool)))) : Option (((Bool) × Unit) × Unit) :=
  bif (↑(List.length p0) : Int) != (↑(List.length p1) : Int) then
   some (((Bool.false, ()), ()))
  else
   obind (R.L_laws_eqEventS_0 K K (p0, p1, Bool.false, 0, ())) fun v3 =>
    (match v3 with
    | .inl v4 =>
     some (((Bool.true, ()), ()))
    | .inr v4 =>
     some (((v4.1, ()), ()))
    )

noncomputable def R.laws_eqWatch (K : Nat) (p0 : (List UInt8) × R.T4) (p1 : (List UInt8) × R.T4) : Option (((Bool) × Unit) × Unit) :=
  bif !p0.1 == p1.1 then
   some (((Bool.false, ()), ()))
  else
   bif p0.2.1 != p1.2.1 then
    some (((Bool.false, ()), ()))
   else
    obind (R.laws_eqEventS K p0.2.2 p1.2.2) fun v4 =>
     bif !v4.1.1 then
      some (((Bool.false, ()), ()))
     else
      some (((Bool.true, ()), ()))

noncomputable def R.L_laws_eqWatchS_0 (K : Nat) : Nat → (R.T20 × (R.T20 × ((Bool) × ((Int) × Unit)))) → Option (((Bool) × Unit) ⊕ ((Bool) × Unit))
  | 0, _ => none
  | n + 1, (q0, (q1, (q2, (q3, ())))) =>
    bif Decidable.decide (q3 < (↑(List.length q0) : Int)) then
     bif Decidable.decide (0 ≤ q3) && Decidable.decide (q3 < (↑(List.length q0) : Int)) then
      bif Decidable.decide (0 ≤ q3) && Decidable.decide (q3 < (↑(List.length q1) : Int)) then
       obind (R.laws_eqWatch K (List.getD q0 (Int.toNat q3) ([], 0, [])) (List.getD q1 (Int.toNat q3) ([], 0, []))) fun v7 =>
        bif !v7.1.1 then
         some (Sum.inr (Bool.false, ()))
        else
         R.L_laws_eqWatchS_0 K n (q0, q1, q2, Go.IntKind.wrap Go.IntKind.i64 (q3 + 1), ())
      else
       none
     else
      none
    else
     some (Sum.inl (q2, ()))

noncomputable def R.laws_eqWatchS (K : Nat) (p0 : List R.T16) (p1 : List R.T16) : Option (((Bool) × Unit) × Unit) :=
  bif (↑(List.length p0) : Int) != (↑(List.length p1) : Int) then
   some (((Bool.false, ()), ()))
  else
   obind (R.L_laws_eqWatchS_0 K K (p0, p1, Bool.false, 0, ())) fun v3 =>
    (match v3 with
    | .inl v4 =>
     some (((Bool.true, ()), ()))
    | .inr v4 =>
     some (((v4.1, ()), ()))
    )

noncomputable def R.laws_eqOp (K : Nat) (p0 : (Int) × R.T30) (p1 : (Int) × R.T30) : Option (((Bool) × Unit) × Unit) :=
  bif p0.1 != p1.1 then
   some (((Bool.false, ()), ()))
  else
   bif p0.2.1 != p1.2.1 then
    some (((Bool.false, ()), ()))
   else
    bif !p0.2.2.1 == p1.2.2.1 then
     some (((Bool.false, ()), ()))
    else
     bif !p0.2.2.2.1 == p1.2.2.2.1 then
      some (((Bool.false, ()), ()))
     else
      obind (R.laws_eqEditS K p0.2.2.2.2 p1.2.2.2.2) fun v6 =>
       bif !v6.1.1 then
        some (((Bool.false, ()), ()))
       else
        some (((Bool.true, ()), ()))

noncomputable def R.L_laws_eqStringS_0 (K : Nat) : Nat → ((List (List UInt8)) × ((List (List UInt8)) × ((Bool) × ((Int) × Unit)))) → Option (((Bool) × Unit) ⊕ ((Bool) × Unit))
  | 0, _ => none
  | n + 1, (q0, (q1, (q2, (q3, ())))) =>
    bif Decidable.decide (q3 < (↑(List.length q0) : Int)) then
     bif Decidable.decide (0 ≤ q3) && Decidable.decide (q3 < (↑(List.length q0) : Int)) then
      bif Decidable.decide (0 ≤ q3) && Decidable.decide (q3 < (↑(List.length q1) : Int)) then
       bif !List.getD q0 (Int.toNat q3) [] == List.getD q1 (Int.toNat q3) [] then
        some (Sum.inr (Bool.false, ()))
       else
        R.L_laws_eqStringS_0 K n (q0, q1, q2, Go.IntKind.wrap Go.IntKind.i64 (q3 + 1), ())
      else
       none
     else
      none
    else
     some (Sum.inl (q2, ()))

noncomputable def R.laws_eqStringS (K : Nat) (p0 : List (List UInt8)) (p1 : List (List UInt8)) : Option (((Bool) × Unit) × Unit) :=
  bif (↑(List.length p0) : Int) != (↑(List.length p1) : Int) then
   some (((Bool.false, ()), ()))
  else
   obind (R.L_laws_eqStringS_0 K K (p0, p1, Bool.false, 0, ())) fun v3 =>
    (match v3 with
    | .inl v4 =>
     some (((Bool.true, ()), ()))
    | .inr v4 =>
     some (((v4.1, ()), ()))
    )

noncomputable def R.laws_eqResult (K : Nat) (p0 : (Int) × R.T24) (p1 : (Int) × R.T24) : Option (((Bool) × Unit) × Unit) :=
  bif p0.1 != p1.1 then
   some (((Bool.false, ()), ()))
  else
   bif p0.2.1 != p1.2.1 then
    some (((Bool.false, ()), ()))
   else
    bif p0.2.2.1 != p1.2.2.1 then
     some (((Bool.false, ()), ()))
    else
     obind (R.laws_eqStringS K p0.2.2.2.1 p1.2.2.2.1) fun v5 =>
      bif !v5.1.1 then
       some (((Bool.false, ()), ()))
      else
       obind (R.laws_eqEntryS K p0.2.2.2.2 p1.2.2.2.2) fun v7 =>
        bif !v7.1.1 then
         some (((Bool.false, ()), ()))
        else
         some (((Bool.true, ()), ()))

noncomputable def R.laws_eqMoment (K : Nat) (p0 : (Int) × R.T54) (p1 : (Int) × R.T54) : Option (((Bool) × Unit) × Unit) :=
  bif p0.1 != p1.1 then
   some (((Bool.false, ()), ()))
  else
   bif p0.2.1 != p1.2.1 then
    some (((Bool.false, ()), ()))
   else
    bif p0.2.2.1 != p1.2.2.1 then
     some (((Bool.false, ()), ()))
    else
     obind (R.laws_eqOp K p0.2.2.2.1 p1.2.2.2.1) fun v5 =>
      bif !v5.1.1 then
       some (((Bool.false, ()), ()))
      else
       obind (R.laws_eqResult K p0.2.2.2.2 p1.2.2.2.2) fun v7 =>
        bif !v7.1.1 then
         some (((Bool.false, ()), ()))
        else
         some (((Bool.true, ()), ()))

noncomputable def R.L_laws_eqMomentS_0 (K : Nat) : Nat → (R.T58 × (R.T58 × ((Bool) × ((Int) × Unit)))) → Option (((Bool) × Unit) ⊕ ((Bool) × Unit))
  | 0, _ => none
  | n + 1, (q0, (q1, (q2, (q3, ())))) =>
    bif Decidable.decide (q3 < (↑(List.length q0) : Int)) then
     bif Decidable.decide (0 ≤ q3) && Decidable.decide (q3 < (↑(List.length q0) : Int)) then
      bif Decidable.decide (0 ≤ q3) && Decidable.decide (q3 < (↑(List.length q1) : Int)) then
       obind (R.laws_eqMoment K (List.getD q0 (Int.toNat q3) (0, 0, 0, (0, 0, [], [], []), 0, 0, 0, [], [])) (List.getD q1 (Int.toNat q3) (0, 0, 0, (0, 0, [], [], []), 0, 0, 0, [], []))) fun v7 =>
        bif !v7.1.1 then
         some (Sum.inr (Bool.false, ()))
        else
         R.L_laws_eqMomentS_0 K n (q0, q1, q2, Go.IntKind.wrap Go.IntKind.i64 (q3 + 1), ())
      else
       none
     else
      none
    else
     some (Sum.inl (q2, ()))

noncomputable def R.laws_eqMomentS (K : Nat) (p0 : List R.T56) (p1 : List R.T56) : Option (((Bool) × Unit) × Unit) :=
  bif (↑(List.length p0) : Int) != (↑(List.length p1) : Int) then
   some (((Bool.false, ()), ()))
  else
   obind (R.L_laws_eqMomentS_0 K K (p0, p1, Bool.false, 0, ())) fun v3 =>
    (match v3 with
    | .inl v4 =>
     some (((Bool.true, ()), ()))
    | .inr v4 =>
     some (((v4.1, ()), ()))
    )

noncomputable def R.laws_eqWorld (K : Nat) (p0 : R.T38 × R.T68) (p1 : R.T38 × R.T68) : Option (((Bool) × Unit) × Unit) :=
  obind (R.laws_eqBase K p0.1 p1.1) fun v2 =>
   bif !v2.1.1 then
    some (((Bool.false, ()), ()))
   else
    obind (R.laws_eqClientS K p0.2.1 p1.2.1) fun v4 =>
     bif !v4.1.1 then
      some (((Bool.false, ()), ()))
     else
      obind (R.laws_eqWatchS K p0.2.2.1 p1.2.2.1) fun v6 =>
       bif !v6.1.1 then
        some (((Bool.false, ()), ()))
       else
        obind (R.laws_eqMomentS K p0.2.2.2.1 p1.2.2.2.1) fun v8 =>
         bif !v8.1.1 then
          some (((Bool.false, ()), ()))
         else
          bif p0.2.2.2.2 != p1.2.2.2.2 then
           some (((Bool.false, ()), ()))
          else
           some (((Bool.true, ()), ()))

noncomputable def R.L_laws_eqWishSS_0 (K : Nat) : Nat → (R.T39 × (R.T39 × ((Bool) × ((Int) × Unit)))) → Option (((Bool) × Unit) ⊕ ((Bool) × Unit))
  | 0, _ => none
  | n + 1, (q0, (q1, (q2, (q3, ())))) =>
    bif Decidable.decide (q3 < (↑(List.length q0) : Int)) then
     bif Decidable.decide (0 ≤ q3) && Decidable.decide (q3 < (↑(List.length q0) : Int)) then
      bif Decidable.decide (0 ≤ q3) && Decidable.decide (q3 < (↑(List.length q1) : Int)) then
       obind (R.laws_eqWishS K (List.getD q0 (Int.toNat q3) []) (List.getD q1 (Int.toNat q3) [])) fun v7 =>
        bif !v7.1.1 then
         some (Sum.inr (Bool.false, ()))
        else
         R.L_laws_eqWishSS_0 K n (q0, q1, q2, Go.IntKind.wrap Go.IntKind.i64 (q3 + 1), ())
      else
       none
     else
      none
    else
     some (Sum.inl (q2, ()))

noncomputable def R.laws_eqWishSS (K : Nat) (p0 : List R.T37) (p1 : List R.T37) : Option (((Bool) × Unit) × Unit) :=
  bif (↑(List.length p0) : Int) != (↑(List.length p1) : Int) then
   some (((Bool.false, ()), ()))
  else
   obind (R.L_laws_eqWishSS_0 K K (p0, p1, Bool.false, 0, ())) fun v3 =>
    (match v3 with
    | .inl v4 =>
     some (((Bool.true, ()), ()))
    | .inr v4 =>
     some (((v4.1, ()), ()))
    )

noncomputable def R.L_laws_markIntS_0 (K : Nat) : Nat → ((Int) × ((Int) × ((Int) × ((List (Int)) × Unit)))) → Option (((Int) × ((Int) × ((List (Int)) × Unit))) ⊕ Unit)
  | 0, _ => none
  | n + 1, (q0, (q1, (q2, (q3, ())))) =>
    bif Decidable.decide (q2 < (↑(List.length q3) : Int)) then
     bif Decidable.decide (0 ≤ q2) && Decidable.decide (q2 < (↑(List.length q3) : Int)) then
      R.L_laws_markIntS_0 K n (Go.IntKind.wrap Go.IntKind.i64 (q0 + 1), q1, Go.IntKind.wrap Go.IntKind.i64 (q2 + 1), List.set q3 (Int.toNat q2) q0, ())
     else
      none
    else
     some (Sum.inl (q0, q1, q3, ()))

noncomputable def R.laws_markIntS (K : Nat) (p0 : List (Int)) (p1 : Int) : Option (((Int) × Unit) × ((List (Int)) × Unit)) :=
  obind (R.L_laws_markIntS_0 K K (p1, 0, 0, p0, ())) fun v2 =>
   (match v2 with
   | .inl v3 =>
    some (((v3.1, ()), v3.2.2.1, ()))
   | .inr v3 =>
    none
   )

noncomputable def R.L_laws_markText_0 (K : Nat) : Nat → ((Int) × ((List UInt8) × ((List UInt8) × Unit))) → Option (((List UInt8) × ((List UInt8) × Unit)) ⊕ Unit)
  | 0, _ => none
  | n + 1, (q0, (q1, (q2, ()))) =>
    bif Decidable.decide (q0 > 0) then
     bif Nat.ble (List.length (Fw.bytesOut [Go.IntKind.wrap Go.IntKind.u8 (Go.IntKind.wrap Go.IntKind.i64 (48 + Int.tmod q0 10))]) + List.length q2) 268435456 then
      R.L_laws_markText_0 K n (Go.IntKind.wrap Go.IntKind.i64 (Int.tdiv q0 10), q1, Fw.bytesOut [Go.IntKind.wrap Go.IntKind.u8 (Go.IntKind.wrap Go.IntKind.i64 (48 + Int.tmod q0 10))] ++ q2, ())
     else
      none
    else
     some (Sum.inl (q1, q2, ()))

noncomputable def R.laws_markText (K : Nat) (p0 : Int) : Option (((List UInt8) × Unit) × Unit) :=
  bif Decidable.decide (p0 ≤ 0) then
   some (((Array.toList (ByteArray.data (ByteArray.mk #[109, 48])), ()), ()))
  else
   obind (R.L_laws_markText_0 K K (p0, Array.toList (ByteArray.data (ByteArray.mk #[])), Array.toList (ByteArray.data (ByteArray.mk #[])), ())) fun v3 =>
    (match v3 with
    | .inl v4 =>
     bif Nat.ble (List.length (Array.toList (ByteArray.data (ByteArray.mk #[109]))) + List.length v4.2.1) 268435456 then
      some (((Array.toList (ByteArray.data (ByteArray.mk #[109])) ++ v4.2.1, ()), ()))
     else
      none
    | .inr v4 =>
     none
    )

noncomputable def R.L_laws_markEntryS_0 (K : Nat) : Nat → ((Int) × ((Int) × ((Int) × ((List ((List UInt8) × (Int))) × Unit)))) → Option (((Int) × ((Int) × ((List ((List UInt8) × (Int))) × Unit))) ⊕ Unit)
  | 0, _ => none
  | n + 1, (q0, (q1, (q2, (q3, ())))) =>
    bif Decidable.decide (q2 < (↑(List.length q3) : Int)) then
     obind (R.laws_markText K q0) fun v5 =>
      bif Decidable.decide (0 ≤ q2) && Decidable.decide (q2 < (↑(List.length q3) : Int)) then
       bif Decidable.decide (0 ≤ q2) && Decidable.decide (q2 < (↑(List.length q3) : Int)) then
        bif Nat.ble (0 + 1 + 1) (1 + 1) && Nat.beq (Int.toNat q2) (Int.toNat q2) then
         R.L_laws_markEntryS_0 K n (Go.IntKind.wrap Go.IntKind.i64 (Go.IntKind.wrap Go.IntKind.i64 (q0 + 1) + 1), q1, Go.IntKind.wrap Go.IntKind.i64 (q2 + 1), List.set q3 (Int.toNat q2) (v5.1.1, Go.IntKind.wrap Go.IntKind.i64 (q0 + 1)), ())
        else
         none
       else
        none
      else
       none
    else
     some (Sum.inl (q0, q1, q3, ()))

noncomputable def R.laws_markEntryS (K : Nat) (p0 : List ((List UInt8) × (Int))) (p1 : Int) : Option (((Int) × Unit) × ((List ((List UInt8) × (Int))) × Unit)) :=
  obind (R.L_laws_markEntryS_0 K K (p1, 0, 0, p0, ())) fun v2 =>
   (match v2 with
   | .inl v3 =>
    some (((v3.1, ()), v3.2.2.1, ()))
   | .inr v3 =>
    none
   )

noncomputable def R.L_laws_markCommitS_0 (K : Nat) : Nat → ((Int) × ((Int) × ((Int) × R.T17))) → Option (((Int) × ((Int) × R.T17)) ⊕ Unit)
  | 0, _ => none
  | n + 1, (q0, (q1, (q2, (q3, ())))) =>
    bif Decidable.decide (q2 < (↑(List.length q3) : Int)) then
     bif Decidable.decide (0 ≤ q2) && Decidable.decide (q2 < (↑(List.length q3) : Int)) then
      obind (R.laws_markIntS K (Prod.fst (List.getD q3 (Int.toNat q2) ([], []))) q0) fun v6 =>
       bif Decidable.decide (0 ≤ q2) && Decidable.decide (q2 < (↑(List.length q3) : Int)) then
        bif Nat.beq (Int.toNat q2) (Int.toNat q2) then
         obind (R.laws_markEntryS K (Prod.snd (List.getD q3 (Int.toNat q2) ([], []))) v6.1.1) fun v9 =>
          R.L_laws_markCommitS_0 K n (v9.1.1, q1, Go.IntKind.wrap Go.IntKind.i64 (q2 + 1), List.set q3 (Int.toNat q2) (v6.2.1, v9.2.1), ())
        else
         none
       else
        none
     else
      none
    else
     some (Sum.inl (q0, q1, q3, ()))

noncomputable def R.laws_markCommitS (K : Nat) (p0 : List R.T6) (p1 : Int) : Option (((Int) × Unit) × R.T17) :=
  obind (R.L_laws_markCommitS_0 K K (p1, 0, 0, p0, ())) fun v2 =>
   (match v2 with
   | .inl v3 =>
    some (((v3.1, ()), v3.2.2.1, ()))
   | .inr v3 =>
    none
   )

noncomputable def R.L_laws_markRefS_0 (K : Nat) : Nat → ((Int) × ((Int) × ((Int) × R.T14))) → Option (((Int) × ((Int) × R.T14)) ⊕ Unit)
  | 0, _ => none
  | n + 1, (q0, (q1, (q2, (q3, ())))) =>
    bif Decidable.decide (q2 < (↑(List.length q3) : Int)) then
     obind (R.laws_markText K q0) fun v5 =>
      bif Decidable.decide (0 ≤ q2) && Decidable.decide (q2 < (↑(List.length q3) : Int)) then
       bif Decidable.decide (0 ≤ q2) && Decidable.decide (q2 < (↑(List.length q3) : Int)) then
        bif Nat.ble (0 + 1 + 1) (1 + (1 + (1 + 1))) && Nat.beq (Int.toNat q2) (Int.toNat q2) then
         bif Decidable.decide (0 ≤ q2) && Decidable.decide (q2 < (↑(List.length q3) : Int)) then
          bif Nat.ble (0 + 2 + 1) (1 + (1 + (1 + 1))) && Nat.beq (Int.toNat q2) (Int.toNat q2) then
           bif Decidable.decide (0 ≤ q2) && Decidable.decide (q2 < (↑(List.length q3) : Int)) then
            bif Nat.ble (0 + 3 + 1) (1 + (1 + (1 + 1))) && Nat.beq (Int.toNat q2) (Int.toNat q2) then
             R.L_laws_markRefS_0 K n (Go.IntKind.wrap Go.IntKind.i64 (Go.IntKind.wrap Go.IntKind.i64 (Go.IntKind.wrap Go.IntKind.i64 (Go.IntKind.wrap Go.IntKind.i64 (q0 + 1) + 1) + 1) + 1), q1, Go.IntKind.wrap Go.IntKind.i64 (q2 + 1), List.set q3 (Int.toNat q2) (v5.1.1, Go.IntKind.wrap Go.IntKind.i64 (q0 + 1), Go.IntKind.wrap Go.IntKind.i64 (Go.IntKind.wrap Go.IntKind.i64 (q0 + 1) + 1), Int.tmod (Go.IntKind.wrap Go.IntKind.i64 (Go.IntKind.wrap Go.IntKind.i64 (Go.IntKind.wrap Go.IntKind.i64 (q0 + 1) + 1) + 1)) 3 == 0), ())
            else
             none
           else
            none
          else
           none
         else
          none
        else
         none
       else
        none
      else
       none
    else
     some (Sum.inl (q0, q1, q3, ()))

noncomputable def R.laws_markRefS (K : Nat) (p0 : List R.T3) (p1 : Int) : Option (((Int) × Unit) × R.T14) :=
  obind (R.L_laws_markRefS_0 K K (p1, 0, 0, p0, ())) fun v2 =>
   (match v2 with
   | .inl v3 =>
    some (((v3.1, ()), v3.2.2.1, ()))
   | .inr v3 =>
    none
   )

noncomputable def R.laws_markBase (K : Nat) (p0 : R.T10 × R.T9) (p1 : Int) : Option (((Int) × Unit) × R.T40) :=
  obind (R.laws_markCommitS K p0.1 p1) fun v2 =>
   obind (R.laws_markRefS K p0.2 v2.1.1) fun v3 =>
    some (((v3.1.1, ()), (v2.2.1, v3.2.1), ()))

noncomputable def R.L_laws_markEditS_0 (K : Nat) : Nat → ((Int) × ((Int) × ((Int) × R.T7))) → Option (((Int) × ((Int) × R.T7)) ⊕ Unit)
  | 0, _ => none
  | n + 1, (q0, (q1, (q2, (q3, ())))) =>
    bif Decidable.decide (q2 < (↑(List.length q3) : Int)) then
     obind (R.laws_markText K q0) fun v5 =>
      bif Decidable.decide (0 ≤ q2) && Decidable.decide (q2 < (↑(List.length q3) : Int)) then
       bif Decidable.decide (0 ≤ q2) && Decidable.decide (q2 < (↑(List.length q3) : Int)) then
        bif Nat.ble (0 + 1 + 1) (1 + (1 + 1)) && Nat.beq (Int.toNat q2) (Int.toNat q2) then
         bif Decidable.decide (0 ≤ q2) && Decidable.decide (q2 < (↑(List.length q3) : Int)) then
          bif Nat.ble (0 + 2 + 1) (1 + (1 + 1)) && Nat.beq (Int.toNat q2) (Int.toNat q2) then
           R.L_laws_markEditS_0 K n (Go.IntKind.wrap Go.IntKind.i64 (Go.IntKind.wrap Go.IntKind.i64 (Go.IntKind.wrap Go.IntKind.i64 (q0 + 1) + 1) + 1), q1, Go.IntKind.wrap Go.IntKind.i64 (q2 + 1), List.set q3 (Int.toNat q2) (v5.1.1, Go.IntKind.wrap Go.IntKind.i64 (q0 + 1), Int.tmod (Go.IntKind.wrap Go.IntKind.i64 (Go.IntKind.wrap Go.IntKind.i64 (q0 + 1) + 1)) 3 == 0), ())
          else
           none
         else
          none
        else
         none
       else
        none
      else
       none
    else
     some (Sum.inl (q0, q1, q3, ()))

noncomputable def R.laws_markEditS (K : Nat) (p0 : List ((List UInt8) × ((Int) × (Bool)))) (p1 : Int) : Option (((Int) × Unit) × R.T7) :=
  obind (R.L_laws_markEditS_0 K K (p1, 0, 0, p0, ())) fun v2 =>
   (match v2 with
   | .inl v3 =>
    some (((v3.1, ()), v3.2.2.1, ()))
   | .inr v3 =>
    none
   )

noncomputable def R.L_laws_markWishS_0 (K : Nat) : Nat → ((Int) × ((Int) × ((Int) × R.T41))) → Option (((Int) × ((Int) × R.T41)) ⊕ Unit)
  | 0, _ => none
  | n + 1, (q0, (q1, (q2, (q3, ())))) =>
    bif Decidable.decide (q2 < (↑(List.length q3) : Int)) then
     bif Decidable.decide (0 ≤ q2) && Decidable.decide (q2 < (↑(List.length q3) : Int)) then
      obind (R.laws_markText K (Go.IntKind.wrap Go.IntKind.i64 (q0 + 1))) fun v6 =>
       bif Decidable.decide (0 ≤ q2) && Decidable.decide (q2 < (↑(List.length q3) : Int)) then
        bif Nat.ble (0 + 1 + 1) (1 + (1 + (1 + (1 + 1)))) && Nat.beq (Int.toNat q2) (Int.toNat q2) then
         obind (R.laws_markText K (Go.IntKind.wrap Go.IntKind.i64 (Go.IntKind.wrap Go.IntKind.i64 (q0 + 1) + 1))) fun v9 =>
          bif Decidable.decide (0 ≤ q2) && Decidable.decide (q2 < (↑(List.length q3) : Int)) then
           bif Nat.ble (0 + 2 + 1) (1 + (1 + (1 + (1 + 1)))) && Nat.beq (Int.toNat q2) (Int.toNat q2) then
            obind (R.laws_markText K (Go.IntKind.wrap Go.IntKind.i64 (Go.IntKind.wrap Go.IntKind.i64 (Go.IntKind.wrap Go.IntKind.i64 (q0 + 1) + 1) + 1))) fun v12 =>
             bif Decidable.decide (0 ≤ q2) && Decidable.decide (q2 < (↑(List.length q3) : Int)) then
              bif Nat.ble (0 + 3 + 1) (1 + (1 + (1 + (1 + 1)))) && Nat.beq (Int.toNat q2) (Int.toNat q2) then
               bif Decidable.decide (0 ≤ q2) && Decidable.decide (q2 < (↑(List.length q3) : Int)) then
                bif Nat.beq (Int.toNat q2) (Int.toNat q2) then
                 obind (R.laws_markEditS K (Prod.snd (Prod.snd (Prod.snd (Prod.snd (List.getD q3 (Int.toNat q2) (0, [], [], [], [])))))) (Go.IntKind.wrap Go.IntKind.i64 (Go.IntKind.wrap Go.IntKind.i64 (Go.IntKind.wrap Go.IntKind.i64 (Go.IntKind.wrap Go.IntKind.i64 (q0 + 1) + 1) + 1) + 1))) fun v17 =>
                  R.L_laws_markWishS_0 K n (v17.1.1, q1, Go.IntKind.wrap Go.IntKind.i64 (q2 + 1), List.set q3 (Int.toNat q2) (q0, v6.1.1, v9.1.1, v12.1.1, v17.2.1), ())
                else
                 none
               else
                none
              else
               none
             else
              none
           else
            none
          else
           none
        else
         none
       else
        none
     else
      none
    else
     some (Sum.inl (q0, q1, q3, ()))

noncomputable def R.laws_markWishS (K : Nat) (p0 : List R.T36) (p1 : Int) : Option (((Int) × Unit) × R.T41) :=
  obind (R.L_laws_markWishS_0 K K (p1, 0, 0, p0, ())) fun v2 =>
   (match v2 with
   | .inl v3 =>
    some (((v3.1, ()), v3.2.2.1, ()))
   | .inr v3 =>
    none
   )

noncomputable def R.L_laws_markWishSS_0 (K : Nat) : Nat → ((Int) × ((Int) × ((Int) × R.T43))) → Option (((Int) × ((Int) × R.T43)) ⊕ Unit)
  | 0, _ => none
  | n + 1, (q0, (q1, (q2, (q3, ())))) =>
    bif Decidable.decide (q2 < (↑(List.length q3) : Int)) then
     bif Decidable.decide (0 ≤ q2) && Decidable.decide (q2 < (↑(List.length q3) : Int)) then
      obind (R.laws_markWishS K (List.getD q3 (Int.toNat q2) []) q0) fun v6 =>
       R.L_laws_markWishSS_0 K n (v6.1.1, q1, Go.IntKind.wrap Go.IntKind.i64 (q2 + 1), List.set q3 (Int.toNat q2) v6.2.1, ())
     else
      none
    else
     some (Sum.inl (q0, q1, q3, ()))

noncomputable def R.laws_markWishSS (K : Nat) (p0 : List R.T37) (p1 : Int) : Option (((Int) × Unit) × R.T43) :=
  obind (R.L_laws_markWishSS_0 K K (p1, 0, 0, p0, ())) fun v2 =>
   (match v2 with
   | .inl v3 =>
    some (((v3.1, ()), v3.2.2.1, ()))
   | .inr v3 =>
    none
   )

noncomputable def R.L_laws_markStringS_0 (K : Nat) : Nat → ((Int) × ((Int) × ((Int) × ((List (List UInt8)) × Unit)))) → Option (((Int) × ((Int) × ((List (List UInt8)) × Unit))) ⊕ Unit)
  | 0, _ => none
  | n + 1, (q0, (q1, (q2, (q3, ())))) =>
    bif Decidable.decide (q2 < (↑(List.length q3) : Int)) then
     obind (R.laws_markText K q0) fun v5 =>
      bif Decidable.decide (0 ≤ q2) && Decidable.decide (q2 < (↑(List.length q3) : Int)) then
       R.L_laws_markStringS_0 K n (Go.IntKind.wrap Go.IntKind.i64 (q0 + 1), q1, Go.IntKind.wrap Go.IntKind.i64 (q2 + 1), List.set q3 (Int.toNat q2) v5.1.1, ())
      else
       none
    else
     some (Sum.inl (q0, q1, q3, ()))

noncomputable def R.laws_markStringS (K : Nat) (p0 : List (List UInt8)) (p1 : Int) : Option (((Int) × Unit) × ((List (List UInt8)) × Unit)) :=
  obind (R.L_laws_markStringS_0 K K (p1, 0, 0, p0, ())) fun v2 =>
   (match v2 with
   | .inl v3 =>
    some (((v3.1, ()), v3.2.2.1, ()))
   | .inr v3 =>
    none
   )

noncomputable def R.L_laws_markClientS_0 (K : Nat) : Nat → ((Int) × ((Int) × ((Int) × R.T60))) → Option (((Int) × ((Int) × R.T60)) ⊕ Unit)
  | 0, _ => none
  | n + 1, (q0, (q1, (q2, (q3, ())))) =>
    bif Decidable.decide (q2 < (↑(List.length q3) : Int)) then
     bif Decidable.decide (0 ≤ q2) && Decidable.decide (q2 < (↑(List.length q3) : Int)) then
      obind (R.laws_markWishS K (Prod.fst (List.getD q3 (Int.toNat q2) ([], 0, 0, 0, 0, 0, 0, 0, []))) q0) fun v6 =>
       bif Decidable.decide (0 ≤ q2) && Decidable.decide (q2 < (↑(List.length q3) : Int)) then
        bif Nat.ble (0 + 1 + 1) (1 + (1 + (1 + (1 + (1 + (1 + (1 + (1 + 1)))))))) && Nat.beq (Int.toNat q2) (Int.toNat q2) then
         bif Decidable.decide (0 ≤ q2) && Decidable.decide (q2 < (↑(List.length q3) : Int)) then
          bif Nat.ble (0 + 2 + 1) (1 + (1 + (1 + (1 + (1 + (1 + (1 + (1 + 1)))))))) && Nat.beq (Int.toNat q2) (Int.toNat q2) then
           bif Decidable.decide (0 ≤ q2) && Decidable.decide (q2 < (↑(List.length q3) : Int)) then
            bif Nat.ble (0 + 3 + 1) (1 + (1 + (1 + (1 + (1 + (1 + (1 + (1 + 1)))))))) && Nat.beq (Int.toNat q2) (Int.toNat q2) then
             bif Decidable.decide (0 ≤ q2) && Decidable.decide (q2 < (↑(List.length q3) : Int)) then
              bif Nat.ble (0 + 4 + 1) (1 + (1 + (1 + (1 + (1 + (1 + (1 + (1 + 1)))))))) && Nat.beq (Int.toNat q2) (Int.toNat q2) then
               bif Decidable.decide (0 ≤ q2) && Decidable.decide (q2 < (↑(List.length q3) : Int)) then
                bif Nat.ble (0 + 5 + 1) (1 + (1 + (1 + (1 + (1 + (1 + (1 + (1 + 1)))))))) && Nat.beq (Int.toNat q2) (Int.toNat q2) then
                 bif Decidable.decide (0 ≤ q2) && Decidable.decide (q2 < (↑(List.length q3) : Int)) then
                  bif Nat.ble (0 + 6 + 1) (1 + (1 + (1 + (1 + (1 + (1 + (1 + (1 + 1)))))))) && Nat.beq (Int.toNat q2) (Int.toNat q2) then
                   bif Decidable.decide (0 ≤ q2) && Decidable.decide (q2 < (↑(List.length q3) : Int)) then
                    bif Nat.ble (0 + 7 + 1) (1 + (1 + (1 + (1 + (1 + (1 + (1 + (1 + 1)))))))) && Nat.beq (Int.toNat q2) (Int.toNat q2) then
                     bif Decidable.decide (0 ≤ q2) && Decidable.decide (q2 < (↑(List.length q3) : Int)) then
                      bif Nat.beq (Int.toNat q2) (Int.toNat q2) then
                       obind (R.laws_markEntryS K (Prod.snd (Prod.snd (Prod.snd (Prod.snd (Prod.snd (Prod.snd (Prod.snd (Prod.snd (List.getD q3 (Int.toNat q2) ([], 0, 0, 0, 0, 0, 0, 0, [])))))))))) (Go.IntKind.wrap Go.IntKind.i64 (Go.IntKind.wrap Go.IntKind.i64 (Go.IntKind.wrap Go.IntKind.i64 (Go.IntKind.wrap Go.IntKind.i64 (Go.IntKind.wrap Go.IntKind.i64 (Go.IntKind.wrap Go.IntKind.i64 (Go.IntKind.wrap Go.IntKind.i64 (v6.1.1 + 1) + 1) + 1) + 1) + 1) + 1) + 1))) fun v23 =>
                        R.L_laws_markClientS_0 K n (v23.1.1, q1, Go.IntKind.wrap Go.IntKind.i64 (q2 + 1), List.set q3 (Int.toNat q2) (v6.2.1, v6.1.1, Go.IntKind.wrap Go.IntKind.i64 (v6.1.1 + 1), Go.IntKind.wrap Go.IntKind.i64 (Go.IntKind.wrap Go.IntKind.i64 (v6.1.1 + 1) + 1), Go.IntKind.wrap Go.IntKind.i64 (Go.IntKind.wrap Go.IntKind.i64 (Go.IntKind.wrap Go.IntKind.i64 (v6.1.1 + 1) + 1) + 1), Go.IntKind.wrap Go.IntKind.i64 (Go.IntKind.wrap Go.IntKind.i64 (Go.IntKind.wrap Go.IntKind.i64 (Go.IntKind.wrap Go.IntKind.i64 (v6.1.1 + 1) + 1) + 1) + 1), Go.IntKind.wrap Go.IntKind.i64 (Go.IntKind.wrap Go.IntKind.i64 (Go.IntKind.wrap Go.IntKind.i64 (Go.IntKind.wrap Go.IntKind.i64 (Go.IntKind.wrap Go.IntKind.i64 (v6.1.1 + 1) + 1) + 1) + 1) + 1), Go.IntKind.wrap Go.IntKind.i64 (Go.IntKind.wrap Go.IntKind.i64 (Go.IntKind.wrap Go.IntKind.i64 (Go.IntKind.wrap Go.IntKind.i64 (Go.IntKind.wrap Go.IntKind.i64 (Go.IntKind.wrap Go.IntKind.i64 (v6.1.1 + 1) + 1) + 1) + 1) + 1) + 1), v23.2.1), ())
                      else
                       none
                     else
                      none
                    else
                     none
                   else
                    none
                  else
                   none
                 else
                  none
                else
                 none
               else
                none
              else
               none
             else
              none
            else
             none
           else
            none
          else
           none
         else
          none
        else
         none
       else
        none
     else
      none
    else
     some (Sum.inl (q0, q1, q3, ()))

noncomputable def R.laws_markClientS (K : Nat) (p0 : List R.T55) (p1 : Int) : Option (((Int) × Unit) × R.T60) :=
  obind (R.L_laws_markClientS_0 K K (p1, 0, 0, p0, ())) fun v2 =>
   (match v2 with
   | .inl v3 =>
    some (((v3.1, ()), v3.2.2.1, ()))
   | .inr v3 =>
    none
   )

noncomputable def R.L_laws_markEventS_0 (K : Nat) : Nat → ((Int) × ((Int) × ((Int) × R.T1))) → Option (((Int) × ((Int) × R.T1)) ⊕ Unit)
  | 0, _ => none
  | n + 1, (q0, (q1, (q2, (q3, ())))) =>
    bif Decidable.decide (q2 < (↑(List.length q3) : Int)) then
     bif Decidable.decide (0 ≤ q2) && Decidable.decide (q2 < (↑(List.length q3) : Int)) then
      bif Decidable.decide (0 ≤ q2) && Decidable.decide (q2 < (↑(List.length q3) : Int)) then
       bif Nat.ble (0 + 1 + 1) (1 + (1 + 1)) && Nat.beq (Int.toNat q2) (Int.toNat q2) then
        bif Decidable.decide (0 ≤ q2) && Decidable.decide (q2 < (↑(List.length q3) : Int)) then
         bif Nat.ble (0 + 2 + 1) (1 + (1 + 1)) && Nat.beq (Int.toNat q2) (Int.toNat q2) then
          R.L_laws_markEventS_0 K n (Go.IntKind.wrap Go.IntKind.i64 (Go.IntKind.wrap Go.IntKind.i64 (Go.IntKind.wrap Go.IntKind.i64 (q0 + 1) + 1) + 1), q1, Go.IntKind.wrap Go.IntKind.i64 (q2 + 1), List.set q3 (Int.toNat q2) (q0, Go.IntKind.wrap Go.IntKind.i64 (q0 + 1), Int.tmod (Go.IntKind.wrap Go.IntKind.i64 (Go.IntKind.wrap Go.IntKind.i64 (q0 + 1) + 1)) 3 == 0), ())
         else
          none
        else
         none
       else
        none
      else
       none
     else
      none
    else
     some (Sum.inl (q0, q1, q3, ()))

noncomputable def R.laws_markEventS (K : Nat) (p0 : List ((Int) × ((Int) × (Bool)))) (p1 : Int) : Option (((Int) × Unit) × R.T1) :=
  obind (R.L_laws_markEventS_0 K K (p1, 0, 0, p0, ())) fun v2 =>
   (match v2 with
   | .inl v3 =>
    some (((v3.1, ()), v3.2.2.1, ()))
   | .inr v3 =>
    none
   )

noncomputable def R.L_laws_markWatchS_0 (K : Nat) : Nat → ((Int) × ((Int) × ((Int) × R.T26))) → Option (((Int) × ((Int) × R.T26)) ⊕ Unit)
  | 0, _ => none
  | n + 1, (q0, (q1, (q2, (q3, ())))) =>
    bif Decidable.decide (q2 < (↑(List.length q3) : Int)) then
     obind (R.laws_markText K q0) fun v5 =>
      bif Decidable.decide (0 ≤ q2) && Decidable.decide (q2 < (↑(List.length q3) : Int)) then
       bif Decidable.decide (0 ≤ q2) && Decidable.decide (q2 < (↑(List.length q3) : Int)) then
        bif Nat.ble (0 + 1 + 1) (1 + (1 + 1)) && Nat.beq (Int.toNat q2) (Int.toNat q2) then
         bif Decidable.decide (0 ≤ q2) && Decidable.decide (q2 < (↑(List.length q3) : Int)) then
          bif Nat.beq (Int.toNat q2) (Int.toNat q2) then
           obind (R.laws_markEventS K (Prod.snd (Prod.snd (List.getD q3 (Int.toNat q2) ([], 0, [])))) (Go.IntKind.wrap Go.IntKind.i64 (Go.IntKind.wrap Go.IntKind.i64 (q0 + 1) + 1))) fun v11 =>
            R.L_laws_markWatchS_0 K n (v11.1.1, q1, Go.IntKind.wrap Go.IntKind.i64 (q2 + 1), List.set q3 (Int.toNat q2) (v5.1.1, Go.IntKind.wrap Go.IntKind.i64 (q0 + 1), v11.2.1), ())
          else
           none
         else
          none
        else
         none
       else
        none
      else
       none
    else
     some (Sum.inl (q0, q1, q3, ()))

noncomputable def R.laws_markWatchS (K : Nat) (p0 : List R.T16) (p1 : Int) : Option (((Int) × Unit) × R.T26) :=
  obind (R.L_laws_markWatchS_0 K K (p1, 0, 0, p0, ())) fun v2 =>
   (match v2 with
   | .inl v3 =>
    some (((v3.1, ()), v3.2.2.1, ()))
   | .inr v3 =>
    none
   )

noncomputable def R.L_laws_markMomentS_0 (K : Nat) : Nat → ((Int) × ((Int) × ((Int) × R.T59))) → Option (((Int) × ((Int) × R.T59)) ⊕ Unit)
  | 0, _ => none
  | n + 1, (q0, (q1, (q2, (q3, ())))) =>
    bif Decidable.decide (q2 < (↑(List.length q3) : Int)) then
     bif Decidable.decide (0 ≤ q2) && Decidable.decide (q2 < (↑(List.length q3) : Int)) then
      bif Decidable.decide (0 ≤ q2) && Decidable.decide (q2 < (↑(List.length q3) : Int)) then
       bif Nat.ble (0 + 1 + 1) (1 + (1 + (1 + (1 + (1 + (1 + (1 + 1))) + (1 + (1 + (1 + (1 + 1)))))))) && Nat.beq (Int.toNat q2) (Int.toNat q2) then
        bif Decidable.decide (0 ≤ q2) && Decidable.decide (q2 < (↑(List.length q3) : Int)) then
         bif Nat.ble (0 + 2 + 1) (1 + (1 + (1 + (1 + (1 + (1 + (1 + 1))) + (1 + (1 + (1 + (1 + 1)))))))) && Nat.beq (Int.toNat q2) (Int.toNat q2) then
          bif Decidable.decide (0 ≤ q2) && Decidable.decide (q2 < (↑(List.length q3) : Int)) then
           bif Nat.ble (0 + 3 + 0 + 1) (1 + (1 + (1 + (1 + (1 + (1 + (1 + 1))) + (1 + (1 + (1 + (1 + 1)))))))) && Nat.beq (Int.toNat q2) (Int.toNat q2) then
            bif Decidable.decide (0 ≤ q2) && Decidable.decide (q2 < (↑(List.length q3) : Int)) then
             bif Nat.ble (0 + 3 + 1 + 1) (1 + (1 + (1 + (1 + (1 + (1 + (1 + 1))) + (1 + (1 + (1 + (1 + 1)))))))) && Nat.beq (Int.toNat q2) (Int.toNat q2) then
              obind (R.laws_markText K (Go.IntKind.wrap Go.IntKind.i64 (Go.IntKind.wrap Go.IntKind.i64 (Go.IntKind.wrap Go.IntKind.i64 (Go.IntKind.wrap Go.IntKind.i64 (Go.IntKind.wrap Go.IntKind.i64 (q0 + 1) + 1) + 1) + 1) + 1))) fun v14 =>
               bif Decidable.decide (0 ≤ q2) && Decidable.decide (q2 < (↑(List.length q3) : Int)) then
                bif Nat.ble (0 + 3 + 2 + 1) (1 + (1 + (1 + (1 + (1 + (1 + (1 + 1))) + (1 + (1 + (1 + (1 + 1)))))))) && Nat.beq (Int.toNat q2) (Int.toNat q2) then
                 obind (R.laws_markText K (Go.IntKind.wrap Go.IntKind.i64 (Go.IntKind.wrap Go.IntKind.i64 (Go.IntKind.wrap Go.IntKind.i64 (Go.IntKind.wrap Go.IntKind.i64 (Go.IntKind.wrap Go.IntKind.i64 (Go.IntKind.wrap Go.IntKind.i64 (q0 + 1) + 1) + 1) + 1) + 1) + 1))) fun v17 =>
                  bif Decidable.decide (0 ≤ q2) && Decidable.decide (q2 < (↑(List.length q3) : Int)) then
                   bif Nat.ble (0 + 3 + 3 + 1) (1 + (1 + (1 + (1 + (1 + (1 + (1 + 1))) + (1 + (1 + (1 + (1 + 1)))))))) && Nat.beq (Int.toNat q2) (Int.toNat q2) then
                    bif Decidable.decide (0 ≤ q2) && Decidable.decide (q2 < (↑(List.length q3) : Int)) then
                     bif Nat.beq (Int.toNat q2) (Int.toNat q2) then
                      obind (R.laws_markEditS K (Prod.snd (Prod.snd (Prod.snd (Prod.snd (Prod.fst (Prod.snd (Prod.snd (Prod.snd (List.getD q3 (Int.toNat q2) (0, 0, 0, (0, 0, [], [], []), 0, 0, 0, [], [])))))))))) (Go.IntKind.wrap Go.IntKind.i64 (Go.IntKind.wrap Go.IntKind.i64 (Go.IntKind.wrap Go.IntKind.i64 (Go.IntKind.wrap Go.IntKind.i64 (Go.IntKind.wrap Go.IntKind.i64 (Go.IntKind.wrap Go.IntKind.i64 (Go.IntKind.wrap Go.IntKind.i64 (q0 + 1) + 1) + 1) + 1) + 1) + 1) + 1))) fun v22 =>
                       bif Decidable.decide (0 ≤ q2) && Decidable.decide (q2 < (↑(List.length q3) : Int)) then
                        bif Nat.ble (0 + 8 + 0 + 1) (1 + (1 + (1 + (1 + (1 + (1 + (1 + 1))) + (1 + (1 + (1 + (1 + 1)))))))) && Nat.beq (Int.toNat q2) (Int.toNat q2) then
                         bif Decidable.decide (0 ≤ q2) && Decidable.decide (q2 < (↑(List.length q3) : Int)) then
                          bif Nat.ble (0 + 8 + 1 + 1) (1 + (1 + (1 + (1 + (1 + (1 + (1 + 1))) + (1 + (1 + (1 + (1 + 1)))))))) && Nat.beq (Int.toNat q2) (Int.toNat q2) then
                           bif Decidable.decide (0 ≤ q2) && Decidable.decide (q2 < (↑(List.length q3) : Int)) then
                            bif Nat.ble (0 + 8 + 2 + 1) (1 + (1 + (1 + (1 + (1 + (1 + (1 + 1))) + (1 + (1 + (1 + (1 + 1)))))))) && Nat.beq (Int.toNat q2) (Int.toNat q2) then
                             bif Decidable.decide (0 ≤ q2) && Decidable.decide (q2 < (↑(List.length q3) : Int)) then
                              bif Nat.beq (Int.toNat q2) (Int.toNat q2) then
                               obind (R.laws_markStringS K (Prod.fst (Prod.snd (Prod.snd (Prod.snd (Prod.snd (Prod.snd (Prod.snd (Prod.snd (List.getD q3 (Int.toNat q2) (0, 0, 0, (0, 0, [], [], []), 0, 0, 0, [], [])))))))))) (Go.IntKind.wrap Go.IntKind.i64 (Go.IntKind.wrap Go.IntKind.i64 (Go.IntKind.wrap Go.IntKind.i64 (v22.1.1 + 1) + 1) + 1))) fun v31 =>
                                bif Decidable.decide (0 ≤ q2) && Decidable.decide (q2 < (↑(List.length q3) : Int)) then
                                 bif Nat.beq (Int.toNat q2) (Int.toNat q2) then
                                  obind (R.laws_markEntryS K (Prod.snd (Prod.snd (Prod.snd (Prod.snd (Prod.snd (Prod.snd (Prod.snd (Prod.snd (List.getD q3 (Int.toNat q2) (0, 0, 0, (0, 0, [], [], []), 0, 0, 0, [], [])))))))))) v31.1.1) fun v34 =>
                                   R.L_laws_markMomentS_0 K n (v34.1.1, q1, Go.IntKind.wrap Go.IntKind.i64 (q2 + 1), List.set q3 (Int.toNat q2) (q0, Go.IntKind.wrap Go.IntKind.i64 (q0 + 1), Go.IntKind.wrap Go.IntKind.i64 (Go.IntKind.wrap Go.IntKind.i64 (q0 + 1) + 1), (Go.IntKind.wrap Go.IntKind.i64 (Go.IntKind.wrap Go.IntKind.i64 (Go.IntKind.wrap Go.IntKind.i64 (q0 + 1) + 1) + 1), Go.IntKind.wrap Go.IntKind.i64 (Go.IntKind.wrap Go.IntKind.i64 (Go.IntKind.wrap Go.IntKind.i64 (Go.IntKind.wrap Go.IntKind.i64 (q0 + 1) + 1) + 1) + 1), v14.1.1, v17.1.1, v22.2.1), v22.1.1, Go.IntKind.wrap Go.IntKind.i64 (v22.1.1 + 1), Go.IntKind.wrap Go.IntKind.i64 (Go.IntKind.wrap Go.IntKind.i64 (v22.1.1 + 1) + 1), v31.2.1, v34.2.1), ())
                                 else
                                  none
                                else
                                 none
                              else
                               none
                             else
                              none
                            else
                             none
                           else
                            none
                          else
                           none
                         else
                          none
                        else
                         none
                       else
                        none
                     else
                      none
                    else
                     none
                   else
                    none
                  else
                   none
                else
                 none
               else
                none
             else
              none
            else
             none
           else
            none
          else
           none
         else
          none
        else
         none
       else
        none
      else
       none
     else
      none
    else
     some (Sum.inl (q0, q1, q3, ()))

noncomputable def R.laws_markMomentS (K : Nat) (p0 : List R.T56) (p1 : Int) : Option (((Int) × Unit) × R.T59) :=
  obind (R.L_laws_markMomentS_0 K K (p1, 0, 0, p0, ())) fun v2 =>
   (match v2 with
   | .inl v3 =>
    some (((v3.1, ()), v3.2.2.1, ()))
   | .inr v3 =>
    none
   )

noncomputable def R.laws_markWorld (K : Nat) (p0 : R.T38 × R.T68) (p1 : Int) : Option (((Int) × Unit) × R.T72) :=
  obind (R.laws_markBase K p0.1 p1) fun v2 =>
   obind (R.laws_markClientS K p0.2.1 v2.1.1) fun v3 =>
    obind (R.laws_markWatchS K p0.2.2.1 v3.1.1) fun v4 =>
     obind (R.laws_markMomentS K p0.2.2.2.1 v4.1.1) fun v5 =>
      some (((v5.1.1, ()), (v2.2.1, v3.2.1, v4.2.1, v5.2.1, p0.2.2.2.2), ()))

noncomputable def R.L_laws_heldIntS_0 (K : Nat) : Nat → ((List (Int)) × ((Int) × ((Int) × ((Int) × Unit)))) → Option R.T2
  | 0, _ => none
  | n + 1, (q0, (q1, (q2, (q3, ())))) =>
    bif Decidable.decide (q3 < (↑(List.length q0) : Int)) then
     bif Decidable.decide (0 ≤ q3) && Decidable.decide (q3 < (↑(List.length q0) : Int)) then
      bif List.getD q0 (Int.toNat q3) 0 != q1 then
       some (Sum.inr (-1, ()))
      else
       R.L_laws_heldIntS_0 K n (q0, Go.IntKind.wrap Go.IntKind.i64 (q1 + 1), q2, Go.IntKind.wrap Go.IntKind.i64 (q3 + 1), ())
     else
      none
    else
     some (Sum.inl (q1, q2, ()))

noncomputable def R.laws_heldIntS (K : Nat) (p0 : List (Int)) (p1 : Int) : Option (((Int) × Unit) × Unit) :=
  obind (R.L_laws_heldIntS_0 K K (p0, p1, 0, 0, ())) fun v2 =>
   (match v2 with
   | .inl v3 =>
    some (((v3.1, ()), ()))
   | .inr v3 =>
    some (((v3.1, ()), ()))
   )

noncomputable def R.L_laws_heldEntryS_0 (K : Nat) : Nat → ((List ((List UInt8) × (Int))) × ((Int) × ((Int) × ((Int) × Unit)))) → Option R.T2
  | 0, _ => none
  | n + 1, (q0, (q1, (q2, (q3, ())))) =>
    bif Decidable.decide (q3 < (↑(List.length q0) : Int)) then
     bif Decidable.decide (0 ≤ q3) && Decidable.decide (q3 < (↑(List.length q0) : Int)) then
      obind (R.laws_markText K q1) fun v6 =>
       bif !Prod.fst (List.getD q0 (Int.toNat q3) ([], 0)) == v6.1.1 then
        some (Sum.inr (-1, ()))
       else
        bif Decidable.decide (0 ≤ q3) && Decidable.decide (q3 < (↑(List.length q0) : Int)) then
         bif Prod.snd (List.getD q0 (Int.toNat q3) ([], 0)) != Go.IntKind.wrap Go.IntKind.i64 (q1 + 1) then
          some (Sum.inr (-1, ()))
         else
          R.L_laws_heldEntryS_0 K n (q0, Go.IntKind.wrap Go.IntKind.i64 (Go.IntKind.wrap Go.IntKind.i64 (q1 + 1) + 1), q2, Go.IntKind.wrap Go.IntKind.i64 (q3 + 1), ())
        else
         none
     else
      none
    else
     some (Sum.inl (q1, q2, ()))

noncomputable def R.laws_heldEntryS (K : Nat) (p0 : List ((List UInt8) × (Int))) (p1 : Int) : Option (((Int) × Unit) × Unit) :=
  obind (R.L_laws_heldEntryS_0 K K (p0, p1, 0, 0, ())) fun v2 =>
   (match v2 with
   | .inl v3 =>
    some (((v3.1, ()), ()))
   | .inr v3 =>
    some (((v3.1, ()), ()))
   )

noncomputable def R.L_laws_heldCommitS_0 (K : Nat) : Nat → (R.T10 × ((Int) × ((Int) × ((Int) × Unit)))) → Option R.T2
  | 0, _ => none
  | n + 1, (q0, (q1, (q2, (q3, ())))) =>
    bif Decidable.decide (q3 < (↑(List.length q0) : Int)) then
     bif Decidable.decide (0 ≤ q3) && Decidable.decide (q3 < (↑(List.length q0) : Int)) then
      obind (R.laws_heldIntS K (Prod.fst (List.getD q0 (Int.toNat q3) ([], []))) q1) fun v6 =>
       bif Decidable.decide (v6.1.1 < 0) then
        some (Sum.inr (-1, ()))
       else
        bif Decidable.decide (0 ≤ q3) && Decidable.decide (q3 < (↑(List.length q0) : Int)) then
         obind (R.laws_heldEntryS K (Prod.snd (List.getD q0 (Int.toNat q3) ([], []))) v6.1.1) fun v9 =>
          bif Decidable.decide (v9.1.1 < 0) then
           some (Sum.inr (-1, ()))
          else
           R.L_laws_heldCommitS_0 K n (q0, v9.1.1, q2, Go.IntKind.wrap Go.IntKind.i64 (q3 + 1), ())
        else
         none
     else
      none
    else
     some (Sum.inl (q1, q2, ()))

noncomputable def R.laws_heldCommitS (K : Nat) (p0 : List R.T6) (p1 : Int) : Option (((Int) × Unit) × Unit) :=
  obind (R.L_laws_heldCommitS_0 K K (p0, p1, 0, 0, ())) fun v2 =>
   (match v2 with
   | .inl v3 =>
    some (((v3.1, ()), ()))
   | .inr v3 =>
    some (((v3.1, ()), ()))
   )

noncomputable def R.L_laws_heldRefS_0 (K : Nat) : Nat → R.T31 → Option R.T2
  | 0, _ => none
  | n + 1, (q0, (q1, (q2, (q3, ())))) =>
    bif Decidable.decide (q3 < (↑(List.length q0) : Int)) then
     bif Decidable.decide (0 ≤ q3) && Decidable.decide (q3 < (↑(List.length q0) : Int)) then
      obind (R.laws_markText K q1) fun v6 =>
       bif !Prod.fst (List.getD q0 (Int.toNat q3) ([], 0, 0, Bool.false)) == v6.1.1 then
        some (Sum.inr (-1, ()))
       else
        bif Decidable.decide (0 ≤ q3) && Decidable.decide (q3 < (↑(List.length q0) : Int)) then
         bif Prod.fst (Prod.snd (List.getD q0 (Int.toNat q3) ([], 0, 0, Bool.false))) != Go.IntKind.wrap Go.IntKind.i64 (q1 + 1) then
          some (Sum.inr (-1, ()))
         else
          bif Decidable.decide (0 ≤ q3) && Decidable.decide (q3 < (↑(List.length q0) : Int)) then
           bif Prod.fst (Prod.snd (Prod.snd (List.getD q0 (Int.toNat q3) ([], 0, 0, Bool.false)))) != Go.IntKind.wrap Go.IntKind.i64 (Go.IntKind.wrap Go.IntKind.i64 (q1 + 1) + 1) then
            some (Sum.inr (-1, ()))
           else
            bif Decidable.decide (0 ≤ q3) && Decidable.decide (q3 < (↑(List.length q0) : Int)) then
             bif !Prod.snd (Prod.snd (Prod.snd (List.getD q0 (Int.toNat q3) ([], 0, 0, Bool.false)))) == (Int.tmod (Go.IntKind.wrap Go.IntKind.i64 (Go.IntKind.wrap Go.IntKind.i64 (Go.IntKind.wrap Go.IntKind.i64 (q1 + 1) + 1) + 1)) 3 == 0) then
              some (Sum.inr (-1, ()))
             else
              R.L_laws_heldRefS_0 K n (q0, Go.IntKind.wrap Go.IntKind.i64 (Go.IntKind.wrap Go.IntKind.i64 (Go.IntKind.wrap Go.IntKind.i64 (Go.IntKind.wrap Go.IntKind.i64 (q1 + 1) + 1) + 1) + 1), q2, Go.IntKind.wrap Go.IntKind.i64 (q3 + 1), ())
            else
             none
          else
           none
        else
         none
     else
      none
    else
     some (Sum.inl (q1, q2, ()))

noncomputable def R.laws_heldRefS (K : Nat) (p0 : List R.T3) (p1 : Int) : Option (((Int) × Unit) × Unit) :=
  obind (R.L_laws_heldRefS_0 K K (p0, p1, 0, 0, ())) fun v2 =>
   (match v2 with
   | .inl v3 =>
    some (((v3.1, ()), ()))
   | .inr v3 =>
    some (((v3.1, ()), ()))
   )

noncomputable def R.laws_heldBase (K : Nat) (p0 : R.T10 × R.T9) (p1 : Int) : Option (((Int) × Unit) × Unit) :=
  obind (R.laws_heldCommitS K p0.1 p1) fun v2 =>
   bif Decidable.decide (v2.1.1 < 0) then
    some (((-1, ()), ()))
   else
    obind (R.laws_heldRefS K p0.2 v2.1.1) fun v4 =>
     bif Decidable.decide (v4.1.1 < 0) then
      some (((-1, ()), ()))
     else
      some (((v4.1.1, ()), ()))

noncomputable def R.L_laws_heldEditS_0 (K : Nat) : Nat → (R.T0 × ((Int) × ((Int) × ((Int) × Unit)))) → Option R.T2
  | 0, _ => none
  | n + 1, (q0, (q1, (q2, (q3, ())))) =>
    bif Decidable.decide (q3 < (↑(List.length q0) : Int)) then
     bif Decidable.decide (0 ≤ q3) && Decidable.decide (q3 < (↑(List.length q0) : Int)) then
      obind (R.laws_markText K q1) fun v6 =>
       bif !Prod.fst (List.getD q0 (Int.toNat q3) ([], 0, Bool.false)) == v6.1.1 then
        some (Sum.inr (-1, ()))
       else
        bif Decidable.decide (0 ≤ q3) && Decidable.decide (q3 < (↑(List.length q0) : Int)) then
         bif Prod.fst (Prod.snd (List.getD q0 (Int.toNat q3) ([], 0, Bool.false))) != Go.IntKind.wrap Go.IntKind.i64 (q1 + 1) then
          some (Sum.inr (-1, ()))
         else
          bif Decidable.decide (0 ≤ q3) && Decidable.decide (q3 < (↑(List.length q0) : Int)) then
           bif !Prod.snd (Prod.snd (List.getD q0 (Int.toNat q3) ([], 0, Bool.false))) == (Int.tmod (Go.IntKind.wrap Go.IntKind.i64 (Go.IntKind.wrap Go.IntKind.i64 (q1 + 1) + 1)) 3 == 0) then
            some (Sum.inr (-1, ()))
           else
            R.L_laws_heldEditS_0 K n (q0, Go.IntKind.wrap Go.IntKind.i64 (Go.IntKind.wrap Go.IntKind.i64 (Go.IntKind.wrap Go.IntKind.i64 (q1 + 1) + 1) + 1), q2, Go.IntKind.wrap Go.IntKind.i64 (q3 + 1), ())
          else
           none
        else
         none
     else
      none
    else
     some (Sum.inl (q1, q2, ()))

noncomputable def R.laws_heldEditS (K : Nat) (p0 : List ((List UInt8) × ((Int) × (Bool)))) (p1 : Int) : Option (((Int) × Unit) × Unit) :=
  obind (R.L_laws_heldEditS_0 K K (p0, p1, 0, 0, ())) fun v2 =>
   (match v2 with
   | .inl v3 =>
    some (((v3.1, ()), ()))
   | .inr v3 =>
    some (((v3.1, ()), ()))
   )

noncomputable def R.L_laws_heldWishS_0 (K : Nat) : Nat → R.T49 → Option R.T2
  | 0, _ => none
  | n + 1, (q0, (q1, (q2, (q3, ())))) =>
    bif Decidable.decide (q3 < (↑(List.length q0) : Int)) then
     bif Decidable.decide (0 ≤ q3) && Decidable.decide (q3 < (↑(List.length q0) : Int)) then
      bif Prod.fst (List.getD q0 (Int.toNat q3) (0, [], [], [], [])) != q1 then
       some (Sum.inr (-1, ()))
      else
       bif Decidable.decide (0 ≤ q3) && Decidable.decide (q3 < (↑(List.length q0) : Int)) then
        obind (R.laws_markText K (Go.IntKind.wrap Go.IntKind.i64 (q1 + 1))) fun v8 =>
         bif !Prod.fst (Prod.snd (List.getD q0 (Int.toNat q3) (0, [], [], [], []))) == v8.1.1 then
          some (Sum.inr (-1, ()))
         else
          bif Decidable.decide (0 ≤ q3) && Decidable.decide (q3 < (↑(List.length q0) : Int)) then
           obind (R.laws_markText K (Go.IntKind.wrap Go.IntKind.i64 (Go.IntKind.wrap Go.IntKind.i64 (q1 + 1) + 1))) fun v11 =>
            bif !Prod.fst (Prod.snd (Prod.snd (List.getD q0 (Int.toNat q3) (0, [], [], [], [])))) == v11.1.1 then
             some (Sum.inr (-1, ()))
            else
             bif Decidable.decide (0 ≤ q3) && Decidable.decide (q3 < (↑(List.length q0) : Int)) then
              obind (R.laws_markText K (Go.IntKind.wrap Go.IntKind.i64 (Go.IntKind.wrap Go.IntKind.i64 (Go.IntKind.wrap Go.IntKind.i64 (q1 + 1) + 1) + 1))) fun v14 =>
               bif !Prod.fst (Prod.snd (Prod.snd (Prod.snd (List.getD q0 (Int.toNat q3) (0, [], [], [], []))))) == v14.1.1 then
                some (Sum.inr (-1, ()))
               else
                bif Decidable.decide (0 ≤ q3) && Decidable.decide (q3 < (↑(List.length q0) : Int)) then
                 obind (R.laws_heldEditS K (Prod.snd (Prod.snd (Prod.snd (Prod.snd (List.getD q0 (Int.toNat q3) (0, [], [], [], [])))))) (Go.IntKind.wrap Go.IntKind.i64 (Go.IntKind.wrap Go.IntKind.i64 (Go.IntKind.wrap Go.IntKind.i64 (Go.IntKind.wrap Go.IntKind.i64 (q1 + 1) + 1) + 1) + 1))) fun v17 =>
                  bif Decidable.decide (v17.1.1 < 0) then
                   some (Sum.inr (-1, ()))
                  else
                   R.L_laws_heldWishS_0 K n (q0, v17.1.1, q2, Go.IntKind.wrap Go.IntKind.i64 (q3 + 1), ())
                else
                 none
             else
              none
          else
           none
       else
        none
     else
      none
    else
     some (Sum.inl (q1, q2, ()))

noncomputable def R.laws_heldWishS (K : Nat) (p0 : List R.T36) (p1 : Int) : Option (((Int) × Unit) × Unit) :=
  obind (R.L_laws_heldWishS_0 K K (p0, p1, 0, 0, ())) fun v2 =>
   (match v2 with
   | .inl v3 =>
    some (((v3.1, ()), ()))
   | .inr v3 =>
    some (((v3.1, ()), ()))
   )

noncomputable def R.L_laws_heldClientS_0 (K : Nat) : Nat → (R.T57 × ((Int) × ((Int) × ((Int) × Unit)))) → Option R.T2
  | 0, _ => none
  | n + 1, (q0, (q1, (q2, (q3, ())))) =>
    bif Decidable.decide (q3 < (↑(List.length q0) : Int)) then
     bif Decidable.decide (0 ≤ q3) && Decidable.decide (q3 < (↑(List.length q0) : Int)) then
      obind (R.laws_heldWishS K (Prod.fst (List.getD q0 (Int.toNat q3) ([], 0, 0, 0, 0, 0, 0, 0, []))) q1) fun v6 =>
       bif Decidable.decide (v6.1.1 < 0) then
        some (Sum.inr (-1, ()))
       else
        bif Decidable.decide (0 ≤ q3) && Decidable.decide (q3 < (↑(List.length q0) : Int)) then
         bif Prod.fst (Prod.snd (List.getD q0 (Int.toNat q3) ([], 0, 0, 0, 0, 0, 0, 0, []))) != v6.1.1 then
          some (Sum.inr (-1, ()))
         else
          bif Decidable.decide (0 ≤ q3) && Decidable.decide (q3 < (↑(List.length q0) : Int)) then
           bif Prod.fst (Prod.snd (Prod.snd (List.getD q0 (Int.toNat q3) ([], 0, 0, 0, 0, 0, 0, 0, [])))) != Go.IntKind.wrap Go.IntKind.i64 (v6.1.1 + 1) then
            some (Sum.inr (-1, ()))
           else
            bif Decidable.decide (0 ≤ q3) && Decidable.decide (q3 < (↑(List.length q0) : Int)) then
             bif Prod.fst (Prod.snd (Prod.snd (Prod.snd (List.getD q0 (Int.toNat q3) ([], 0, 0, 0, 0, 0, 0, 0, []))))) != Go.IntKind.wrap Go.IntKind.i64 (Go.IntKind.wrap Go.IntKind.i64 (v6.1.1 + 1) + 1) then
              some (Sum.inr (-1, ()))
             else
              bif Decidable.decide (0 ≤ q3) && Decidable.decide (q3 < (↑(List.length q0) : Int)) then
               bif Prod.fst (Prod.snd (Prod.snd (Prod.snd (Prod.snd (List.getD q0 (Int.toNat q3) ([], 0, 0, 0, 0, 0, 0, 0, [])))))) != Go.IntKind.wrap Go.IntKind.i64 (Go.IntKind.wrap Go.IntKind.i64 (Go.IntKind.wrap Go.IntKind.i64 (v6.1.1 + 1) + 1) + 1) then
                some (Sum.inr (-1, ()))
               else
                bif Decidable.decide (0 ≤ q3) && Decidable.decide (q3 < (↑(List.length q0) : Int)) then
                 bif Prod.fst (Prod.snd (Prod.snd (Prod.snd (Prod.snd (Prod.snd (List.getD q0 (Int.toNat q3) ([], 0, 0, 0, 0, 0, 0, 0, []))))))) != Go.IntKind.wrap Go.IntKind.i64 (Go.IntKind.wrap Go.IntKind.i64 (Go.IntKind.wrap Go.IntKind.i64 (Go.IntKind.wrap Go.IntKind.i64 (v6.1.1 + 1) + 1) + 1) + 1) then
                  some (Sum.inr (-1, ()))
                 else
                  bif Decidable.decide (0 ≤ q3) && Decidable.decide (q3 < (↑(List.length q0) : Int)) then
                   bif Prod.fst (Prod.snd (Prod.snd (Prod.snd (Prod.snd (Prod.snd (Prod.snd (List.getD q0 (Int.toNat q3) ([], 0, 0, 0, 0, 0, 0, 0, [])))))))) != Go.IntKind.wrap Go.IntKind.i64 (Go.IntKind.wrap Go.IntKind.i64 (Go.IntKind.wrap Go.IntKind.i64 (Go.IntKind.wrap Go.IntKind.i64 (Go.IntKind.wrap Go.IntKind.i64 (v6.1.1 + 1) + 1) + 1) + 1) + 1) then
                    some (Sum.inr (-1, ()))
                   else
                    bif Decidable.decide (0 ≤ q3) && Decidable.decide (q3 < (↑(List.length q0) : Int)) then
                     bif Prod.fst (Prod.snd (Prod.snd (Prod.snd (Prod.snd (Prod.snd (Prod.snd (Prod.snd (List.getD q0 (Int.toNat q3) ([], 0, 0, 0, 0, 0, 0, 0, []))))))))) != Go.IntKind.wrap Go.IntKind.i64 (Go.IntKind.wrap Go.IntKind.i64 (Go.IntKind.wrap Go.IntKind.i64 (Go.IntKind.wrap Go.IntKind.i64 (Go.IntKind.wrap Go.IntKind.i64 (Go.IntKind.wrap Go.IntKind.i64 (v6.1.1 + 1) + 1) + 1) + 1) + 1) + 1) then
                      some (Sum.inr (-1, ()))
                     else
                      bif Decidable.decide (0 ≤ q3) && Decidable.decide (q3 < (↑(List.length q0) : Int)) then
                       obind (R.laws_heldEntryS K (Prod.snd (Prod.snd (Prod.snd (Prod.snd (Prod.snd (Prod.snd (Prod.snd (Prod.snd (List.getD q0 (Int.toNat q3) ([], 0, 0, 0, 0, 0, 0, 0, [])))))))))) (Go.IntKind.wrap Go.IntKind.i64 (Go.IntKind.wrap Go.IntKind.i64 (Go.IntKind.wrap Go.IntKind.i64 (Go.IntKind.wrap Go.IntKind.i64 (Go.IntKind.wrap Go.IntKind.i64 (Go.IntKind.wrap Go.IntKind.i64 (Go.IntKind.wrap Go.IntKind.i64 (v6.1.1 + 1) + 1) + 1) + 1) + 1) + 1) + 1))) fun v23 =>
                        bif Decidable.decide (v23.1.1 < 0) then
                         some (Sum.inr (-1, ()))
                        else
                         R.L_laws_heldClientS_0 K n (q0, v23.1.1, q2, Go.IntKind.wrap Go.IntKind.i64 (q3 + 1), ())
                      else
                       none
                    else
                     none
                  else
                   none
                else
                 none
              else
               none
            else
             none
          else
           none
        else
         none
     else
      none
    else
     some (Sum.inl (q1, q2, ()))

noncomputable def R.laws_heldClientS (K : Nat) (p0 : List R.T55) (p1 : Int) : Option (((Int) × Unit) × Unit) :=
  obind (R.L_laws_heldClientS_0 K K (p0, p1, 0, 0, ())) fun v2 =>
   (match v2 with
   | .inl v3 =>
    some (((v3.1, ()), ()))
   | .inr v3 =>
    some (((v3.1, ()), ()))
   )

noncomputable def R.L_laws_heldEventS_0 (K : Nat) : Nat → ((List ((Int) × ((Int) × (Bool)))) × ((Int) × ((Int) × ((Int) × Unit)))) → Option R.T2
  | 0, _ => none
  | n + 1, (q0, (q1, (q2, (q3, ())))) =>
    bif Decidable.decide (q3 < (↑(List.length q0) : Int)) then
     bif Decidable.decide (0 ≤ q3) && Decidable.decide (q3 < (↑(List.length q0) : Int)) then
      bif Prod.fst (List.getD q0 (Int.toNat q3) (0, 0, Bool.false)) != q1 then
       some (Sum.inr (-1, ()))
      else
       bif Decidable.decide (0 ≤ q3) && Decidable.decide (q3 < (↑(List.length q0) : Int)) then
        bif Prod.fst (Prod.snd (List.getD q0 (Int.toNat q3) (0, 0, Bool.false))) != Go.IntKind.wrap Go.IntKind.i64 (q1 + 1) then
         some (Sum.inr (-1, ()))
        else
         bif Decidable.decide (0 ≤ q3) && Decidable.decide (q3 < (↑(List.length q0) : Int)) then
          bif !Prod.snd (Prod.snd (List.getD q0 (Int.toNat q3) (0, 0, Bool.false))) == (Int.tmod (Go.IntKind.wrap Go.IntKind.i64 (Go.IntKind.wrap Go.IntKind.i64 (q1 + 1) + 1)) 3 == 0) then
           some (Sum.inr (-1, ()))
          else
           R.L_laws_heldEventS_0 K n (q0, Go.IntKind.wrap Go.IntKind.i64 (Go.IntKind.wrap Go.IntKind.i64 (Go.IntKind.wrap Go.IntKind.i64 (q1 + 1) + 1) + 1), q2, Go.IntKind.wrap Go.IntKind.i64 (q3 + 1), ())
         else
          none
       else
        none
     else
      none
    else
     some (Sum.inl (q1, q2, ()))

noncomputable def R.laws_heldEventS (K : Nat) (p0 : List ((Int) × ((Int) × (Bool)))) (p1 : Int) : Option (((Int) × Unit) × Unit) :=
  obind (R.L_laws_heldEventS_0 K K (p0, p1, 0, 0, ())) fun v2 =>
   (match v2 with
   | .inl v3 =>
    some (((v3.1, ()), ()))
   | .inr v3 =>
    some (((v3.1, ()), ()))
   )

noncomputable def R.L_laws_heldWatchS_0 (K : Nat) : Nat → (R.T20 × ((Int) × ((Int) × ((Int) × Unit)))) → Option R.T2
  | 0, _ => none
  | n + 1, (q0, (q1, (q2, (q3, ())))) =>
    bif Decidable.decide (q3 < (↑(List.length q0) : Int)) then
     bif Decidable.decide (0 ≤ q3) && Decidable.decide (q3 < (↑(List.length q0) : Int)) then
      obind (R.laws_markText K q1) fun v6 =>
       bif !Prod.fst (List.getD q0 (Int.toNat q3) ([], 0, [])) == v6.1.1 then
        some (Sum.inr (-1, ()))
       else
        bif Decidable.decide (0 ≤ q3) && Decidable.decide (q3 < (↑(List.length q0) : Int)) then
         bif Prod.fst (Prod.snd (List.getD q0 (Int.toNat q3) ([], 0, []))) != Go.IntKind.wrap Go.IntKind.i64 (q1 + 1) then
          some (Sum.inr (-1, ()))
         else
          bif Decidable.decide (0 ≤ q3) && Decidable.decide (q3 < (↑(List.length q0) : Int)) then
           obind (R.laws_heldEventS K (Prod.snd (Prod.snd (List.getD q0 (Int.toNat q3) ([], 0, [])))) (Go.IntKind.wrap Go.IntKind.i64 (Go.IntKind.wrap Go.IntKind.i64 (q1 + 1) + 1))) fun v11 =>
            bif Decidable.decide (v11.1.1 < 0) then
             some (Sum.inr (-1, ()))
            else
             R.L_laws_heldWatchS_0 K n (q0, v11.1.1, q2, Go.IntKind.wrap Go.IntKind.i64 (q3 + 1), ())
          else
           none
        else
         none
     else
      none
    else
     some (Sum.inl (q1, q2, ()))

noncomputable def R.laws_heldWatchS (K : Nat) (p0 : List R.T16) (p1 : Int) : Option (((Int) × Unit) × Unit) :=
  obind (R.L_laws_heldWatchS_0 K K (p0, p1, 0, 0, ())) fun v2 =>
   (match v2 with
   | .inl v3 =>
    some (((v3.1, ()), ()))
   | .inr v3 =>
    some (((v3.1, ()), ()))
   )

noncomputable def R.L_laws_heldStringS_0 (K : Nat) : Nat → ((List (List UInt8)) × ((Int) × ((Int) × ((Int) × Unit)))) → Option R.T2
  | 0, _ => none
  | n + 1, (q0, (q1, (q2, (q3, ())))) =>
    bif Decidable.decide (q3 < (↑(List.length q0) : Int)) then
     bif Decidable.decide (0 ≤ q3) && Decidable.decide (q3 < (↑(List.length q0) : Int)) then
      obind (R.laws_markText K q1) fun v6 =>
       bif !List.getD q0 (Int.toNat q3) [] == v6.1.1 then
        some (Sum.inr (-1, ()))
       else
        R.L_laws_heldStringS_0 K n (q0, Go.IntKind.wrap Go.IntKind.i64 (q1 + 1), q2, Go.IntKind.wrap Go.IntKind.i64 (q3 + 1), ())
     else
      none
    else
     some (Sum.inl (q1, q2, ()))

noncomputable def R.laws_heldStringS (K : Nat) (p0 : List (List UInt8)) (p1 : Int) : Option (((Int) × Unit) × Unit) :=
  obind (R.L_laws_heldStringS_0 K K (p0, p1, 0, 0, ())) fun v2 =>
   (match v2 with
   | .inl v3 =>
    some (((v3.1, ()), ()))
   | .inr v3 =>
    some (((v3.1, ()), ()))
   )

noncomputable def R.L_laws_heldMomentS_0 (K : Nat) : Nat → (R.T58 × ((Int) × ((Int) × ((Int) × Unit)))) → Option R.T2
  | 0, _ => none
  | n + 1, (q0, (q1, (q2, (q3, ())))) =>
    bif Decidable.decide (q3 < (↑(List.length q0) : Int)) then
     bif Decidable.decide (0 ≤ q3) && Decidable.decide (q3 < (↑(List.length q0) : Int)) then
      bif Prod.fst (List.getD q0 (Int.toNat q3) (0, 0, 0, (0, 0, [], [], []), 0, 0, 0, [], [])) != q1 then
       some (Sum.inr (-1, ()))
      else
       bif Decidable.decide (0 ≤ q3) && Decidable.decide (q3 < (↑(List.length q0) : Int)) then
        bif Prod.fst (Prod.snd (List.getD q0 (Int.toNat q3) (0, 0, 0, (0, 0, [], [], []), 0, 0, 0, [], []))) != Go.IntKind.wrap Go.IntKind.i64 (q1 + 1) then
         some (Sum.inr (-1, ()))
        else
         bif Decidable.decide (0 ≤ q3) && Decidable.decide (q3 < (↑(List.length q0) : Int)) then
          bif Prod.fst (Prod.snd (Prod.snd (List.getD q0 (Int.toNat q3) (0, 0, 0, (0, 0, [], [], []), 0, 0, 0, [], [])))) != Go.IntKind.wrap Go.IntKind.i64 (Go.IntKind.wrap Go.IntKind.i64 (q1 + 1) + 1) then
           some (Sum.inr (-1, ()))
          else
           bif Decidable.decide (0 ≤ q3) && Decidable.decide (q3 < (↑(List.length q0) : Int)) then
            bif Prod.fst (Prod.fst (Prod.snd (Prod.snd (Prod.snd (List.getD q0 (Int.toNat q3) (0, 0, 0, (0, 0, [], [], []), 0, 0, 0, [], [])))))) != Go.IntKind.wrap Go.IntKind.i64 (Go.IntKind.wrap Go.IntKind.i64 (Go.IntKind.wrap Go.IntKind.i64 (q1 + 1) + 1) + 1) then
             some (Sum.inr (-1, ()))
            else
             bif Decidable.decide (0 ≤ q3) && Decidable.decide (q3 < (↑(List.length q0) : Int)) then
              bif Prod.fst (Prod.snd (Prod.fst (Prod.snd (Prod.snd (Prod.snd (List.getD q0 (Int.toNat q3) (0, 0, 0, (0, 0, [], [], []), 0, 0, 0, [], []))))))) != Go.IntKind.wrap Go.IntKind.i64 (Go.IntKind.wrap Go.IntKind.i64 (Go.IntKind.wrap Go.IntKind.i64 (Go.IntKind.wrap Go.IntKind.i64 (q1 + 1) + 1) + 1) + 1) then
               some (Sum.inr (-1, ()))
              else
               bif Decidable.decide (0 ≤ q3) && Decidable.decide (q3 < (↑(List.length q0) : Int)) then
                obind (R.laws_markText K (Go.IntKind.wrap Go.IntKind.i64 (Go.IntKind.wrap Go.IntKind.i64 (Go.IntKind.wrap Go.IntKind.i64 (Go.IntKind.wrap Go.IntKind.i64 (Go.IntKind.wrap Go.IntKind.i64 (q1 + 1) + 1) + 1) + 1) + 1))) fun v16 =>
                 bif !Prod.fst (Prod.snd (Prod.snd (Prod.fst (Prod.snd (Prod.snd (Prod.snd (List.getD q0 (Int.toNat q3) (0, 0, 0, (0, 0, [], [], []), 0, 0, 0, [], [])))))))) == v16.1.1 then
                  some (Sum.inr (-1, ()))
                 else
                  bif Decidable.decide (0 ≤ q3) && Decidable.decide (q3 < (↑(List.length q0) : Int)) then
                   obind (R.laws_markText K (Go.IntKind.wrap Go.IntKind.i64 (Go.IntKind.wrap Go.IntKind.i64 (Go.IntKind.wrap Go.IntKind.i64 (Go.IntKind.wrap Go.IntKind.i64 (Go.IntKind.wrap Go.IntKind.i64 (Go.IntKind.wrap Go.IntKind.i64 (q1 + 1) + 1) + 1) + 1) + 1) + 1))) fun v19 =>
                    bif !Prod.fst (Prod.snd (Prod.snd (Prod.snd (Prod.fst (Prod.snd (Prod.snd (Prod.snd (List.getD q0 (Int.toNat q3) (0, 0, 0, (0, 0, [], [], []), 0, 0, 0, [], []))))))))) == v19.1.1 then
                     some (Sum.inr (-1, ()))
                    else
                     bif Decidable.decide (0 ≤ q3) && Decidable.decide (q3 < (↑(List.length q0) : Int)) then
                      obind (R.laws_heldEditS K (Prod.snd (Prod.snd (Prod.snd (Prod.snd (Prod.fst (Prod.snd (Prod.snd (Prod.snd (List.getD q0 (Int.toNat q3) (0, 0, 0, (0, 0, [], [], []), 0, 0, 0, [], [])))))))))) (Go.IntKind.wrap Go.IntKind.i64 (Go.IntKind.wrap Go.IntKind.i64 (Go.IntKind.wrap Go.IntKind.i64 (Go.IntKind.wrap Go.IntKind.i64 (Go.IntKind.wrap Go.IntKind.i64 (Go.IntKind.wrap Go.IntKind.i64 (Go.IntKind.wrap Go.IntKind.i64 (q1 + 1) + 1) + 1) + 1) + 1) + 1) + 1))) fun v22 =>
                       bif Decidable.decide (v22.1.1 < 0) then
                        some (Sum.inr (-1, ()))
                       else
                        bif Decidable.decide (0 ≤ q3) && Decidable.decide (q3 < (↑(List.length q0) : Int)) then
                         bif Prod.fst (Prod.snd (Prod.snd (Prod.snd (Prod.snd (List.getD q0 (Int.toNat q3) (0, 0, 0, (0, 0, [], [], []), 0, 0, 0, [], [])))))) != v22.1.1 then
                          some (Sum.inr (-1, ()))
                         else
                          bif Decidable.decide (0 ≤ q3) && Decidable.decide (q3 < (↑(List.length q0) : Int)) then
                           bif Prod.fst (Prod.snd (Prod.snd (Prod.snd (Prod.snd (Prod.snd (List.getD q0 (Int.toNat q3) (0, 0, 0, (0, 0, [], [], []), 0, 0, 0, [], []))))))) != Go.IntKind.wrap Go.IntKind.i64 (v22.1.1 + 1) then
                            some (Sum.inr (-1, ()))
                           else
                            bif Decidable.decide (0 ≤ q3) && Decidable.decide (q3 < (↑(List.length q0) : Int)) then
                             bif Prod.fst (Prod.snd (Prod.snd (Prod.snd (Prod.snd (Prod.snd (Prod.snd (List.getD q0 (Int.toNat q3) (0, 0, 0, (0, 0, [], [], []), 0, 0, 0, [], [])))))))) != Go.IntKind.wrap Go.IntKind.i64 (Go.IntKind.wrap Go.IntKind.i64 (v22.1.1 + 1) + 1) then
                              some (Sum.inr (-1, ()))
                             else
                              bif Decidable.decide (0 ≤ q3) && Decidable.decide (q3 < (↑(List.length q0) : Int)) then
                               obind (R.laws_heldStringS K (Prod.fst (Prod.snd (Prod.snd (Prod.snd (Prod.snd (Prod.snd (Prod.snd (Prod.snd (List.getD q0 (Int.toNat q3) (0, 0, 0, (0, 0, [], [], []), 0, 0, 0, [], [])))))))))) (Go.IntKind.wrap Go.IntKind.i64 (Go.IntKind.wrap Go.IntKind.i64 (Go.IntKind.wrap Go.IntKind.i64 (v22.1.1 + 1) + 1) + 1))) fun v31 =>
                                bif Decidable.decide (v31.1.1 < 0) then
                                 some (Sum.inr (-1, ()))
                                else
                                 bif Decidable.decide (0 ≤ q3) && Decidable.decide (q3 < (↑(List.length q0) : Int)) then
                                  obind (R.laws_heldEntryS K (Prod.snd (Prod.snd (Prod.snd (Prod.snd (Prod.snd (Prod.snd (Prod.snd (Prod.snd (List.getD q0 (Int.toNat q3) (0, 0, 0, (0, 0, [], [], []), 0, 0, 0, [], [])))))))))) v31.1.1) fun v34 =>
                                   bif Decidable.decide (v34.1.1 < 0) then
                                    some (Sum.inr (-1, ()))
                                   else
                                    R.L_laws_heldMomentS_0 K n (q0, v34.1.1, q2, Go.IntKind.wrap Go.IntKind.i64 (q3 + 1), ())
                                 else
                                  none
                              else
                               none
                            else
                             none
                          else
                           none
                        else
                         none
                     else
                      none
                  else
                   none
               else
                none
             else
              none
           else
            none
         else
          none
       else
        none
     else
      none
    else
     some (Sum.inl (q1, q2, ()))

noncomputable def R.laws_heldMomentS (K : Nat) (p0 : List R.T56) (p1 : Int) : Option (((Int) × Unit) × Unit) :=
  obind (R.L_laws_heldMomentS_0 K K (p0, p1, 0, 0, ())) fun v2 =>
   (match v2 with
   | .inl v3 =>
    some (((v3.1, ()), ()))
   | .inr v3 =>
    some (((v3.1, ()), ()))
   )

noncomputable def R.laws_heldWorld (K : Nat) (p0 : R.T38 × R.T68) (p1 : Int) : Option (((Int) × Unit) × Unit) :=
  obind (R.laws_heldBase K p0.1 p1) fun v2 =>
   bif Decidable.decide (v2.1.1 < 0) then
    some (((-1, ()), ()))
   else
    obind (R.laws_heldClientS K p0.2.1 v2.1.1) fun v4 =>
     bif Decidable.decide (v4.1.1 < 0) then
      some (((-1, ()), ()))
     else
      obind (R.laws_heldWatchS K p0.2.2.1 v4.1.1) fun v6 =>
       bif Decidable.decide (v6.1.1 < 0) then
        some (((-1, ()), ()))
       else
        obind (R.laws_heldMomentS K p0.2.2.2.1 v6.1.1) fun v8 =>
         bif Decidable.decide (v8.1.1 < 0) then
          some (((-1, ()), ()))
         else
          some (((v8.1.1, ()), ()))

noncomputable def R.laws_FnExactNewWorld (K : Nat) (p0 : R.T10 × R.T9) (p1 : List R.T37) (p2 : List (List UInt8)) : Option (((Bool) × Unit) × Unit) :=
  obind (R.laws_szBase K p0 1048576) fun v2 =>
   bif Decidable.decide (v2.1.1 < 0) then
    some (((Bool.true, ()), ()))
   else
    obind (R.laws_szWishSS K p1 v2.1.1) fun v4 =>
     bif Decidable.decide (v4.1.1 < 0) then
      some (((Bool.true, ()), ()))
     else
      obind (R.laws_szStringS K p2 v4.1.1) fun v6 =>
       bif Decidable.decide (v6.1.1 < 0) then
        some (((Bool.true, ()), ()))
       else
        obind (R.laws_toBase K p0) fun v8 =>
         obind (R.laws_toWishSS K p1) fun v9 =>
          obind (R.laws_toStringS K p2) fun v10 =>
           obind (R.spec_NewWorld K v8.1.1 v9.1.1 v10.1.1) fun v11 =>
            obind (R.laws_toBase K p0) fun v12 =>
             obind (R.laws_toWishSS K p1) fun v13 =>
              obind (R.laws_toStringS K p2) fun v14 =>
               obind (R.impl_NewWorld K v12.1.1 v13.1.1 v14.1.1) fun v15 =>
                obind (R.laws_eqWorld K v15.1.1 v11.1.1) fun v16 =>
                 bif !v16.1.1 then
                  some (((Bool.false, ()), ()))
                 else
                  bif v15.1.2.1 != v11.1.2.1 then
                   some (((Bool.false, ()), ()))
                  else
                   obind (R.laws_toBase K p0) fun v19 =>
                    obind (R.laws_eqBase K v12.1.1 v19.1.1) fun v20 =>
                     bif !v20.1.1 then
                      some (((Bool.false, ()), ()))
                     else
                      obind (R.laws_toWishSS K p1) fun v22 =>
                       obind (R.laws_eqWishSS K v13.1.1 v22.1.1) fun v23 =>
                        bif !v23.1.1 then
                         some (((Bool.false, ()), ()))
                        else
                         obind (R.laws_toStringS K p2) fun v25 =>
                          obind (R.laws_eqStringS K v14.1.1 v25.1.1) fun v26 =>
                           bif !v26.1.1 then
                            some (((Bool.false, ()), ()))
                           else
                            obind (R.laws_markBase K v12.1.1 1) fun v28 =>
                             obind (R.laws_markWishSS K v13.1.1 v28.1.1) fun v29 =>
                              obind (R.laws_markStringS K v14.1.1 v29.1.1) fun v30 =>
                               bif Decidable.decide (v30.1.1 < 0) then
                                some (((Bool.false, ()), ()))
                               else
                                obind (R.laws_eqWorld K v15.1.1 v11.1.1) fun v32 =>
                                 bif !v32.1.1 then
                                  some (((Bool.false, ()), ()))
                                 else
                                  bif v15.1.2.1 != v11.1.2.1 then
                                   some (((Bool.false, ()), ()))
                                  else
                                   obind (R.laws_markWorld K v15.1.1 1) fun v35 =>
                                    obind (R.laws_heldWorld K (v35.2.1.1, v35.2.1.2.1, v35.2.1.2.2.1, v35.2.1.2.2.2.1, v15.1.1.2.2.2.2) 1) fun v36 =>
                                     bif Decidable.decide (v36.1.1 < 0) then
                                      some (((Bool.false, ()), ()))
                                     else
                                      bif v36.1.1 != v35.1.1 then
                                       some (((Bool.false, ()), ()))
                                      else
                                       obind (R.laws_toBase K p0) fun v39 =>
                                        obind (R.laws_toWishSS K p1) fun v40 =>
                                         obind (R.laws_toStringS K p2) fun v41 =>
                                          obind (R.impl_NewWorld K v39.1.1 v40.1.1 v41.1.1) fun v42 =>
                                           obind (R.laws_eqWorld K v42.1.1 v11.1.1) fun v43 =>
                                            bif !v43.1.1 then
                                             some (((Bool.false, ()), ()))
                                            else
                                             bif v42.1.2.1 != v11.1.2.1 then
                                              some (((Bool.false, ()), ()))
                                             else
                                              obind (R.laws_heldWorld K (v35.2.1.1, v35.2.1.2.1, v35.2.1.2.2.1, v35.2.1.2.2.2.1, v15.1.1.2.2.2.2) 1) fun v46 =>
                                               bif Decidable.decide (v46.1.1 < 0) then
                                                some (((Bool.false, ()), ()))
                                               else
                                                bif v46.1.1 != v35.1.1 then
                                                 some (((Bool.false, ()), ()))
                                                else
                                                 some (((Bool.true, ()), ()))

end Go.Proofs
