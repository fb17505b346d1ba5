/- What the functions come to, printed by a program of the prover's own. -/
import Derived.Test.YtjblmapbompclaaGreatFwMe
set_option linter.all false
namespace Go.Proofs
open Go Fw
set_option maxRecDepth 100000
abbrev R.T0 : Type := (List ((List UInt8) × ((Int) × (Bool))))
abbrev R.T1 : Type := ((List (Bool)) × ((List (Bool)) × Unit))
abbrev R.T2 : Type := ((List UInt8) × ((Int) × ((Bool) × Unit)))
abbrev R.T3 : Type := (((Int) × ((Int) × Unit)) ⊕ ((Int) × Unit))
abbrev R.T4 : Type := ((List UInt8) × ((Int) × ((Int) × (Bool))))
abbrev R.T5 : Type := ((List (Int)) × (List ((List UInt8) × (Int))))
abbrev R.T6 : Type := ((List (Int)) × ((List (List UInt8)) × (Int)))
abbrev R.T7 : Type := (((List ((List UInt8) × (Int))) × Unit) × Unit)
abbrev R.T8 : Type := ((Int) × ((Int) × (List ((List UInt8) × (Int)))))
abbrev R.T9 : Type := (R.T0 × Unit)
abbrev R.T10 : Type := (List R.T4)
abbrev R.T11 : Type := ((Int) × R.T1)
abbrev R.T12 : Type := ((List UInt8) × ((List UInt8) × ((Int) × (Bool))))
abbrev R.T13 : Type := ((Bool) × R.T1)
abbrev R.T14 : Type := (List R.T5)
abbrev R.T15 : Type := ((List (List UInt8)) × (List ((List UInt8) × (Int))))
abbrev R.T16 : Type := ((List UInt8) × R.T0)
abbrev R.T17 : Type := (List R.T12)
abbrev R.T18 : Type := (R.T9 × Unit)
abbrev R.T19 : Type := ((Int) × R.T8)
abbrev R.T20 : Type := (R.T10 × Unit)
abbrev R.T21 : Type := ((List ((List UInt8) × (Int))) × ((Bool) × ((Int) × Unit)))
abbrev R.T22 : Type := ((Int) × R.T11)
abbrev R.T23 : Type := (R.T14 × Unit)
abbrev R.T24 : Type := ((Int) × R.T15)
abbrev R.T25 : Type := ((Int) × R.T19)
abbrev R.T26 : Type := ((List ((List UInt8) × (Int))) × ((List ((List UInt8) × (Int))) × Unit))
abbrev R.T27 : Type := ((List ((List UInt8) × (Int))) × ((List (List UInt8)) × ((Int) × Unit)))
abbrev R.T28 : Type := ((Int) × R.T24)
abbrev R.T29 : Type := ((List (List UInt8)) × R.T9)
abbrev R.T30 : Type := ((List UInt8) × R.T16)
abbrev R.T31 : Type := ((Int) × R.T25)
abbrev R.T32 : Type := ((List ((List UInt8) × (Int))) × R.T6)
abbrev R.T33 : Type := (R.T26 ⊕ Unit)
abbrev R.T34 : Type := (R.T27 × Unit)
abbrev R.T35 : Type := ((Int) × R.T26)
abbrev R.T36 : Type := ((Int) × R.T28)
abbrev R.T37 : Type := ((Int) × R.T30)
abbrev R.T38 : Type := ((Int) × R.T31)
abbrev R.T39 : Type := ((List UInt8) × R.T30)
abbrev R.T40 : Type := ((Bool) × R.T32)
abbrev R.T41 : Type := (R.T36 × Unit)
abbrev R.T42 : Type := (R.T0 × R.T9)
abbrev R.T43 : Type := ((Int) × R.T38)
abbrev R.T44 : Type := (R.T40 × Unit)
abbrev R.T45 : Type := ((Int) × R.T39)
abbrev R.T46 : Type := (R.T42 ⊕ Unit)
abbrev R.T47 : Type := ((Int) × R.T42)
abbrev R.T48 : Type := (List R.T45)
abbrev R.T49 : Type := (R.T14 × R.T10)
abbrev R.T50 : Type := (R.T44 × Unit)
abbrev R.T51 : Type := ((Int) × R.T47)
abbrev R.T52 : Type := (R.T49 × Unit)
abbrev R.T53 : Type := (R.T48 × Unit)
abbrev R.T54 : Type := ((List ((List UInt8) × (Int))) × R.T41)
abbrev R.T55 : Type := ((Int) × R.T52)
abbrev R.T56 : Type := ((List ((List UInt8) × (Int))) × R.T51)
abbrev R.T57 : Type := ((List ((List UInt8) × (Int))) × R.T56)
noncomputable def R.laws_szIntS (K : Nat) (p0 : List (Int)) (p1 : Int) : Option (((Int) × Unit) × Unit) :=
 bif Decidable.decide (Go.IntKind.wrap Go.IntKind.i64 (p1 - (↑(List.length p0) : Int)) < 0) then
 some (((-1, ()), ()))
 else
 some (((Go.IntKind.wrap Go.IntKind.i64 (p1 - (↑(List.length p0) : Int)), ()), ()))
noncomputable def R.laws_szEntry (K : Nat) (p0 : (List UInt8) × (Int)) (p1 : Int) : Option (((Int) × Unit) × Unit) :=
 bif Decidable.decide (Go.IntKind.wrap Go.IntKind.i64 (p1 - (↑(List.length p0.1) : Int)) < 0) then
 some (((-1, ()), ()))
 else
 some (((Go.IntKind.wrap Go.IntKind.i64 (p1 - (↑(List.length p0.1) : Int)), ()), ()))
noncomputable def R.L_laws_szEntryS_0 (K : Nat) : Nat → ((List ((List UInt8) × (Int))) × ((Int) × ((Int) × ((Int) × Unit)))) → Option R.T3
 | 0, _ => none
 | n + 1, (q0, (q1, (q2, (q3, ())))) =>
 bif Decidable.decide (q3 < (↑(List.length q0) : Int)) then
 bif Decidable.decide (0 ≤ q3) && Decidable.decide (q3 < (↑(List.length q0) : Int)) then
 obind (R.laws_szEntry K (List.getD q0 (Int.toNat q3) ([], 0)) q1) fun v6 =>
 bif Decidable.decide (v6.1.1 < 0) then
 some (Sum.inr (-1, ()))
 else
 R.L_laws_szEntryS_0 K n (q0, v6.1.1, q2, Go.IntKind.wrap Go.IntKind.i64 (q3 + 1), ())
 else
 none
 else
 some (Sum.inl (q1, q2, ()))
noncomputable def R.laws_szEntryS (K : Nat) (p0 : List ((List UInt8) × (Int))) (p1 : Int) : Option (((Int) × Unit) × Unit) :=
 bif Decidable.decide (Go.IntKind.wrap Go.IntKind.i64 (p1 - (↑(List.length p0) : Int)) < 0) then
 some (((-1, ()), ()))
 else
 obind (R.L_laws_szEntryS_0 K K (p0, Go.IntKind.wrap Go.IntKind.i64 (p1 - (↑(List.length p0) : Int)), 0, 0, ())) fun v3 =>
 (match v3 with
 | .inl v4 =>
 some (((v4.1, ()), ()))
 | .inr v4 =>
 some (((v4.1, ()), ()))
 )
noncomputable def R.laws_szCommit (K : Nat) (p0 : (List (Int)) × (List ((List UInt8) × (Int)))) (p1 : Int) : Option (((Int) × Unit) × Unit) :=
 obind (R.laws_szIntS K p0.1 p1) fun v2 =>
 bif Decidable.decide (v2.1.1 < 0) then
 some (((-1, ()), ()))
 else
 obind (R.laws_szEntryS K p0.2 v2.1.1) fun v4 =>
 bif Decidable.decide (v4.1.1 < 0) then
 some (((-1, ()), ()))
 else
 some (((v4.1.1, ()), ()))
noncomputable def R.L_laws_szCommitS_0 (K : Nat) : Nat → (R.T14 × ((Int) × ((Int) × ((Int) × Unit)))) → Option R.T3
 | 0, _ => none
 | n + 1, (q0, (q1, (q2, (q3, ())))) =>
 bif Decidable.decide (q3 < (↑(List.length q0) : Int)) then
 bif Decidable.decide (0 ≤ q3) && Decidable.decide (q3 < (↑(List.length q0) : Int)) then
 obind (R.laws_szCommit K (List.getD q0 (Int.toNat q3) ([], [])) q1) fun v6 =>
 bif Decidable.decide (v6.1.1 < 0) then
 some (Sum.inr (-1, ()))
 else
 R.L_laws_szCommitS_0 K n (q0, v6.1.1, q2, Go.IntKind.wrap Go.IntKind.i64 (q3 + 1), ())
 else
 none
 else
 some (Sum.inl (q1, q2, ()))
noncomputable def R.laws_szCommitS (K : Nat) (p0 : List R.T5) (p1 : Int) : Option (((Int) × Unit) × Unit) :=
 bif Decidable.decide (Go.IntKind.wrap Go.IntKind.i64 (p1 - (↑(List.length p0) : Int)) < 0) then
 some (((-1, ()), ()))
 else
 obind (R.L_laws_szCommitS_0 K K (p0, Go.IntKind.wrap Go.IntKind.i64 (p1 - (↑(List.length p0) : Int)), 0, 0, ())) fun v3 =>
 (match v3 with
 | .inl v4 =>
 some (((v4.1, ()), ()))
 | .inr v4 =>
 some (((v4.1, ()), ()))
 )
noncomputable def R.laws_szRef (K : Nat) (p0 : (List UInt8) × ((Int) × ((Int) × (Bool)))) (p1 : Int) : Option (((Int) × Unit) × Unit) :=
 bif Decidable.decide (Go.IntKind.wrap Go.IntKind.i64 (p1 - (↑(List.length p0.1) : Int)) < 0) then
 some (((-1, ()), ()))
 else
 some (((Go.IntKind.wrap Go.IntKind.i64 (p1 - (↑(List.length p0.1) : Int)), ()), ()))
noncomputable def R.L_laws_szRefS_0 (K : Nat) : Nat → (R.T10 × ((Int) × ((Int) × ((Int) × Unit)))) → Option R.T3
 | 0, _ => none
 | n + 1, (q0, (q1, (q2, (q3, ())))) =>
 bif Decidable.decide (q3 < (↑(List.length q0) : Int)) then
 bif Decidable.decide (0 ≤ q3) && Decidable.decide (q3 < (↑(List.length q0) : Int)) then
 obind (R.laws_szRef K (List.getD q0 (Int.toNat q3) ([], 0, 0, Bool.false)) q1) fun v6 =>
 bif Decidable.decide (v6.1.1 < 0) then
 some (Sum.inr (-1, ()))
 else
 R.L_laws_szRefS_0 K n (q0, v6.1.1, q2, Go.IntKind.wrap Go.IntKind.i64 (q3 + 1), ())
 else
 none
 else
 some (Sum.inl (q1, q2, ()))
noncomputable def R.laws_szRefS (K : Nat) (p0 : List R.T4) (p1 : Int) : Option (((Int) × Unit) × Unit) :=
 bif Decidable.decide (Go.IntKind.wrap Go.IntKind.i64 (p1 - (↑(List.length p0) : Int)) < 0) then
 some (((-1, ()), ()))
 else
 obind (R.L_laws_szRefS_0 K K (p0, Go.IntKind.wrap Go.IntKind.i64 (p1 - (↑(List.length p0) : Int)), 0, 0, ())) fun v3 =>
 (match v3 with
 | .inl v4 =>
 some (((v4.1, ()), ()))
 | .inr v4 =>
 some (((v4.1, ()), ()))
 )
noncomputable def R.laws_szBase (K : Nat) (p0 : R.T14 × R.T10) (p1 : Int) : Option (((Int) × Unit) × Unit) :=
 obind (R.laws_szCommitS K p0.1 p1) fun v2 =>
 bif Decidable.decide (v2.1.1 < 0) then
 some (((-1, ()), ()))
 else
 obind (R.laws_szRefS K p0.2 v2.1.1) fun v4 =>
 bif Decidable.decide (v4.1.1 < 0) then
 some (((-1, ()), ()))
 else
 some (((v4.1.1, ()), ()))
noncomputable def R.laws_szEdit (K : Nat) (p0 : (List UInt8) × ((Int) × (Bool))) (p1 : Int) : Option (((Int) × Unit) × Unit) :=
 bif Decidable.decide (Go.IntKind.wrap Go.IntKind.i64 (p1 - (↑(List.length p0.1) : Int)) < 0) then
 some (((-1, ()), ()))
 else
 some (((Go.IntKind.wrap Go.IntKind.i64 (p1 - (↑(List.length p0.1) : Int)), ()), ()))
noncomputable def R.L_laws_szEditS_0 (K : Nat) : Nat → (R.T0 × ((Int) × ((Int) × ((Int) × Unit)))) → Option R.T3
 | 0, _ => none
 | n + 1, (q0, (q1, (q2, (q3, ())))) =>
 bif Decidable.decide (q3 < (↑(List.length q0) : Int)) then
 bif Decidable.decide (0 ≤ q3) && Decidable.decide (q3 < (↑(List.length q0) : Int)) then
 obind (R.laws_szEdit K (List.getD q0 (Int.toNat q3) ([], 0, Bool.false)) q1) fun v6 =>
 bif Decidable.decide (v6.1.1 < 0) then
 some (Sum.inr (-1, ()))
 else
 R.L_laws_szEditS_0 K n (q0, v6.1.1, q2, Go.IntKind.wrap Go.IntKind.i64 (q3 + 1), ())
 else
 none
 else
 some (Sum.inl (q1, q2, ()))
noncomputable def R.laws_szEditS (K : Nat) (p0 : List ((List UInt8) × ((Int) × (Bool)))) (p1 : Int) : Option (((Int) × Unit) × Unit) :=
 bif Decidable.decide (Go.IntKind.wrap Go.IntKind.i64 (p1 - (↑(List.length p0) : Int)) < 0) then
 some (((-1, ()), ()))
 else
 obind (R.L_laws_szEditS_0 K K (p0, Go.IntKind.wrap Go.IntKind.i64 (p1 - (↑(List.length p0) : Int)), 0, 0, ())) fun v3 =>
 (match v3 with
 | .inl v4 =>
 some (((v4.1, ()), ()))
 | .inr v4 =>
 some (((v4.1, ()), ()))
 )
noncomputable def R.laws_szWish (K : Nat) (p0 : (Int) × R.T39) (p1 : Int) : Option (((Int) × Unit) × Unit) :=
 bif Decidable.decide (Go.IntKind.wrap Go.IntKind.i64 (p1 - (↑(List.length p0.2.1) : Int)) < 0) then
 some (((-1, ()), ()))
 else
 bif Decidable.decide (Go.IntKind.wrap Go.IntKind.i64 (Go.IntKind.wrap Go.IntKind.i64 (p1 - (↑(List.length p0.2.1) : Int)) - (↑(List.length p0.2.2.1) : Int)) < 0) then
 some (((-1, ()), ()))
 else
 bif Decidable.decide (Go.IntKind.wrap Go.IntKind.i64 (Go.IntKind.wrap Go.IntKind.i64 (Go.IntKind.wrap Go.IntKind.i64 (p1 - (↑(List.length p0.2.1) : Int)) - (↑(List.length p0.2.2.1) : Int)) - (↑(List.length p0.2.2.2.1) : Int)) < 0) then
 some (((-1, ()), ()))
 else
 obind (R.laws_szEditS K p0.2.2.2.2 (Go.IntKind.wrap Go.IntKind.i64 (Go.IntKind.wrap Go.IntKind.i64 (Go.IntKind.wrap Go.IntKind.i64 (p1 - (↑(List.length p0.2.1) : Int)) - (↑(List.length p0.2.2.1) : Int)) - (↑(List.length p0.2.2.2.1) : Int)))) fun v5 =>
 bif Decidable.decide (v5.1.1 < 0) then
 some (((-1, ()), ()))
 else
 some (((v5.1.1, ()), ()))
noncomputable def R.L_laws_szWishS_0 (K : Nat) : Nat → (R.T48 × ((Int) × ((Int) × ((Int) × Unit)))) → Option R.T3
 | 0, _ => none
 | n + 1, (q0, (q1, (q2, (q3, ())))) =>
 bif Decidable.decide (q3 < (↑(List.length q0) : Int)) then
 bif Decidable.decide (0 ≤ q3) && Decidable.decide (q3 < (↑(List.length q0) : Int)) then
 obind (R.laws_szWish K (List.getD q0 (Int.toNat q3) (0, [], [], [], [])) q1) fun v6 =>
 bif Decidable.decide (v6.1.1 < 0) then
 some (Sum.inr (-1, ()))
 else
 R.L_laws_szWishS_0 K n (q0, v6.1.1, q2, Go.IntKind.wrap Go.IntKind.i64 (q3 + 1), ())
 else
 none
 else
 some (Sum.inl (q1, q2, ()))
noncomputable def R.laws_szWishS (K : Nat) (p0 : List R.T45) (p1 : Int) : Option (((Int) × Unit) × Unit) :=
 bif Decidable.decide (Go.IntKind.wrap Go.IntKind.i64 (p1 - (↑(List.length p0) : Int)) < 0) then
 some (((-1, ()), ()))
 else
 obind (R.L_laws_szWishS_0 K K (p0, Go.IntKind.wrap Go.IntKind.i64 (p1 - (↑(List.length p0) : Int)), 0, 0, ())) fun v3 =>
 (match v3 with
 | .inl v4 =>
 some (((v4.1, ()), ()))
 | .inr v4 =>
 some (((v4.1, ()), ()))
 )
noncomputable def R.laws_szClient (K : Nat) (p0 : R.T48 × R.T43) (p1 : Int) : Option (((Int) × Unit) × Unit) :=
 obind (R.laws_szWishS K p0.1 p1) fun v2 =>
 bif Decidable.decide (v2.1.1 < 0) then
 some (((-1, ()), ()))
 else
 obind (R.laws_szEntryS K p0.2.2.2.2.2.2.2.2 v2.1.1) fun v4 =>
 bif Decidable.decide (v4.1.1 < 0) then
 some (((-1, ()), ()))
 else
 some (((v4.1.1, ()), ()))
noncomputable def R.L_laws_toIntS_0 (K : Nat) : Nat → ((List (Int)) × ((Int) × ((List (Int)) × ((List (Int)) × Unit)))) → Option (((List (Int)) × ((List (Int)) × Unit)) ⊕ Unit)
 | 0, _ => none
 | n + 1, (q0, (q1, (q2, (q3, ())))) =>
 bif Decidable.decide (q1 < (↑(List.length q0) : Int)) then
 bif Decidable.decide (0 ≤ q1) && Decidable.decide (q1 < (↑(List.length q0) : Int)) then
 bif Decidable.decide (0 ≤ q1) && Decidable.decide (q1 < (↑(List.length q3) : Int)) then
 R.L_laws_toIntS_0 K n (q0, Go.IntKind.wrap Go.IntKind.i64 (q1 + 1), q2, List.set q3 (Int.toNat q1) (List.getD q0 (Int.toNat q1) 0), ())
 else
 none
 else
 none
 else
 some (Sum.inl (q2, q3, ()))
noncomputable def R.laws_toIntS (K : Nat) (p0 : List (Int)) : Option (((List (Int)) × Unit) × Unit) :=
 bif Decidable.decide (0 ≤ (↑(List.length p0) : Int)) && Decidable.decide ((↑(List.length p0) : Int) ≤ (↑(List.length p0) : Int)) && Decidable.decide ((↑(List.length p0) : Int) ≤ (↑268435456 : Int)) then
 obind (R.L_laws_toIntS_0 K K (p0, 0, [], List.replicate (Int.toNat (↑(List.length p0) : Int)) 0, ())) fun v3 =>
 (match v3 with
 | .inl v4 =>
 some (((v4.2.1, ()), ()))
 | .inr v4 =>
 none
 )
 else
 none
noncomputable def R.laws_toEntry (K : Nat) (p0 : (List UInt8) × (Int)) : Option ((((List UInt8) × (Int)) × Unit) × Unit) :=
 some (((p0, ()), ()))
noncomputable def R.L_laws_toEntryS_0 (K : Nat) : Nat → ((List ((List UInt8) × (Int))) × R.T35) → Option R.T33
 | 0, _ => none
 | n + 1, (q0, (q1, (q2, (q3, ())))) =>
 bif Decidable.decide (q1 < (↑(List.length q0) : Int)) then
 bif Decidable.decide (0 ≤ q1) && Decidable.decide (q1 < (↑(List.length q0) : Int)) then
 bif Decidable.decide (0 ≤ q1) && Decidable.decide (q1 < (↑(List.length q3) : Int)) then
 R.L_laws_toEntryS_0 K n (q0, Go.IntKind.wrap Go.IntKind.i64 (q1 + 1), q2, List.set q3 (Int.toNat q1) (List.getD q0 (Int.toNat q1) ([], 0)), ())
 else
 none
 else
 none
 else
 some (Sum.inl (q2, q3, ()))
noncomputable def R.laws_toEntryS (K : Nat) (p0 : List ((List UInt8) × (Int))) : Option R.T7 :=
 bif Decidable.decide (0 ≤ (↑(List.length p0) : Int)) && Decidable.decide ((↑(List.length p0) : Int) ≤ (↑(List.length p0) : Int)) && Decidable.decide ((↑(List.length p0) : Int) ≤ (↑268435456 : Int)) then
 obind (R.L_laws_toEntryS_0 K K (p0, 0, [], List.replicate (Int.toNat (↑(List.length p0) : Int)) ([], 0), ())) fun v3 =>
 (match v3 with
 | .inl v4 =>
 some (((v4.2.1, ()), ()))
 | .inr v4 =>
 none
 )
 else
 none
noncomputable def R.laws_toCommit (K : Nat) (p0 : (List (Int)) × (List ((List UInt8) × (Int)))) : Option ((R.T5 × Unit) × Unit) :=
 obind (R.laws_toIntS K p0.1) fun v2 =>
 obind (R.laws_toEntryS K p0.2) fun v3 =>
 some ((((v2.1.1, v3.1.1), ()), ()))
noncomputable def R.L_laws_toCommitS_0 (K : Nat) : Nat → (R.T14 × ((Int) × (R.T14 × R.T23))) → Option ((R.T14 × R.T23) ⊕ Unit)
 | 0, _ => none
 | n + 1, (q0, (q1, (q2, (q3, ())))) =>
 bif Decidable.decide (q1 < (↑(List.length q0) : Int)) then
 bif Decidable.decide (0 ≤ q1) && Decidable.decide (q1 < (↑(List.length q0) : Int)) then
 obind (R.laws_toCommit K (List.getD q0 (Int.toNat q1) ([], []))) fun v6 =>
 bif Decidable.decide (0 ≤ q1) && Decidable.decide (q1 < (↑(List.length q3) : Int)) then
 R.L_laws_toCommitS_0 K n (q0, Go.IntKind.wrap Go.IntKind.i64 (q1 + 1), q2, List.set q3 (Int.toNat q1) v6.1.1, ())
 else
 none
 else
 none
 else
 some (Sum.inl (q2, q3, ()))
noncomputable def R.laws_toCommitS (K : Nat) (p0 : List R.T5) : Option (R.T23 × Unit) :=
 bif Decidable.decide (0 ≤ (↑(List.length p0) : Int)) && Decidable.decide ((↑(List.length p0) : Int) ≤ (↑(List.length p0) : Int)) && Decidable.decide ((↑(List.length p0) : Int) ≤ (↑268435456 : Int)) then
 obind (R.L_laws_toCommitS_0 K K (p0, 0, [], List.replicate (Int.toNat (↑(List.length p0) : Int)) ([], []), ())) fun v3 =>
 (match v3 with
 | .inl v4 =>
 some (((v4.2.1, ()), ()))
 | .inr v4 =>
 none
 )
 else
 none
noncomputable def R.laws_toRef (K : Nat) (p0 : (List UInt8) × ((Int) × ((Int) × (Bool)))) : Option ((R.T4 × Unit) × Unit) :=
 some (((p0, ()), ()))
noncomputable def R.L_laws_toRefS_0 (K : Nat) : Nat → (R.T10 × ((Int) × (R.T10 × R.T20))) → Option ((R.T10 × R.T20) ⊕ Unit)
 | 0, _ => none
 | n + 1, (q0, (q1, (q2, (q3, ())))) =>
 bif Decidable.decide (q1 < (↑(List.length q0) : Int)) then
 bif Decidable.decide (0 ≤ q1) && Decidable.decide (q1 < (↑(List.length q0) : Int)) then
 bif Decidable.decide (0 ≤ q1) && Decidable.decide (q1 < (↑(List.length q3) : Int)) then
 R.L_laws_toRefS_0 K n (q0, Go.IntKind.wrap Go.IntKind.i64 (q1 + 1), q2, List.set q3 (Int.toNat q1) (List.getD q0 (Int.toNat q1) ([], 0, 0, Bool.false)), ())
 else
 none
 else
 none
 else
 some (Sum.inl (q2, q3, ()))
noncomputable def R.laws_toRefS (K : Nat) (p0 : List R.T4) : Option (R.T20 × Unit) :=
 bif Decidable.decide (0 ≤ (↑(List.length p0) : Int)) && Decidable.decide ((↑(List.length p0) : Int) ≤ (↑(List.length p0) : Int)) && Decidable.decide ((↑(List.length p0) : Int) ≤ (↑268435456 : Int)) then
 obind (R.L_laws_toRefS_0 K K (p0, 0, [], List.replicate (Int.toNat (↑(List.length p0) : Int)) ([], 0, 0, Bool.false), ())) fun v3 =>
 (match v3 with
 | .inl v4 =>
 some (((v4.2.1, ()), ()))
 | .inr v4 =>
 none
 )
 else
 none
noncomputable def R.laws_toBase (K : Nat) (p0 : R.T14 × R.T10) : Option (R.T52 × Unit) :=
 obind (R.laws_toCommitS K p0.1) fun v2 =>
 obind (R.laws_toRefS K p0.2) fun v3 =>
 some ((((v2.1.1, v3.1.1), ()), ()))
noncomputable def R.laws_toEdit (K : Nat) (p0 : (List UInt8) × ((Int) × (Bool))) : Option ((((List UInt8) × ((Int) × (Bool))) × Unit) × Unit) :=
 some (((p0, ()), ()))
noncomputable def R.L_laws_toEditS_0 (K : Nat) : Nat → (R.T0 × R.T47) → Option R.T46
 | 0, _ => none
 | n + 1, (q0, (q1, (q2, (q3, ())))) =>
 bif Decidable.decide (q1 < (↑(List.length q0) : Int)) then
 bif Decidable.decide (0 ≤ q1) && Decidable.decide (q1 < (↑(List.length q0) : Int)) then
 bif Decidable.decide (0 ≤ q1) && Decidable.decide (q1 < (↑(List.length q3) : Int)) then
 R.L_laws_toEditS_0 K n (q0, Go.IntKind.wrap Go.IntKind.i64 (q1 + 1), q2, List.set q3 (Int.toNat q1) (List.getD q0 (Int.toNat q1) ([], 0, Bool.false)), ())
 else
 none
 else
 none
 else
 some (Sum.inl (q2, q3, ()))
noncomputable def R.laws_toEditS (K : Nat) (p0 : List ((List UInt8) × ((Int) × (Bool)))) : Option R.T18 :=
 bif Decidable.decide (0 ≤ (↑(List.length p0) : Int)) && Decidable.decide ((↑(List.length p0) : Int) ≤ (↑(List.length p0) : Int)) && Decidable.decide ((↑(List.length p0) : Int) ≤ (↑268435456 : Int)) then
 obind (R.L_laws_toEditS_0 K K (p0, 0, [], List.replicate (Int.toNat (↑(List.length p0) : Int)) ([], 0, Bool.false), ())) fun v3 =>
 (match v3 with
 | .inl v4 =>
 some (((v4.2.1, ()), ()))
 | .inr v4 =>
 none
 )
 else
 none
noncomputable def R.laws_toWish (K : Nat) (p0 : (Int) × R.T39) : Option ((R.T45 × Unit) × Unit) :=
 obind (R.laws_toEditS K p0.2.2.2.2) fun v2 =>
 some ((((p0.1, p0.2.1, p0.2.2.1, p0.2.2.2.1, v2.1.1), ()), ()))
noncomputable def R.L_laws_toWishS_0 (K : Nat) : Nat → (R.T48 × ((Int) × (R.T48 × R.T53))) → Option ((R.T48 × R.T53) ⊕ Unit)
 | 0, _ => none
 | n + 1, (q0, (q1, (q2, (q3, ())))) =>
 bif Decidable.decide (q1 < (↑(List.length q0) : Int)) then
 bif Decidable.decide (0 ≤ q1) && Decidable.decide (q1 < (↑(List.length q0) : Int)) then
 obind (R.laws_toWish K (List.getD q0 (Int.toNat q1) (0, [], [], [], []))) fun v6 =>
 bif Decidable.decide (0 ≤ q1) && Decidable.decide (q1 < (↑(List.length q3) : Int)) then
 R.L_laws_toWishS_0 K n (q0, Go.IntKind.wrap Go.IntKind.i64 (q1 + 1), q2, List.set q3 (Int.toNat q1) v6.1.1, ())
 else
 none
 else
 none
 else
 some (Sum.inl (q2, q3, ()))
noncomputable def R.laws_toWishS (K : Nat) (p0 : List R.T45) : Option (R.T53 × Unit) :=
 bif Decidable.decide (0 ≤ (↑(List.length p0) : Int)) && Decidable.decide ((↑(List.length p0) : Int) ≤ (↑(List.length p0) : Int)) && Decidable.decide ((↑(List.length p0) : Int) ≤ (↑268435456 : Int)) then
 obind (R.L_laws_toWishS_0 K K (p0, 0, [], List.replicate (Int.toNat (↑(List.length p0) : Int)) (0, [], [], [], []), ())) fun v3 =>
 (match v3 with
 | .inl v4 =>
 some (((v4.2.1, ()), ()))
 | .inr v4 =>
 none
 )
 else
 none
noncomputable def R.laws_toClient (K : Nat) (p0 : R.T48 × R.T43) : Option (((R.T48 × R.T43) × Unit) × Unit) :=
 obind (R.laws_toWishS K p0.1) fun v2 =>
 obind (R.laws_toEntryS K p0.2.2.2.2.2.2.2.2) fun v3 =>
 some ((((v2.1.1, p0.2.1, p0.2.2.1, p0.2.2.2.1, p0.2.2.2.2.1, p0.2.2.2.2.2.1, p0.2.2.2.2.2.2.1, p0.2.2.2.2.2.2.2.1, v3.1.1), ()), ()))
noncomputable def R.spec_l01In (K : Nat) (p0 : Int) (p1 : Int) (p2 : Int) : Option (((Bool) × Unit) × Unit) :=
 bif Decidable.decide (p0 ≥ p1) then
 some (((Decidable.decide (p0 ≤ p2), ()), ()))
 else
 some (((Bool.false, ()), ()))
noncomputable def R.spec_l00Letter (K : Nat) (p0 : Int) : Option (((Bool) × Unit) × Unit) :=
 bif Decidable.decide (p0 ≥ 97) then
 bif Decidable.decide (p0 ≤ 122) then
 some (((Bool.true, ()), ()))
 else
 bif Decidable.decide (p0 ≥ 65) then
 bif Decidable.decide (p0 ≤ 90) then
 some (((Bool.true, ()), ()))
 else
 some (((p0 == 95, ()), ()))
 else
 some (((p0 == 95, ()), ()))
 else
 bif Decidable.decide (p0 ≥ 65) then
 bif Decidable.decide (p0 ≤ 90) then
 some (((Bool.true, ()), ()))
 else
 some (((p0 == 95, ()), ()))
 else
 some (((p0 == 95, ()), ()))
noncomputable def R.spec_l00Digit (K : Nat) (p0 : Int) : Option (((Bool) × Unit) × Unit) :=
 bif Decidable.decide (p0 ≥ 48) then
 some (((Decidable.decide (p0 ≤ 57), ()), ()))
 else
 some (((Bool.false, ()), ()))
noncomputable def R.L_spec_l00Word_0 (K : Nat) : Nat → ((List UInt8) × ((Bool) × ((Int) × Unit))) → Option (((Bool) × Unit) ⊕ ((Bool) × Unit))
 | 0, _ => none
 | n + 1, (q0, (q1, (q2, ()))) =>
 bif Decidable.decide (q2 < (↑(List.length q0) : Int)) then
 bif Decidable.decide (0 ≤ q2) && Decidable.decide (q2 < (↑(List.length q0) : Int)) then
 obind (R.spec_l00Letter K (↑(UInt8.toNat (List.getD q0 (Int.toNat q2) 0)) : Int)) fun v6 =>
 bif !v6.1.1 then
 bif Decidable.decide (0 ≤ q2) && Decidable.decide (q2 < (↑(List.length q0) : Int)) then
 obind (R.spec_l00Digit K (↑(UInt8.toNat (List.getD q0 (Int.toNat q2) 0)) : Int)) fun v9 =>
 bif !v9.1.1 then
 some (Sum.inr (Bool.false, ()))
 else
 R.L_spec_l00Word_0 K n (q0, q1, Go.IntKind.wrap Go.IntKind.i64 (q2 + 1), ())
 else
 none
 else
 R.L_spec_l00Word_0 K n (q0, q1, Go.IntKind.wrap Go.IntKind.i64 (q2 + 1), ())
 else
 none
 else
 some (Sum.inl (q1, ()))
noncomputable def R.spec_l00Word (K : Nat) (p0 : List UInt8) : Option (((Bool) × Unit) × Unit) :=
 bif Decidable.decide ((↑(List.length p0) : Int) < 1) then
 some (((Bool.false, ()), ()))
 else
 bif Decidable.decide ((↑(List.length p0) : Int) > 12) then
 some (((Bool.false, ()), ()))
 else
 bif Decidable.decide (0 ≤ 0) && Decidable.decide (0 < (↑(List.length p0) : Int)) then
 obind (R.spec_l00Letter K (↑(UInt8.toNat (List.getD p0 (Int.toNat 0) 0)) : Int)) fun v5 =>
 bif !v5.1.1 then
 some (((Bool.false, ()), ()))
 else
 obind (R.L_spec_l00Word_0 K K (p0, Bool.false, 1, ())) fun v7 =>
 (match v7 with
 | .inl v8 =>
 some (((Bool.true, ()), ()))
 | .inr v8 =>
 some (((v8.1, ()), ()))
 )
 else
 none
noncomputable def R.L_spec_l01OK_0 (K : Nat) : Nat → R.T21 → Option (((Bool) × Unit) ⊕ ((Bool) × Unit))
 | 0, _ => none
 | n + 1, (q0, (q1, (q2, ()))) =>
 bif Decidable.decide (q2 < (↑(List.length q0) : Int)) then
 bif Decidable.decide (0 ≤ q2) && Decidable.decide (q2 < (↑(List.length q0) : Int)) then
 obind (R.spec_l00Word K (Prod.fst (List.getD q0 (Int.toNat q2) ([], 0)))) fun v6 =>
 bif !v6.1.1 then
 some (Sum.inr (Bool.false, ()))
 else
 bif Decidable.decide (0 ≤ q2) && Decidable.decide (q2 < (↑(List.length q0) : Int)) then
 obind (R.spec_l01In K (Prod.snd (List.getD q0 (Int.toNat q2) ([], 0))) (-1000000) 1000000) fun v9 =>
 bif !v9.1.1 then
 some (Sum.inr (Bool.false, ()))
 else
 bif Decidable.decide (q2 > 0) then
 bif Decidable.decide (0 ≤ q2) && Decidable.decide (q2 < (↑(List.length q0) : Int)) then
 bif Decidable.decide (0 ≤ Go.IntKind.wrap Go.IntKind.i64 (q2 - 1)) && Decidable.decide (Go.IntKind.wrap Go.IntKind.i64 (q2 - 1) < (↑(List.length q0) : Int)) then
 bif Fw.sless (Prod.fst (List.getD q0 (Int.toNat q2) ([], 0))) (Prod.fst (List.getD q0 (Int.toNat (Go.IntKind.wrap Go.IntKind.i64 (q2 - 1))) ([], 0))) || Prod.fst (List.getD q0 (Int.toNat q2) ([], 0)) == Prod.fst (List.getD q0 (Int.toNat (Go.IntKind.wrap Go.IntKind.i64 (q2 - 1))) ([], 0)) then
 some (Sum.inr (Bool.false, ()))
 else
 R.L_spec_l01OK_0 K n (q0, q1, Go.IntKind.wrap Go.IntKind.i64 (q2 + 1), ())
 else
 none
 else
 none
 else
 R.L_spec_l01OK_0 K n (q0, q1, Go.IntKind.wrap Go.IntKind.i64 (q2 + 1), ())
 else
 none
 else
 none
 else
 some (Sum.inl (q1, ()))
noncomputable def R.spec_l01OK (K : Nat) (p0 : List ((List UInt8) × (Int))) : Option (((Bool) × Unit) × Unit) :=
 bif Decidable.decide ((↑(List.length p0) : Int) > 12) then
 some (((Bool.false, ()), ()))
 else
 obind (R.L_spec_l01OK_0 K K (p0, Bool.false, 0, ())) fun v3 =>
 (match v3 with
 | .inl v4 =>
 some (((Bool.true, ()), ()))
 | .inr v4 =>
 some (((v4.1, ()), ()))
 )
noncomputable def R.L_spec_l03Commit_0 (K : Nat) : Nat → (R.T14 × ((Bool) × ((Int) × ((Int) × ((List (Int)) × ((List ((List UInt8) × (Int))) × Unit)))))) → Option (((Bool) × Unit) ⊕ ((Bool) × Unit))
 | 0, _ => none
 | n + 1, (q0, (q1, (q2, (q3, (q4, (q5, ())))))) =>
 bif Decidable.decide (q3 < q2) then
 bif Decidable.decide (0 ≤ q3) && Decidable.decide (q3 < (↑(List.length q4) : Int)) then
 obind (R.spec_l01In K (List.getD q4 (Int.toNat q3) 0) 1 (↑(List.length q0) : Int)) fun v6 =>
 bif !v6.1.1 then
 some (Sum.inr (Bool.false, ()))
 else
 bif Decidable.decide (q3 > 0) then
 bif Decidable.decide (0 ≤ q3) && Decidable.decide (q3 < (↑(List.length q4) : Int)) then
 bif Decidable.decide (0 ≤ 0) && Decidable.decide (0 < (↑(List.length q4) : Int)) then
 bif List.getD q4 (Int.toNat q3) 0 == List.getD q4 (Int.toNat 0) 0 then
 some (Sum.inr (Bool.false, ()))
 else
 R.L_spec_l03Commit_0 K n (q0, q1, q2, Go.IntKind.wrap Go.IntKind.i64 (q3 + 1), q4, q5, ())
 else
 none
 else
 none
 else
 R.L_spec_l03Commit_0 K n (q0, q1, q2, Go.IntKind.wrap Go.IntKind.i64 (q3 + 1), q4, q5, ())
 else
 none
 else
 some (Sum.inl (q1, ()))
noncomputable def R.spec_l03Commit (K : Nat) (p0 : List R.T5) (p1 : (List (Int)) × (List ((List UInt8) × (Int)))) : Option (((Bool) × Unit) × Unit) :=
 obind (R.spec_l01OK K p1.2) fun v2 =>
 bif !v2.1.1 then
 some (((Bool.false, ()), ()))
 else
 bif Decidable.decide ((↑(List.length p1.1) : Int) > 2) then
 some (((Bool.false, ()), ()))
 else
 bif !((↑(List.length p1.1) : Int) == 0) == ((↑(List.length p0) : Int) == 0) then
 some (((Bool.false, ()), ()))
 else
 obind (R.L_spec_l03Commit_0 K K (p0, Bool.false, (↑(List.length p1.1) : Int), 0, p1.1, p1.2, ())) fun v6 =>
 (match v6 with
 | .inl v7 =>
 some (((Bool.true, ()), ()))
 | .inr v7 =>
 some (((v7.1, ()), ()))
 )
noncomputable def R.L_spec_l03OK_0 (K : Nat) : Nat → (R.T14 × ((Bool) × ((Int) × Unit))) → Option (((Bool) × Unit) ⊕ ((Bool) × Unit))
 | 0, _ => none
 | n + 1, (q0, (q1, (q2, ()))) =>
 bif Decidable.decide (q2 < (↑(List.length q0) : Int)) then
 bif Decidable.decide (0 ≤ q2) && Decidable.decide (q2 ≤ (↑(List.length q0) : Int)) then
 bif Decidable.decide (0 ≤ q2) && Decidable.decide (q2 < (↑(List.length q0) : Int)) then
 obind (R.spec_l03Commit K (List.drop 0 (List.take (Int.toNat q2) q0)) (List.getD q0 (Int.toNat q2) ([], []))) fun v7 =>
 bif !v7.1.1 then
 some (Sum.inr (Bool.false, ()))
 else
 R.L_spec_l03OK_0 K n (q0, q1, Go.IntKind.wrap Go.IntKind.i64 (q2 + 1), ())
 else
 none
 else
 none
 else
 some (Sum.inl (q1, ()))
noncomputable def R.spec_l03OK (K : Nat) (p0 : List R.T5) : Option (((Bool) × Unit) × Unit) :=
 obind (R.spec_l01In K (↑(List.length p0) : Int) 1 60) fun v2 =>
 bif !v2.1.1 then
 some (((Bool.false, ()), ()))
 else
 obind (R.L_spec_l03OK_0 K K (p0, Bool.false, 0, ())) fun v4 =>
 (match v4 with
 | .inl v5 =>
 some (((Bool.true, ()), ()))
 | .inr v5 =>
 some (((v5.1, ()), ()))
 )
noncomputable def R.L_spec_l04At_0 (K : Nat) : Nat → (R.T10 × ((List UInt8) × ((Int) × ((Int) × Unit)))) → Option (((Int) × Unit) ⊕ ((Int) × Unit))
 | 0, _ => none
 | n + 1, (q0, (q1, (q2, (q3, ())))) =>
 bif Decidable.decide (q3 < (↑(List.length q0) : Int)) then
 bif Decidable.decide (0 ≤ q3) && Decidable.decide (q3 < (↑(List.length q0) : Int)) then
 bif Prod.fst (List.getD q0 (Int.toNat q3) ([], 0, 0, Bool.false)) == q1 then
 some (Sum.inr (q3, ()))
 else
 R.L_spec_l04At_0 K n (q0, q1, q2, Go.IntKind.wrap Go.IntKind.i64 (q3 + 1), ())
 else
 none
 else
 some (Sum.inl (q2, ()))
noncomputable def R.spec_l04At (K : Nat) (p0 : List R.T4) (p1 : List UInt8) : Option (((Int) × Unit) × Unit) :=
 obind (R.L_spec_l04At_0 K K (p0, p1, 0, 0, ())) fun v2 =>
 (match v2 with
 | .inl v3 =>
 some (((-1, ()), ()))
 | .inr v3 =>
 some (((v3.1, ()), ()))
 )
noncomputable def R.L_spec_l04OK_0 (K : Nat) : Nat → (R.T10 × ((Bool) × ((Int) × Unit))) → Option (((Bool) × Unit) ⊕ ((Bool) × Unit))
 | 0, _ => none
 | n + 1, (q0, (q1, (q2, ()))) =>
 bif Decidable.decide (q2 < (↑(List.length q0) : Int)) then
 bif Decidable.decide (0 ≤ q2) && Decidable.decide (q2 < (↑(List.length q0) : Int)) then
 obind (R.spec_l00Word K (Prod.fst (List.getD q0 (Int.toNat q2) ([], 0, 0, Bool.false)))) fun v6 =>
 bif !v6.1.1 then
 some (Sum.inr (Bool.false, ()))
 else
 obind (R.spec_l01In K (Prod.fst (Prod.snd (Prod.snd (List.getD q0 (Int.toNat q2) ([], 0, 0, Bool.false))))) 1 1000000) fun v8 =>
 bif !v8.1.1 then
 some (Sum.inr (Bool.false, ()))
 else
 obind (R.spec_l04At K q0 (Prod.fst (List.getD q0 (Int.toNat q2) ([], 0, 0, Bool.false)))) fun v10 =>
 bif v10.1.1 != q2 then
 some (Sum.inr (Bool.false, ()))
 else
 bif Prod.snd (Prod.snd (Prod.snd (List.getD q0 (Int.toNat q2) ([], 0, 0, Bool.false)))) then
 bif Prod.fst (Prod.snd (List.getD q0 (Int.toNat q2) ([], 0, 0, Bool.false))) != 0 then
 some (Sum.inr (Bool.false, ()))
 else
 bif !Prod.snd (Prod.snd (Prod.snd (List.getD q0 (Int.toNat q2) ([], 0, 0, Bool.false)))) then
 obind (R.spec_l01In K (Prod.fst (Prod.snd (List.getD q0 (Int.toNat q2) ([], 0, 0, Bool.false)))) 1 60) fun v15 =>
 bif !v15.1.1 then
 some (Sum.inr (Bool.false, ()))
 else
 R.L_spec_l04OK_0 K n (q0, q1, Go.IntKind.wrap Go.IntKind.i64 (q2 + 1), ())
 else
 R.L_spec_l04OK_0 K n (q0, q1, Go.IntKind.wrap Go.IntKind.i64 (q2 + 1), ())
 else
 bif !Prod.snd (Prod.snd (Prod.snd (List.getD q0 (Int.toNat q2) ([], 0, 0, Bool.false)))) then
 obind (R.spec_l01In K (Prod.fst (Prod.snd (List.getD q0 (Int.toNat q2) ([], 0, 0, Bool.false)))) 1 60) fun v14 =>
 bif !v14.1.1 then
 some (Sum.inr (Bool.false, ()))
 else
 R.L_spec_l04OK_0 K n (q0, q1, Go.IntKind.wrap Go.IntKind.i64 (q2 + 1), ())
 else
 R.L_spec_l04OK_0 K n (q0, q1, Go.IntKind.wrap Go.IntKind.i64 (q2 + 1), ())
 else
 none
 else
 some (Sum.inl (q1, ()))
noncomputable def R.spec_l04OK (K : Nat) (p0 : List R.T4) : Option (((Bool) × Unit) × Unit) :=
 bif Decidable.decide ((↑(List.length p0) : Int) > 8) then
 some (((Bool.false, ()), ()))
 else
 obind (R.L_spec_l04OK_0 K K (p0, Bool.false, 0, ())) fun v3 =>
 (match v3 with
 | .inl v4 =>
 some (((Bool.true, ()), ()))
 | .inr v4 =>
 some (((v4.1, ()), ()))
 )
noncomputable def R.L_spec_l05OK_0 (K : Nat) : Nat → ((Bool) × ((Int) × (R.T14 × R.T20))) → Option (((Bool) × Unit) ⊕ ((Bool) × Unit))
 | 0, _ => none
 | n + 1, (q0, (q1, (q2, (q3, ())))) =>
 bif Decidable.decide (q1 < (↑(List.length q3) : Int)) then
 bif Decidable.decide (0 ≤ q1) && Decidable.decide (q1 < (↑(List.length q3) : Int)) then
 bif Decidable.decide (Prod.fst (Prod.snd (List.getD q3 (Int.toNat q1) ([], 0, 0, Bool.false))) > (↑(List.length q2) : Int)) then
 some (Sum.inr (Bool.false, ()))
 else
 R.L_spec_l05OK_0 K n (q0, Go.IntKind.wrap Go.IntKind.i64 (q1 + 1), q2, q3, ())
 else
 none
 else
 some (Sum.inl (q0, ()))
noncomputable def R.spec_l05OK (K : Nat) (p0 : R.T14 × R.T10) : Option (((Bool) × Unit) × Unit) :=
 obind (R.spec_l03OK K p0.1) fun v2 =>
 bif !v2.1.1 then
 some (((Bool.false, ()), ()))
 else
 obind (R.spec_l04OK K p0.2) fun v4 =>
 bif !v4.1.1 then
 some (((Bool.false, ()), ()))
 else
 obind (R.L_spec_l05OK_0 K K (Bool.false, 0, p0.1, p0.2, ())) fun v6 =>
 (match v6 with
 | .inl v7 =>
 some (((Bool.true, ()), ()))
 | .inr v7 =>
 some (((v7.1, ()), ()))
 )
noncomputable def R.L_spec_l01Edits_0 (K : Nat) : Nat → (R.T0 × ((Bool) × ((Int) × Unit))) → Option (((Bool) × Unit) ⊕ ((Bool) × Unit))
 | 0, _ => none
 | n + 1, (q0, (q1, (q2, ()))) =>
 bif Decidable.decide (q2 < (↑(List.length q0) : Int)) then
 bif Decidable.decide (0 ≤ q2) && Decidable.decide (q2 < (↑(List.length q0) : Int)) then
 obind (R.spec_l00Word K (Prod.fst (List.getD q0 (Int.toNat q2) ([], 0, Bool.false)))) fun v6 =>
 bif !v6.1.1 then
 some (Sum.inr (Bool.false, ()))
 else
 obind (R.spec_l01In K (Prod.fst (Prod.snd (List.getD q0 (Int.toNat q2) ([], 0, Bool.false)))) (-1000000) 1000000) fun v8 =>
 bif !v8.1.1 then
 some (Sum.inr (Bool.false, ()))
 else
 bif Prod.snd (Prod.snd (List.getD q0 (Int.toNat q2) ([], 0, Bool.false))) then
 bif Prod.fst (Prod.snd (List.getD q0 (Int.toNat q2) ([], 0, Bool.false))) != 0 then
 some (Sum.inr (Bool.false, ()))
 else
 bif Decidable.decide (q2 > 0) then
 bif Decidable.decide (0 ≤ Go.IntKind.wrap Go.IntKind.i64 (q2 - 1)) && Decidable.decide (Go.IntKind.wrap Go.IntKind.i64 (q2 - 1) < (↑(List.length q0) : Int)) then
 bif Fw.sless (Prod.fst (List.getD q0 (Int.toNat q2) ([], 0, Bool.false))) (Prod.fst (List.getD q0 (Int.toNat (Go.IntKind.wrap Go.IntKind.i64 (q2 - 1))) ([], 0, Bool.false))) || Prod.fst (List.getD q0 (Int.toNat q2) ([], 0, Bool.false)) == Prod.fst (List.getD q0 (Int.toNat (Go.IntKind.wrap Go.IntKind.i64 (q2 - 1))) ([], 0, Bool.false)) then
 some (Sum.inr (Bool.false, ()))
 else
 R.L_spec_l01Edits_0 K n (q0, q1, Go.IntKind.wrap Go.IntKind.i64 (q2 + 1), ())
 else
 none
 else
 R.L_spec_l01Edits_0 K n (q0, q1, Go.IntKind.wrap Go.IntKind.i64 (q2 + 1), ())
 else
 bif Decidable.decide (q2 > 0) then
 bif Decidable.decide (0 ≤ Go.IntKind.wrap Go.IntKind.i64 (q2 - 1)) && Decidable.decide (Go.IntKind.wrap Go.IntKind.i64 (q2 - 1) < (↑(List.length q0) : Int)) then
 bif Fw.sless (Prod.fst (List.getD q0 (Int.toNat q2) ([], 0, Bool.false))) (Prod.fst (List.getD q0 (Int.toNat (Go.IntKind.wrap Go.IntKind.i64 (q2 - 1))) ([], 0, Bool.false))) || Prod.fst (List.getD q0 (Int.toNat q2) ([], 0, Bool.false)) == Prod.fst (List.getD q0 (Int.toNat (Go.IntKind.wrap Go.IntKind.i64 (q2 - 1))) ([], 0, Bool.false)) then
 some (Sum.inr (Bool.false, ()))
 else
 R.L_spec_l01Edits_0 K n (q0, q1, Go.IntKind.wrap Go.IntKind.i64 (q2 + 1), ())
 else
 none
 else
 R.L_spec_l01Edits_0 K n (q0, q1, Go.IntKind.wrap Go.IntKind.i64 (q2 + 1), ())
 else
 none
 else
 some (Sum.inl (q1, ()))
noncomputable def R.spec_l01Edits (K : Nat) (p0 : List ((List UInt8) × ((Int) × (Bool)))) : Option (((Bool) × Unit) × Unit) :=
 bif Decidable.decide ((↑(List.length p0) : Int) > 6) then
 some (((Bool.false, ()), ()))
 else
 obind (R.L_spec_l01Edits_0 K K (p0, Bool.false, 0, ())) fun v3 =>
 (match v3 with
 | .inl v4 =>
 some (((Bool.true, ()), ()))
 | .inr v4 =>
 some (((v4.1, ()), ()))
 )
noncomputable def R.spec_l07Wish (K : Nat) (p0 : (Int) × R.T39) : Option (((Bool) × Unit) × Unit) :=
 obind (R.spec_l00Word K p0.2.1) fun v2 =>
 bif !v2.1.1 then
 some (((Bool.false, ()), ()))
 else
 obind (R.spec_l01In K p0.1 1 6) fun v4 =>
 bif !v4.1.1 then
 some (((Bool.false, ()), ()))
 else
 obind (R.spec_l01Edits K p0.2.2.2.2) fun v6 =>
 bif !v6.1.1 then
 some (((Bool.false, ()), ()))
 else
 bif p0.1 != 3 then
 bif Decidable.decide ((↑(List.length p0.2.2.2.2) : Int) > 0) then
 some (((Bool.false, ()), ()))
 else
 bif p0.1 == 1 then
 obind (R.spec_l00Word K p0.2.2.1) fun v11 =>
 bif v11.1.1 then
 bif p0.1 == 5 then
 obind (R.spec_l00Word K p0.2.2.2.1) fun v14 =>
 bif v14.1.1 then
 some (((Bool.true, ()), ()))
 else
 bif !p0.1 == 5 then
 some (((p0.2.2.2.1 == Array.toList (ByteArray.data (ByteArray.mk #[])), ()), ()))
 else
 some (((Bool.false, ()), ()))
 else
 bif !p0.1 == 5 then
 some (((p0.2.2.2.1 == Array.toList (ByteArray.data (ByteArray.mk #[])), ()), ()))
 else
 some (((Bool.false, ()), ()))
 else
 some (((Bool.false, ()), ()))
 else
 bif p0.1 == 4 then
 obind (R.spec_l00Word K p0.2.2.1) fun v12 =>
 bif v12.1.1 then
 bif p0.1 == 5 then
 obind (R.spec_l00Word K p0.2.2.2.1) fun v15 =>
 bif v15.1.1 then
 some (((Bool.true, ()), ()))
 else
 bif !p0.1 == 5 then
 some (((p0.2.2.2.1 == Array.toList (ByteArray.data (ByteArray.mk #[])), ()), ()))
 else
 some (((Bool.false, ()), ()))
 else
 bif !p0.1 == 5 then
 some (((p0.2.2.2.1 == Array.toList (ByteArray.data (ByteArray.mk #[])), ()), ()))
 else
 some (((Bool.false, ()), ()))
 else
 bif !p0.1 == 4 then
 bif p0.2.2.1 == Array.toList (ByteArray.data (ByteArray.mk #[])) then
 bif p0.1 == 5 then
 obind (R.spec_l00Word K p0.2.2.2.1) fun v17 =>
 bif v17.1.1 then
 some (((Bool.true, ()), ()))
 else
 bif !p0.1 == 5 then
 some (((p0.2.2.2.1 == Array.toList (ByteArray.data (ByteArray.mk #[])), ()), ()))
 else
 some (((Bool.false, ()), ()))
 else
 bif !p0.1 == 5 then
 some (((p0.2.2.2.1 == Array.toList (ByteArray.data (ByteArray.mk #[])), ()), ()))
 else
 some (((Bool.false, ()), ()))
 else
 some (((Bool.false, ()), ()))
 else
 some (((Bool.false, ()), ()))
 else
 bif !p0.1 == 4 then
 bif p0.2.2.1 == Array.toList (ByteArray.data (ByteArray.mk #[])) then
 bif p0.1 == 5 then
 obind (R.spec_l00Word K p0.2.2.2.1) fun v15 =>
 bif v15.1.1 then
 some (((Bool.true, ()), ()))
 else
 bif !p0.1 == 5 then
 some (((p0.2.2.2.1 == Array.toList (ByteArray.data (ByteArray.mk #[])), ()), ()))
 else
 some (((Bool.false, ()), ()))
 else
 bif !p0.1 == 5 then
 some (((p0.2.2.2.1 == Array.toList (ByteArray.data (ByteArray.mk #[])), ()), ()))
 else
 some (((Bool.false, ()), ()))
 else
 some (((Bool.false, ()), ()))
 else
 some (((Bool.false, ()), ()))
 else
 bif p0.1 == 1 then
 obind (R.spec_l00Word K p0.2.2.1) fun v10 =>
 bif v10.1.1 then
 bif p0.1 == 5 then
 obind (R.spec_l00Word K p0.2.2.2.1) fun v13 =>
 bif v13.1.1 then
 some (((Bool.true, ()), ()))
 else
 bif !p0.1 == 5 then
 some (((p0.2.2.2.1 == Array.toList (ByteArray.data (ByteArray.mk #[])), ()), ()))
 else
 some (((Bool.false, ()), ()))
 else
 bif !p0.1 == 5 then
 some (((p0.2.2.2.1 == Array.toList (ByteArray.data (ByteArray.mk #[])), ()), ()))
 else
 some (((Bool.false, ()), ()))
 else
 some (((Bool.false, ()), ()))
 else
 bif p0.1 == 4 then
 obind (R.spec_l00Word K p0.2.2.1) fun v11 =>
 bif v11.1.1 then
 bif p0.1 == 5 then
 obind (R.spec_l00Word K p0.2.2.2.1) fun v14 =>
 bif v14.1.1 then
 some (((Bool.true, ()), ()))
 else
 bif !p0.1 == 5 then
 some (((p0.2.2.2.1 == Array.toList (ByteArray.data (ByteArray.mk #[])), ()), ()))
 else
 some (((Bool.false, ()), ()))
 else
 bif !p0.1 == 5 then
 some (((p0.2.2.2.1 == Array.toList (ByteArray.data (ByteArray.mk #[])), ()), ()))
 else
 some (((Bool.false, ()), ()))
 else
 bif !p0.1 == 4 then
 bif p0.2.2.1 == Array.toList (ByteArray.data (ByteArray.mk #[])) then
 bif p0.1 == 5 then
 obind (R.spec_l00Word K p0.2.2.2.1) fun v16 =>
 bif v16.1.1 then
 some (((Bool.true, ()), ()))
 else
 bif !p0.1 == 5 then
 some (((p0.2.2.2.1 == Array.toList (ByteArray.data (ByteArray.mk #[])), ()), ()))
 else
 some (((Bool.false, ()), ()))
 else
 bif !p0.1 == 5 then
 some (((p0.2.2.2.1 == Array.toList (ByteArray.data (ByteArray.mk #[])), ()), ()))
 else
 some (((Bool.false, ()), ()))
 else
 some (((Bool.false, ()), ()))
 else
 some (((Bool.false, ()), ()))
 else
 bif !p0.1 == 4 then
 bif p0.2.2.1 == Array.toList (ByteArray.data (ByteArray.mk #[])) then
 bif p0.1 == 5 then
 obind (R.spec_l00Word K p0.2.2.2.1) fun v14 =>
 bif v14.1.1 then
 some (((Bool.true, ()), ()))
 else
 bif !p0.1 == 5 then
 some (((p0.2.2.2.1 == Array.toList (ByteArray.data (ByteArray.mk #[])), ()), ()))
 else
 some (((Bool.false, ()), ()))
 else
 bif !p0.1 == 5 then
 some (((p0.2.2.2.1 == Array.toList (ByteArray.data (ByteArray.mk #[])), ()), ()))
 else
 some (((Bool.false, ()), ()))
 else
 some (((Bool.false, ()), ()))
 else
 some (((Bool.false, ()), ()))
noncomputable def R.L_spec_l07Wishes_0 (K : Nat) : Nat → (R.T48 × ((Bool) × ((Int) × Unit))) → Option (((Bool) × Unit) ⊕ ((Bool) × Unit))
 | 0, _ => none
 | n + 1, (q0, (q1, (q2, ()))) =>
 bif Decidable.decide (q2 < (↑(List.length q0) : Int)) then
 bif Decidable.decide (0 ≤ q2) && Decidable.decide (q2 < (↑(List.length q0) : Int)) then
 obind (R.spec_l07Wish K (List.getD q0 (Int.toNat q2) (0, [], [], [], []))) fun v6 =>
 bif !v6.1.1 then
 some (Sum.inr (Bool.false, ()))
 else
 R.L_spec_l07Wishes_0 K n (q0, q1, Go.IntKind.wrap Go.IntKind.i64 (q2 + 1), ())
 else
 none
 else
 some (Sum.inl (q1, ()))
noncomputable def R.spec_l07Wishes (K : Nat) (p0 : List R.T45) : Option (((Bool) × Unit) × Unit) :=
 bif Decidable.decide ((↑(List.length p0) : Int) > 6) then
 some (((Bool.false, ()), ()))
 else
 obind (R.L_spec_l07Wishes_0 K K (p0, Bool.false, 0, ())) fun v3 =>
 (match v3 with
 | .inl v4 =>
 some (((Bool.true, ()), ()))
 | .inr v4 =>
 some (((v4.1, ()), ()))
 )
noncomputable def R.L_spec_l03Reach_1 (K : Nat) : Nat → (R.T14 × ((Int) × ((Int) × ((Int) × ((Bool) × ((Int) × ((Int) × ((Bool) × R.T13)))))))) → Option ((R.T14 × ((Int) × ((Int) × ((Int) × ((Bool) × ((Int) × ((Int) × ((Bool) × ((Bool) × ((Int) × (R.T14 × ((Int) × ((Int) × (R.T5 × (R.T5 × ((List (Int)) × ((Int) × R.T13))))))))))))))))) ⊕ Unit)
 | 0, _ => none
 | n + 1, (q0, (q1, (q2, (q3, (q4, (q5, (q6, (q7, (q8, (q9, (q10, ()))))))))))) =>
 bif Decidable.decide (0 ≤ Go.IntKind.wrap Go.IntKind.i64 (q1 - 1)) && Decidable.decide (Go.IntKind.wrap Go.IntKind.i64 (q1 - 1) < (↑(List.length q0) : Int)) then
 bif Decidable.decide (q2 < (↑(List.length (Prod.fst (List.getD q0 (Int.toNat (Go.IntKind.wrap Go.IntKind.i64 (q1 - 1))) ([], [])))) : Int)) then
 bif Decidable.decide (0 ≤ Go.IntKind.wrap Go.IntKind.i64 (q1 - 1)) && Decidable.decide (Go.IntKind.wrap Go.IntKind.i64 (q1 - 1) < (↑(List.length q0) : Int)) then
 bif Decidable.decide (0 ≤ q2) && Decidable.decide (q2 < (↑(List.length (Prod.fst (List.getD q0 (Int.toNat (Go.IntKind.wrap Go.IntKind.i64 (q1 - 1))) ([], [])))) : Int)) then
 bif Decidable.decide (0 ≤ List.getD (Prod.fst (List.getD q0 (Int.toNat (Go.IntKind.wrap Go.IntKind.i64 (q1 - 1))) ([], []))) (Int.toNat q2) 0) && Decidable.decide (List.getD (Prod.fst (List.getD q0 (Int.toNat (Go.IntKind.wrap Go.IntKind.i64 (q1 - 1))) ([], []))) (Int.toNat q2) 0 < (↑(List.length q10) : Int)) then
 R.L_spec_l03Reach_1 K n (q0, q1, Go.IntKind.wrap Go.IntKind.i64 (q2 + 1), q3, q4, q5, (↑(Int.toNat q6) : Int), q7, q8, q9, List.set q10 (Int.toNat (List.getD (Prod.fst (List.getD q0 (Int.toNat (Go.IntKind.wrap Go.IntKind.i64 (q1 - 1))) ([], []))) (Int.toNat q2) 0)) Bool.true, ())
 else
 none
 else
 none
 else
 none
 else
 some (Sum.inl (q0, q1, q2, q3, q4, q5, (↑(Int.toNat q6) : Int), q7, q8, q2, q0, q1, Go.IntKind.wrap Go.IntKind.i64 (q1 - 1), List.getD q0 (Int.toNat (Go.IntKind.wrap Go.IntKind.i64 (q1 - 1))) ([], []), List.getD q0 (Int.toNat (Go.IntKind.wrap Go.IntKind.i64 (q1 - 1))) ([], []), Prod.fst (List.getD q0 (Int.toNat (Go.IntKind.wrap Go.IntKind.i64 (q1 - 1))) ([], [])), (↑(List.length (Prod.fst (List.getD q0 (Int.toNat (Go.IntKind.wrap Go.IntKind.i64 (q1 - 1))) ([], [])))) : Int), Decidable.decide (q2 < (↑(List.length (Prod.fst (List.getD q0 (Int.toNat (Go.IntKind.wrap Go.IntKind.i64 (q1 - 1))) ([], [])))) : Int)), q9, q10, ()))
 else
 none
noncomputable def R.L_spec_l03Reach_0 (K : Nat) : Nat → (R.T14 × R.T11) → Option (R.T1 ⊕ Unit)
 | 0, _ => none
 | n + 1, (q0, (q1, (q2, (q3, ())))) =>
 bif Decidable.decide (q1 > 0) then
 bif Decidable.decide (0 ≤ q1) && Decidable.decide (q1 < (↑(List.length q3) : Int)) then
 bif !List.getD q3 (Int.toNat q1) Bool.false then
 R.L_spec_l03Reach_0 K n (q0, Go.IntKind.wrap Go.IntKind.i64 (q1 - 1), q2, q3, ())
 else
 obind (R.L_spec_l03Reach_1 K K (q0, q1, 0, q1, Decidable.decide (q1 > 0), q1, (↑(Int.toNat q1) : Int), List.getD q3 (Int.toNat q1) Bool.false, !List.getD q3 (Int.toNat q1) Bool.false, q2, q3, ())) fun v7 =>
 (match v7 with
 | .inl v8 =>
 R.L_spec_l03Reach_0 K n (v8.1, Go.IntKind.wrap Go.IntKind.i64 (v8.2.1 - 1), v8.2.2.2.2.2.2.2.2.2.2.2.2.2.2.2.2.2.2.1, v8.2.2.2.2.2.2.2.2.2.2.2.2.2.2.2.2.2.2.2.1, ())
 | .inr v8 =>
 some (Sum.inr ())
 )
 else
 none
 else
 some (Sum.inl (q2, q3, ()))
noncomputable def R.spec_l03Reach (K : Nat) (p0 : List R.T5) (p1 : Int) : Option (((List (Bool)) × Unit) × Unit) :=
 bif Decidable.decide (0 ≤ Go.IntKind.wrap Go.IntKind.i64 ((↑(List.length p0) : Int) + 1)) && Decidable.decide (Go.IntKind.wrap Go.IntKind.i64 ((↑(List.length p0) : Int) + 1) ≤ Go.IntKind.wrap Go.IntKind.i64 ((↑(List.length p0) : Int) + 1)) && Decidable.decide (Go.IntKind.wrap Go.IntKind.i64 ((↑(List.length p0) : Int) + 1) ≤ (↑268435456 : Int)) then
 bif Decidable.decide (0 ≤ p1) && Decidable.decide (p1 < (↑(List.length (List.replicate (Int.toNat (Go.IntKind.wrap Go.IntKind.i64 ((↑(List.length p0) : Int) + 1))) Bool.false)) : Int)) then
 obind (R.L_spec_l03Reach_0 K K (p0, p1, [], List.set (List.replicate (Int.toNat (Go.IntKind.wrap Go.IntKind.i64 ((↑(List.length p0) : Int) + 1))) Bool.false) (Int.toNat p1) Bool.true, ())) fun v4 =>
 (match v4 with
 | .inl v5 =>
 some (((v5.2.1, ()), ()))
 | .inr v5 =>
 none
 )
 else
 none
 else
 none
noncomputable def R.L_spec_l03Base_0 (K : Nat) : Nat → R.T22 → Option (((Int) × ((Int) × Unit)) ⊕ Unit)
 | 0, _ => none
 | n + 1, (q0, (q1, (q2, (q3, ())))) =>
 bif Decidable.decide (0 ≤ q1) && Decidable.decide (q1 < (↑(List.length q2) : Int)) then
 bif !List.getD q2 (Int.toNat q1) Bool.false then
 R.L_spec_l03Base_0 K n (q0, Go.IntKind.wrap Go.IntKind.i64 (q1 - 1), q2, q3, ())
 else
 bif Decidable.decide (0 ≤ q1) && Decidable.decide (q1 < (↑(List.length q3) : Int)) then
 bif !List.getD q3 (Int.toNat q1) Bool.false then
 R.L_spec_l03Base_0 K n (q0, Go.IntKind.wrap Go.IntKind.i64 (q1 - 1), q2, q3, ())
 else
 some (Sum.inl (q0, q1, ()))
 else
 none
 else
 none
noncomputable def R.spec_l03Base (K : Nat) (p0 : List R.T5) (p1 : Int) (p2 : Int) : Option (((Int) × Unit) × Unit) :=
 obind (R.spec_l03Reach K p0 p1) fun v2 =>
 obind (R.spec_l03Reach K p0 p2) fun v3 =>
 obind (R.L_spec_l03Base_0 K K (0, bif Decidable.decide (p2 < p1) then p2 else p1, v2.1.1, v3.1.1, ())) fun v4 =>
 (match v4 with
 | .inl v5 =>
 some (((v5.2.1, ()), ()))
 | .inr v5 =>
 none
 )
noncomputable def R.spec_l05Fail (K : Nat) (p0 : Int) (p1 : List (List UInt8)) : Option (R.T41 × Unit) :=
 some ((((p0, 0, 0, p1, []), ()), ()))
noncomputable def R.L_spec_l01Diff_0 (K : Nat) : Nat → R.T57 → Option R.T46
 | 0, _ => none
 | n + 1, (q0, (q1, (q2, (q3, (q4, (q5, ())))))) =>
 bif Decidable.decide (q2 < (↑(List.length q0) : Int)) then
 bif q3 == (↑(List.length q1) : Int) then
 bif Decidable.decide (0 ≤ q2) && Decidable.decide (q2 < (↑(List.length q0) : Int)) then
 bif Nat.ble (List.length q5 + 1) 268435456 then
 R.L_spec_l01Diff_0 K n (q0, q1, Go.IntKind.wrap Go.IntKind.i64 (q2 + 1), q3, q4, q5 ++ [(Prod.fst (List.getD q0 (Int.toNat q2) ([], 0)), 0, Bool.true)], ())
 else
 none
 else
 none
 else
 bif Decidable.decide (q2 < (↑(List.length q0) : Int)) then
 bif Decidable.decide (0 ≤ q2) && Decidable.decide (q2 < (↑(List.length q0) : Int)) then
 bif Decidable.decide (0 ≤ q3) && Decidable.decide (q3 < (↑(List.length q1) : Int)) then
 bif Fw.sless (Prod.fst (List.getD q0 (Int.toNat q2) ([], 0))) (Prod.fst (List.getD q1 (Int.toNat q3) ([], 0))) then
 bif Decidable.decide (0 ≤ q2) && Decidable.decide (q2 < (↑(List.length q0) : Int)) then
 bif Nat.ble (List.length q5 + 1) 268435456 then
 R.L_spec_l01Diff_0 K n (q0, q1, Go.IntKind.wrap Go.IntKind.i64 (q2 + 1), q3, q4, q5 ++ [(Prod.fst (List.getD q0 (Int.toNat q2) ([], 0)), 0, Bool.true)], ())
 else
 none
 else
 none
 else
 bif q2 == (↑(List.length q0) : Int) then
 bif Decidable.decide (0 ≤ q3) && Decidable.decide (q3 < (↑(List.length q1) : Int)) then
 bif Decidable.decide (0 ≤ q3) && Decidable.decide (q3 < (↑(List.length q1) : Int)) then
 bif Nat.ble (List.length q5 + 1) 268435456 then
 R.L_spec_l01Diff_0 K n (q0, q1, q2, Go.IntKind.wrap Go.IntKind.i64 (q3 + 1), q4, q5 ++ [(Prod.fst (List.getD q1 (Int.toNat q3) ([], 0)), Prod.snd (List.getD q1 (Int.toNat q3) ([], 0)), Bool.false)], ())
 else
 none
 else
 none
 else
 none
 else
 bif Decidable.decide (0 ≤ q3) && Decidable.decide (q3 < (↑(List.length q1) : Int)) then
 bif Decidable.decide (0 ≤ q2) && Decidable.decide (q2 < (↑(List.length q0) : Int)) then
 bif Fw.sless (Prod.fst (List.getD q1 (Int.toNat q3) ([], 0))) (Prod.fst (List.getD q0 (Int.toNat q2) ([], 0))) then
 bif Decidable.decide (0 ≤ q3) && Decidable.decide (q3 < (↑(List.length q1) : Int)) then
 bif Decidable.decide (0 ≤ q3) && Decidable.decide (q3 < (↑(List.length q1) : Int)) then
 bif Nat.ble (List.length q5 + 1) 268435456 then
 R.L_spec_l01Diff_0 K n (q0, q1, q2, Go.IntKind.wrap Go.IntKind.i64 (q3 + 1), q4, q5 ++ [(Prod.fst (List.getD q1 (Int.toNat q3) ([], 0)), Prod.snd (List.getD q1 (Int.toNat q3) ([], 0)), Bool.false)], ())
 else
 none
 else
 none
 else
 none
 else
 bif Decidable.decide (0 ≤ q2) && Decidable.decide (q2 < (↑(List.length q0) : Int)) then
 bif Decidable.decide (0 ≤ q3) && Decidable.decide (q3 < (↑(List.length q1) : Int)) then
 bif Prod.snd (List.getD q0 (Int.toNat q2) ([], 0)) != Prod.snd (List.getD q1 (Int.toNat q3) ([], 0)) then
 bif Decidable.decide (0 ≤ q3) && Decidable.decide (q3 < (↑(List.length q1) : Int)) then
 bif Decidable.decide (0 ≤ q3) && Decidable.decide (q3 < (↑(List.length q1) : Int)) then
 bif Nat.ble (List.length q5 + 1) 268435456 then
 R.L_spec_l01Diff_0 K n (q0, q1, Go.IntKind.wrap Go.IntKind.i64 (q2 + 1), Go.IntKind.wrap Go.IntKind.i64 (q3 + 1), q4, q5 ++ [(Prod.fst (List.getD q1 (Int.toNat q3) ([], 0)), Prod.snd (List.getD q1 (Int.toNat q3) ([], 0)), Bool.false)], ())
 else
 none
 else
 none
 else
 none
 else
 R.L_spec_l01Diff_0 K n (q0, q1, Go.IntKind.wrap Go.IntKind.i64 (q2 + 1), Go.IntKind.wrap Go.IntKind.i64 (q3 + 1), q4, q5, ())
 else
 none
 else
 none
 else
 none
 else
 none
 else
 none
 else
 none
 else
 bif q2 == (↑(List.length q0) : Int) then
 bif Decidable.decide (0 ≤ q3) && Decidable.decide (q3 < (↑(List.length q1) : Int)) then
 bif Decidable.decide (0 ≤ q3) && Decidable.decide (q3 < (↑(List.length q1) : Int)) then
 bif Nat.ble (List.length q5 + 1) 268435456 then
 R.L_spec_l01Diff_0 K n (q0, q1, q2, Go.IntKind.wrap Go.IntKind.i64 (q3 + 1), q4, q5 ++ [(Prod.fst (List.getD q1 (Int.toNat q3) ([], 0)), Prod.snd (List.getD q1 (Int.toNat q3) ([], 0)), Bool.false)], ())
 else
 none
 else
 none
 else
 none
 else
 bif Decidable.decide (0 ≤ q3) && Decidable.decide (q3 < (↑(List.length q1) : Int)) then
 bif Decidable.decide (0 ≤ q2) && Decidable.decide (q2 < (↑(List.length q0) : Int)) then
 bif Fw.sless (Prod.fst (List.getD q1 (Int.toNat q3) ([], 0))) (Prod.fst (List.getD q0 (Int.toNat q2) ([], 0))) then
 bif Decidable.decide (0 ≤ q3) && Decidable.decide (q3 < (↑(List.length q1) : Int)) then
 bif Decidable.decide (0 ≤ q3) && Decidable.decide (q3 < (↑(List.length q1) : Int)) then
 bif Nat.ble (List.length q5 + 1) 268435456 then
 R.L_spec_l01Diff_0 K n (q0, q1, q2, Go.IntKind.wrap Go.IntKind.i64 (q3 + 1), q4, q5 ++ [(Prod.fst (List.getD q1 (Int.toNat q3) ([], 0)), Prod.snd (List.getD q1 (Int.toNat q3) ([], 0)), Bool.false)], ())
 else
 none
 else
 none
 else
 none
 else
 bif Decidable.decide (0 ≤ q2) && Decidable.decide (q2 < (↑(List.length q0) : Int)) then
 bif Decidable.decide (0 ≤ q3) && Decidable.decide (q3 < (↑(List.length q1) : Int)) then
 bif Prod.snd (List.getD q0 (Int.toNat q2) ([], 0)) != Prod.snd (List.getD q1 (Int.toNat q3) ([], 0)) then
 bif Decidable.decide (0 ≤ q3) && Decidable.decide (q3 < (↑(List.length q1) : Int)) then
 bif Decidable.decide (0 ≤ q3) && Decidable.decide (q3 < (↑(List.length q1) : Int)) then
 bif Nat.ble (List.length q5 + 1) 268435456 then
 R.L_spec_l01Diff_0 K n (q0, q1, Go.IntKind.wrap Go.IntKind.i64 (q2 + 1), Go.IntKind.wrap Go.IntKind.i64 (q3 + 1), q4, q5 ++ [(Prod.fst (List.getD q1 (Int.toNat q3) ([], 0)), Prod.snd (List.getD q1 (Int.toNat q3) ([], 0)), Bool.false)], ())
 else
 none
 else
 none
 else
 none
 else
 R.L_spec_l01Diff_0 K n (q0, q1, Go.IntKind.wrap Go.IntKind.i64 (q2 + 1), Go.IntKind.wrap Go.IntKind.i64 (q3 + 1), q4, q5, ())
 else
 none
 else
 none
 else
 none
 else
 none
 else
 bif Decidable.decide (q3 < (↑(List.length q1) : Int)) then
 bif q3 == (↑(List.length q1) : Int) then
 bif Decidable.decide (0 ≤ q2) && Decidable.decide (q2 < (↑(List.length q0) : Int)) then
 bif Nat.ble (List.length q5 + 1) 268435456 then
 R.L_spec_l01Diff_0 K n (q0, q1, Go.IntKind.wrap Go.IntKind.i64 (q2 + 1), q3, q4, q5 ++ [(Prod.fst (List.getD q0 (Int.toNat q2) ([], 0)), 0, Bool.true)], ())
 else
 none
 else
 none
 else
 bif Decidable.decide (q2 < (↑(List.length q0) : Int)) then
 bif Decidable.decide (0 ≤ q2) && Decidable.decide (q2 < (↑(List.length q0) : Int)) then
 bif Decidable.decide (0 ≤ q3) && Decidable.decide (q3 < (↑(List.length q1) : Int)) then
 bif Fw.sless (Prod.fst (List.getD q0 (Int.toNat q2) ([], 0))) (Prod.fst (List.getD q1 (Int.toNat q3) ([], 0))) then
 bif Decidable.decide (0 ≤ q2) && Decidable.decide (q2 < (↑(List.length q0) : Int)) then
 bif Nat.ble (List.length q5 + 1) 268435456 then
 R.L_spec_l01Diff_0 K n (q0, q1, Go.IntKind.wrap Go.IntKind.i64 (q2 + 1), q3, q4, q5 ++ [(Prod.fst (List.getD q0 (Int.toNat q2) ([], 0)), 0, Bool.true)], ())
 else
 none
 else
 none
 else
 bif q2 == (↑(List.length q0) : Int) then
 bif Decidable.decide (0 ≤ q3) && Decidable.decide (q3 < (↑(List.length q1) : Int)) then
 bif Decidable.decide (0 ≤ q3) && Decidable.decide (q3 < (↑(List.length q1) : Int)) then
 bif Nat.ble (List.length q5 + 1) 268435456 then
 R.L_spec_l01Diff_0 K n (q0, q1, q2, Go.IntKind.wrap Go.IntKind.i64 (q3 + 1), q4, q5 ++ [(Prod.fst (List.getD q1 (Int.toNat q3) ([], 0)), Prod.snd (List.getD q1 (Int.toNat q3) ([], 0)), Bool.false)], ())
 else
 none
 else
 none
 else
 none
 else
 bif Decidable.decide (0 ≤ q3) && Decidable.decide (q3 < (↑(List.length q1) : Int)) then
 bif Decidable.decide (0 ≤ q2) && Decidable.decide (q2 < (↑(List.length q0) : Int)) then
 bif Fw.sless (Prod.fst (List.getD q1 (Int.toNat q3) ([], 0))) (Prod.fst (List.getD q0 (Int.toNat q2) ([], 0))) then
 bif Decidable.decide (0 ≤ q3) && Decidable.decide (q3 < (↑(List.length q1) : Int)) then
 bif Decidable.decide (0 ≤ q3) && Decidable.decide (q3 < (↑(List.length q1) : Int)) then
 bif Nat.ble (List.length q5 + 1) 268435456 then
 R.L_spec_l01Diff_0 K n (q0, q1, q2, Go.IntKind.wrap Go.IntKind.i64 (q3 + 1), q4, q5 ++ [(Prod.fst (List.getD q1 (Int.toNat q3) ([], 0)), Prod.snd (List.getD q1 (Int.toNat q3) ([], 0)), Bool.false)], ())
 else
 none
 else
 none
 else
 none
 else
 bif Decidable.decide (0 ≤ q2) && Decidable.decide (q2 < (↑(List.length q0) : Int)) then
 bif Decidable.decide (0 ≤ q3) && Decidable.decide (q3 < (↑(List.length q1) : Int)) then
 bif Prod.snd (List.getD q0 (Int.toNat q2) ([], 0)) != Prod.snd (List.getD q1 (Int.toNat q3) ([], 0)) then
 bif Decidable.decide (0 ≤ q3) && Decidable.decide (q3 < (↑(List.length q1) : Int)) then
 bif Decidable.decide (0 ≤ q3) && Decidable.decide (q3 < (↑(List.length q1) : Int)) then
 bif Nat.ble (List.length q5 + 1) 268435456 then
 R.L_spec_l01Diff_0 K n (q0, q1, Go.IntKind.wrap Go.IntKind.i64 (q2 + 1), Go.IntKind.wrap Go.IntKind.i64 (q3 + 1), q4, q5 ++ [(Prod.fst (List.getD q1 (Int.toNat q3) ([], 0)), Prod.snd (List.getD q1 (Int.toNat q3) ([], 0)), Bool.false)], ())
 else
 none
 else
 none
 else
 none
 else
 R.L_spec_l01Diff_0 K n (q0, q1, Go.IntKind.wrap Go.IntKind.i64 (q2 + 1), Go.IntKind.wrap Go.IntKind.i64 (q3 + 1), q4, q5, ())
 else
 none
 else
 none
 else
 none
 else
 none
 else
 none
 else
 none
 else
 bif q2 == (↑(List.length q0) : Int) then
 bif Decidable.decide (0 ≤ q3) && Decidable.decide (q3 < (↑(List.length q1) : Int)) then
 bif Decidable.decide (0 ≤ q3) && Decidable.decide (q3 < (↑(List.length q1) : Int)) then
 bif Nat.ble (List.length q5 + 1) 268435456 then
 R.L_spec_l01Diff_0 K n (q0, q1, q2, Go.IntKind.wrap Go.IntKind.i64 (q3 + 1), q4, q5 ++ [(Prod.fst (List.getD q1 (Int.toNat q3) ([], 0)), Prod.snd (List.getD q1 (Int.toNat q3) ([], 0)), Bool.false)], ())
 else
 none
 else
 none
 else
 none
 else
 bif Decidable.decide (0 ≤ q3) && Decidable.decide (q3 < (↑(List.length q1) : Int)) then
 bif Decidable.decide (0 ≤ q2) && Decidable.decide (q2 < (↑(List.length q0) : Int)) then
 bif Fw.sless (Prod.fst (List.getD q1 (Int.toNat q3) ([], 0))) (Prod.fst (List.getD q0 (Int.toNat q2) ([], 0))) then
 bif Decidable.decide (0 ≤ q3) && Decidable.decide (q3 < (↑(List.length q1) : Int)) then
 bif Decidable.decide (0 ≤ q3) && Decidable.decide (q3 < (↑(List.length q1) : Int)) then
 bif Nat.ble (List.length q5 + 1) 268435456 then
 R.L_spec_l01Diff_0 K n (q0, q1, q2, Go.IntKind.wrap Go.IntKind.i64 (q3 + 1), q4, q5 ++ [(Prod.fst (List.getD q1 (Int.toNat q3) ([], 0)), Prod.snd (List.getD q1 (Int.toNat q3) ([], 0)), Bool.false)], ())
 else
 none
 else
 none
 else
 none
 else
 bif Decidable.decide (0 ≤ q2) && Decidable.decide (q2 < (↑(List.length q0) : Int)) then
 bif Decidable.decide (0 ≤ q3) && Decidable.decide (q3 < (↑(List.length q1) : Int)) then
 bif Prod.snd (List.getD q0 (Int.toNat q2) ([], 0)) != Prod.snd (List.getD q1 (Int.toNat q3) ([], 0)) then
 bif Decidable.decide (0 ≤ q3) && Decidable.decide (q3 < (↑(List.length q1) : Int)) then
 bif Decidable.decide (0 ≤ q3) && Decidable.decide (q3 < (↑(List.length q1) : Int)) then
 bif Nat.ble (List.length q5 + 1) 268435456 then
 R.L_spec_l01Diff_0 K n (q0, q1, Go.IntKind.wrap Go.IntKind.i64 (q2 + 1), Go.IntKind.wrap Go.IntKind.i64 (q3 + 1), q4, q5 ++ [(Prod.fst (List.getD q1 (Int.toNat q3) ([], 0)), Prod.snd (List.getD q1 (Int.toNat q3) ([], 0)), Bool.false)], ())
 else
 none
 else
 none
 else
 none
 else
 R.L_spec_l01Diff_0 K n (q0, q1, Go.IntKind.wrap Go.IntKind.i64 (q2 + 1), Go.IntKind.wrap Go.IntKind.i64 (q3 + 1), q4, q5, ())
 else
 none
 else
 none
 else
 none
 else
 none
 else
 some (Sum.inl (q4, q5, ()))
noncomputable def R.spec_l01Diff (K : Nat) (p0 : List ((List UInt8) × (Int))) (p1 : List ((List UInt8) × (Int))) : Option R.T18 :=
 obind (R.L_spec_l01Diff_0 K K (p0, p1, 0, 0, [], [], ())) fun v2 =>
 (match v2 with
 | .inl v3 =>
 some (((v3.2.1, ()), ()))
 | .inr v3 =>
 none
 )
noncomputable def R.L_spec_l02Find_0 (K : Nat) : Nat → (R.T0 × ((List UInt8) × ((Bool) × ((Int) × R.T2)))) → Option (((Bool) × R.T2) ⊕ ((Bool) × R.T2))
 | 0, _ => none
 | n + 1, (q0, (q1, (q2, (q3, (q4, (q5, (q6, ()))))))) =>
 bif Decidable.decide (q3 < (↑(List.length q0) : Int)) then
 bif Decidable.decide (0 ≤ q3) && Decidable.decide (q3 < (↑(List.length q0) : Int)) then
 bif Prod.fst (List.getD q0 (Int.toNat q3) ([], 0, Bool.false)) == q1 then
 bif Decidable.decide (0 ≤ q3) && Decidable.decide (q3 < (↑(List.length q0) : Int)) then
 some (Sum.inr (Bool.true, Prod.fst (List.getD q0 (Int.toNat q3) ([], 0, Bool.false)), Prod.fst (Prod.snd (List.getD q0 (Int.toNat q3) ([], 0, Bool.false))), Prod.snd (Prod.snd (List.getD q0 (Int.toNat q3) ([], 0, Bool.false))), ()))
 else
 none
 else
 R.L_spec_l02Find_0 K n (q0, q1, q2, Go.IntKind.wrap Go.IntKind.i64 (q3 + 1), q4, q5, q6, ())
 else
 none
 else
 some (Sum.inl (q2, q4, q5, q6, ()))
noncomputable def R.spec_l02Find (K : Nat) (p0 : List ((List UInt8) × ((Int) × (Bool)))) (p1 : List UInt8) : Option ((((List UInt8) × ((Int) × (Bool))) × ((Bool) × Unit)) × Unit) :=
 obind (R.L_spec_l02Find_0 K K (p0, p1, Bool.false, 0, [], 0, Bool.false, ())) fun v2 =>
 (match v2 with
 | .inl v3 =>
 some (((([], 0, Bool.false), Bool.false, ()), ()))
 | .inr v3 =>
 some ((((v3.2.1, v3.2.2.1, v3.2.2.2.1), v3.1, ()), ()))
 )
noncomputable def R.L_spec_l01Remove_0 (K : Nat) : Nat → ((List ((List UInt8) × (Int))) × ((List UInt8) × R.T35)) → Option R.T33
 | 0, _ => none
 | n + 1, (q0, (q1, (q2, (q3, (q4, ()))))) =>
 bif Decidable.decide (q2 < (↑(List.length q0) : Int)) then
 bif Decidable.decide (0 ≤ q2) && Decidable.decide (q2 < (↑(List.length q0) : Int)) then
 bif !Prod.fst (List.getD q0 (Int.toNat q2) ([], 0)) == q1 then
 bif Decidable.decide (0 ≤ q2) && Decidable.decide (q2 < (↑(List.length q0) : Int)) then
 bif Nat.ble (List.length q4 + 1) 268435456 then
 R.L_spec_l01Remove_0 K n (q0, q1, Go.IntKind.wrap Go.IntKind.i64 (q2 + 1), q3, q4 ++ [List.getD q0 (Int.toNat q2) ([], 0)], ())
 else
 none
 else
 none
 else
 R.L_spec_l01Remove_0 K n (q0, q1, Go.IntKind.wrap Go.IntKind.i64 (q2 + 1), q3, q4, ())
 else
 none
 else
 some (Sum.inl (q3, q4, ()))
noncomputable def R.spec_l01Remove (K : Nat) (p0 : List ((List UInt8) × (Int))) (p1 : List UInt8) : Option R.T7 :=
 obind (R.L_spec_l01Remove_0 K K (p0, p1, 0, [], [], ())) fun v2 =>
 (match v2 with
 | .inl v3 =>
 some (((v3.2.1, ()), ()))
 | .inr v3 =>
 none
 )
noncomputable def R.L_spec_l01Put_0 (K : Nat) : Nat → ((List ((List UInt8) × (Int))) × ((List UInt8) × ((Int) × ((Bool) × R.T35)))) → Option (((List UInt8) × ((Int) × ((Bool) × R.T26))) ⊕ Unit)
 | 0, _ => none
 | n + 1, (q0, (q1, (q2, (q3, (q4, (q5, (q6, ()))))))) =>
 bif Decidable.decide (q4 < (↑(List.length q0) : Int)) then
 bif !q3 then
 bif Decidable.decide (0 ≤ q4) && Decidable.decide (q4 < (↑(List.length q0) : Int)) then
 bif !Fw.sless (Prod.fst (List.getD q0 (Int.toNat q4) ([], 0))) q1 then
 bif Nat.ble (List.length q6 + 1) 268435456 then
 bif Decidable.decide (0 ≤ q4) && Decidable.decide (q4 < (↑(List.length q0) : Int)) then
 bif !Prod.fst (List.getD q0 (Int.toNat q4) ([], 0)) == q1 then
 bif Decidable.decide (0 ≤ q4) && Decidable.decide (q4 < (↑(List.length q0) : Int)) then
 bif Nat.ble (List.length (q6 ++ [(q1, q2)]) + 1) 268435456 then
 R.L_spec_l01Put_0 K n (q0, q1, q2, Bool.true, Go.IntKind.wrap Go.IntKind.i64 (q4 + 1), q5, q6 ++ [(q1, q2)] ++ [List.getD q0 (Int.toNat q4) ([], 0)], ())
 else
 none
 else
 none
 else
 R.L_spec_l01Put_0 K n (q0, q1, q2, Bool.true, Go.IntKind.wrap Go.IntKind.i64 (q4 + 1), q5, q6 ++ [(q1, q2)], ())
 else
 none
 else
 none
 else
 bif Decidable.decide (0 ≤ q4) && Decidable.decide (q4 < (↑(List.length q0) : Int)) then
 bif !Prod.fst (List.getD q0 (Int.toNat q4) ([], 0)) == q1 then
 bif Decidable.decide (0 ≤ q4) && Decidable.decide (q4 < (↑(List.length q0) : Int)) then
 bif Nat.ble (List.length q6 + 1) 268435456 then
 R.L_spec_l01Put_0 K n (q0, q1, q2, q3, Go.IntKind.wrap Go.IntKind.i64 (q4 + 1), q5, q6 ++ [List.getD q0 (Int.toNat q4) ([], 0)], ())
 else
 none
 else
 none
 else
 R.L_spec_l01Put_0 K n (q0, q1, q2, q3, Go.IntKind.wrap Go.IntKind.i64 (q4 + 1), q5, q6, ())
 else
 none
 else
 none
 else
 bif Decidable.decide (0 ≤ q4) && Decidable.decide (q4 < (↑(List.length q0) : Int)) then
 bif !Prod.fst (List.getD q0 (Int.toNat q4) ([], 0)) == q1 then
 bif Decidable.decide (0 ≤ q4) && Decidable.decide (q4 < (↑(List.length q0) : Int)) then
 bif Nat.ble (List.length q6 + 1) 268435456 then
 R.L_spec_l01Put_0 K n (q0, q1, q2, q3, Go.IntKind.wrap Go.IntKind.i64 (q4 + 1), q5, q6 ++ [List.getD q0 (Int.toNat q4) ([], 0)], ())
 else
 none
 else
 none
 else
 R.L_spec_l01Put_0 K n (q0, q1, q2, q3, Go.IntKind.wrap Go.IntKind.i64 (q4 + 1), q5, q6, ())
 else
 none
 else
 some (Sum.inl (q1, q2, q3, q5, q6, ()))
noncomputable def R.spec_l01Put (K : Nat) (p0 : List ((List UInt8) × (Int))) (p1 : List UInt8) (p2 : Int) : Option R.T7 :=
 obind (R.L_spec_l01Put_0 K K (p0, p1, p2, Bool.false, 0, [], [], ())) fun v2 =>
 (match v2 with
 | .inl v3 =>
 bif !v3.2.2.1 then
 bif Nat.ble (List.length v3.2.2.2.2.1 + 1) 268435456 then
 some (((v3.2.2.2.2.1 ++ [(v3.1, v3.2.1)], ()), ()))
 else
 none
 else
 some (((v3.2.2.2.2.1, ()), ()))
 | .inr v3 =>
 none
 )
noncomputable def R.L_spec_l01Apply_0 (K : Nat) : Nat → (R.T0 × R.T35) → Option R.T33
 | 0, _ => none
 | n + 1, (q0, (q1, (q2, (q3, ())))) =>
 bif Decidable.decide (q1 < (↑(List.length q0) : Int)) then
 bif Decidable.decide (0 ≤ q1) && Decidable.decide (q1 < (↑(List.length q0) : Int)) then
 bif Prod.snd (Prod.snd (List.getD q0 (Int.toNat q1) ([], 0, Bool.false))) then
 bif Decidable.decide (0 ≤ q1) && Decidable.decide (q1 < (↑(List.length q0) : Int)) then
 obind (R.spec_l01Remove K q2 (Prod.fst (List.getD q0 (Int.toNat q1) ([], 0, Bool.false)))) fun v8 =>
 R.L_spec_l01Apply_0 K n (q0, Go.IntKind.wrap Go.IntKind.i64 (q1 + 1), v8.1.1, q3, ())
 else
 none
 else
 bif Decidable.decide (0 ≤ q1) && Decidable.decide (q1 < (↑(List.length q0) : Int)) then
 bif Decidable.decide (0 ≤ q1) && Decidable.decide (q1 < (↑(List.length q0) : Int)) then
 obind (R.spec_l01Put K q2 (Prod.fst (List.getD q0 (Int.toNat q1) ([], 0, Bool.false))) (Prod.fst (Prod.snd (List.getD q0 (Int.toNat q1) ([], 0, Bool.false))))) fun v9 =>
 R.L_spec_l01Apply_0 K n (q0, Go.IntKind.wrap Go.IntKind.i64 (q1 + 1), v9.1.1, q3, ())
 else
 none
 else
 none
 else
 none
 else
 some (Sum.inl (q2, q3, ()))
noncomputable def R.spec_l01Apply (K : Nat) (p0 : List ((List UInt8) × (Int))) (p1 : List ((List UInt8) × ((Int) × (Bool)))) : Option R.T7 :=
 bif Nat.ble (0 + List.length p0) 268435456 then
 obind (R.L_spec_l01Apply_0 K K (p1, 0, p0, [], ())) fun v3 =>
 (match v3 with
 | .inl v4 =>
 some (((v4.1, ()), ()))
 | .inr v4 =>
 none
 )
 else
 none
noncomputable def R.L_spec_l02Merge_0 (K : Nat) : Nat → ((List ((List UInt8) × (Int))) × (R.T0 × (R.T0 × ((Int) × ((List ((List UInt8) × (Int))) × ((List (List UInt8)) × R.T29)))))) → Option (((List ((List UInt8) × (Int))) × ((List ((List UInt8) × (Int))) × ((List (List UInt8)) × R.T29))) ⊕ Unit)
 | 0, _ => none
 | n + 1, (q0, (q1, (q2, (q3, (q4, (q5, (q6, (q7, ())))))))) =>
 bif Decidable.decide (q3 < (↑(List.length q2) : Int)) then
 bif Decidable.decide (0 ≤ q3) && Decidable.decide (q3 < (↑(List.length q2) : Int)) then
 obind (R.spec_l02Find K q1 (Prod.fst (List.getD q2 (Int.toNat q3) ([], 0, Bool.false)))) fun v6 =>
 bif !v6.1.2.1 then
 bif Decidable.decide (0 ≤ q3) && Decidable.decide (q3 < (↑(List.length q2) : Int)) then
 bif Nat.ble (List.length q7 + 1) 268435456 then
 R.L_spec_l02Merge_0 K n (q0, q1, q2, Go.IntKind.wrap Go.IntKind.i64 (q3 + 1), q4, q5, q6, q7 ++ [List.getD q2 (Int.toNat q3) ([], 0, Bool.false)], ())
 else
 none
 else
 none
 else
 bif Decidable.decide (0 ≤ q3) && Decidable.decide (q3 < (↑(List.length q2) : Int)) then
 bif !(v6.1.1.1 == Prod.fst (List.getD q2 (Int.toNat q3) ([], 0, Bool.false)) && (v6.1.1.2.1 == Prod.fst (Prod.snd (List.getD q2 (Int.toNat q3) ([], 0, Bool.false))) && v6.1.1.2.2 == Prod.snd (Prod.snd (List.getD q2 (Int.toNat q3) ([], 0, Bool.false))))) then
 bif Decidable.decide (0 ≤ q3) && Decidable.decide (q3 < (↑(List.length q2) : Int)) then
 bif Nat.ble (List.length q6 + 1) 268435456 then
 R.L_spec_l02Merge_0 K n (q0, q1, q2, Go.IntKind.wrap Go.IntKind.i64 (q3 + 1), q4, q5, q6 ++ [Prod.fst (List.getD q2 (Int.toNat q3) ([], 0, Bool.false))], q7, ())
 else
 none
 else
 none
 else
 R.L_spec_l02Merge_0 K n (q0, q1, q2, Go.IntKind.wrap Go.IntKind.i64 (q3 + 1), q4, q5, q6, q7, ())
 else
 none
 else
 none
 else
 some (Sum.inl (q0, q4, q5, q6, q7, ()))
noncomputable def R.spec_l02Merge (K : Nat) (p0 : List ((List UInt8) × (Int))) (p1 : List ((List UInt8) × (Int))) (p2 : List ((List UInt8) × (Int))) : Option (((List ((List UInt8) × (Int))) × ((List (List UInt8)) × Unit)) × Unit) :=
 obind (R.spec_l01Diff K p0 p1) fun v2 =>
 obind (R.spec_l01Diff K p0 p2) fun v3 =>
 obind (R.L_spec_l02Merge_0 K K (p1, v2.1.1, v3.1.1, 0, [], [], [], [], ())) fun v4 =>
 (match v4 with
 | .inl v5 =>
 obind (R.spec_l01Apply K v5.1 v5.2.2.2.2.1) fun v6 =>
 some (((v6.1.1, v5.2.2.2.1, ()), ()))
 | .inr v5 =>
 none
 )
noncomputable def R.spec_l02Told (K : Nat) (p0 : List ((List UInt8) × (Int))) (p1 : List (List UInt8)) : Option R.T34 :=
 bif Decidable.decide ((↑(List.length p1) : Int) > 0) then
 some ((([], p1, 11, ()), ()))
 else
 bif Decidable.decide ((↑(List.length p0) : Int) > 12) then
 some ((([], [], 7, ()), ()))
 else
 some (((p0, [], 0, ()), ()))
noncomputable def R.spec_l05Join (K : Nat) (p0 : List R.T5) (p1 : Int) (p2 : Int) : Option (((Bool) × R.T54) × Unit) :=
 obind (R.spec_l03Base K p0 p1 p2) fun v2 =>
 bif v2.1.1 == p2 then
 some (((Bool.false, [], (18, 0, 0, [], []), ()), ()))
 else
 bif v2.1.1 == p1 then
 some (((Bool.true, [], (0, 0, 0, [], []), ()), ()))
 else
 bif Decidable.decide (0 ≤ Go.IntKind.wrap Go.IntKind.i64 (v2.1.1 - 1)) && Decidable.decide (Go.IntKind.wrap Go.IntKind.i64 (v2.1.1 - 1) < (↑(List.length p0) : Int)) then
 bif Decidable.decide (0 ≤ Go.IntKind.wrap Go.IntKind.i64 (p1 - 1)) && Decidable.decide (Go.IntKind.wrap Go.IntKind.i64 (p1 - 1) < (↑(List.length p0) : Int)) then
 bif Decidable.decide (0 ≤ Go.IntKind.wrap Go.IntKind.i64 (p2 - 1)) && Decidable.decide (Go.IntKind.wrap Go.IntKind.i64 (p2 - 1) < (↑(List.length p0) : Int)) then
 obind (R.spec_l02Merge K (Prod.snd (List.getD p0 (Int.toNat (Go.IntKind.wrap Go.IntKind.i64 (v2.1.1 - 1))) ([], []))) (Prod.snd (List.getD p0 (Int.toNat (Go.IntKind.wrap Go.IntKind.i64 (p1 - 1))) ([], []))) (Prod.snd (List.getD p0 (Int.toNat (Go.IntKind.wrap Go.IntKind.i64 (p2 - 1))) ([], [])))) fun v8 =>
 obind (R.spec_l02Told K v8.1.1 v8.1.2.1) fun v9 =>
 some (((Bool.false, v9.1.1, (v9.1.2.2.1, 0, 0, v9.1.2.1, []), ()), ()))
 else
 none
 else
 none
 else
 none
noncomputable def R.L_spec_l01Same_0 (K : Nat) : Nat → ((List ((List UInt8) × (Int))) × R.T21) → Option (((Bool) × Unit) ⊕ ((Bool) × Unit))
 | 0, _ => none
 | n + 1, (q0, (q1, (q2, (q3, ())))) =>
 bif Decidable.decide (q3 < (↑(List.length q0) : Int)) then
 bif Decidable.decide (0 ≤ q3) && Decidable.decide (q3 < (↑(List.length q0) : Int)) then
 bif Decidable.decide (0 ≤ q3) && Decidable.decide (q3 < (↑(List.length q1) : Int)) then
 bif !(Prod.fst (List.getD q0 (Int.toNat q3) ([], 0)) == Prod.fst (List.getD q1 (Int.toNat q3) ([], 0)) && Prod.snd (List.getD q0 (Int.toNat q3) ([], 0)) == Prod.snd (List.getD q1 (Int.toNat q3) ([], 0))) then
 some (Sum.inr (Bool.false, ()))
 else
 R.L_spec_l01Same_0 K n (q0, q1, q2, Go.IntKind.wrap Go.IntKind.i64 (q3 + 1), ())
 else
 none
 else
 none
 else
 some (Sum.inl (q2, ()))
noncomputable def R.spec_l01Same (K : Nat) (p0 : List ((List UInt8) × (Int))) (p1 : List ((List UInt8) × (Int))) : Option (((Bool) × Unit) × Unit) :=
 bif (↑(List.length p0) : Int) != (↑(List.length p1) : Int) then
 some (((Bool.false, ()), ()))
 else
 obind (R.L_spec_l01Same_0 K K (p0, p1, Bool.false, 0, ())) fun v3 =>
 (match v3 with
 | .inl v4 =>
 some (((Bool.true, ()), ()))
 | .inr v4 =>
 some (((v4.1, ()), ()))
 )
noncomputable def R.spec_l05Plan (K : Nat) (p0 : List R.T5) (p1 : Int) (p2 : Int) (p3 : List ((List UInt8) × ((Int) × (Bool)))) : Option (R.T54 × Unit) :=
 bif Decidable.decide (0 ≤ Go.IntKind.wrap Go.IntKind.i64 (p1 - 1)) && Decidable.decide (Go.IntKind.wrap Go.IntKind.i64 (p1 - 1) < (↑(List.length p0) : Int)) then
 obind (R.spec_l01Apply K (Prod.snd (List.getD p0 (Int.toNat (Go.IntKind.wrap Go.IntKind.i64 (p1 - 1))) ([], []))) p3) fun v3 =>
 bif Decidable.decide ((↑(List.length v3.1.1) : Int) > 12) then
 some ((([], (7, 0, 0, [], []), ()), ()))
 else
 bif Decidable.decide (0 ≤ Go.IntKind.wrap Go.IntKind.i64 (p1 - 1)) && Decidable.decide (Go.IntKind.wrap Go.IntKind.i64 (p1 - 1) < (↑(List.length p0) : Int)) then
 bif Decidable.decide (0 ≤ Go.IntKind.wrap Go.IntKind.i64 (p2 - 1)) && Decidable.decide (Go.IntKind.wrap Go.IntKind.i64 (p2 - 1) < (↑(List.length p0) : Int)) then
 obind (R.spec_l02Merge K (Prod.snd (List.getD p0 (Int.toNat (Go.IntKind.wrap Go.IntKind.i64 (p1 - 1))) ([], []))) v3.1.1 (Prod.snd (List.getD p0 (Int.toNat (Go.IntKind.wrap Go.IntKind.i64 (p2 - 1))) ([], [])))) fun v7 =>
 obind (R.spec_l02Told K v7.1.1 v7.1.2.1) fun v8 =>
 bif v8.1.2.2.1 == 0 then
 bif Decidable.decide (0 ≤ Go.IntKind.wrap Go.IntKind.i64 (p2 - 1)) && Decidable.decide (Go.IntKind.wrap Go.IntKind.i64 (p2 - 1) < (↑(List.length p0) : Int)) then
 obind (R.spec_l01Same K v8.1.1 (Prod.snd (List.getD p0 (Int.toNat (Go.IntKind.wrap Go.IntKind.i64 (p2 - 1))) ([], [])))) fun v11 =>
 bif v11.1.1 then
 some (((v8.1.1, (18, 0, 0, v8.1.2.1, []), ()), ()))
 else
 some (((v8.1.1, (v8.1.2.2.1, 0, 0, v8.1.2.1, []), ()), ()))
 else
 none
 else
 some (((v8.1.1, (v8.1.2.2.1, 0, 0, v8.1.2.1, []), ()), ()))
 else
 none
 else
 none
 else
 none
noncomputable def R.spec_l07Plan (K : Nat) (p0 : List R.T5) (p1 : (Int) × R.T39) (p2 : Int) (p3 : Int) : Option (((Bool) × R.T54) × Unit) :=
 bif p1.1 == 4 then
 obind (R.spec_l05Join K p0 p3 p2) fun v3 =>
 some (((v3.1.1, v3.1.2.1, v3.1.2.2.1, ()), ()))
 else
 obind (R.spec_l05Plan K p0 p2 p3 p1.2.2.2.2) fun v3 =>
 some (((Bool.false, v3.1.1, v3.1.2.1, ()), ()))
noncomputable def R.spec_l07Fast (K : Nat) (p0 : R.T48 × R.T43) : Option (((Bool) × Unit) × Unit) :=
 some (((p0.2.2.2.2.2.2.2.1 == 1, ()), ()))
noncomputable def R.spec_l07Phase (K : Nat) (p0 : R.T14 × R.T10) (p1 : R.T48 × R.T43) : Option (((Bool) × Unit) × Unit) :=
 bif p1.2.2.2.2.1 == 0 then
 bif p1.2.2.2.2.2.1 == 0 then
 bif p1.2.2.2.2.2.2.2.1 == 0 then
 bif p1.2.2.1 == 0 then
 bif (↑(List.length p1.2.2.2.2.2.2.2.2) : Int) == 0 then
 bif p1.2.2.2.1 == 0 then
 some (((p1.2.2.2.2.2.2.1 == 0, ()), ()))
 else
 some (((Bool.false, ()), ()))
 else
 some (((Bool.false, ()), ()))
 else
 bif Decidable.decide (0 ≤ p1.2.1) && Decidable.decide (p1.2.1 < (↑(List.length p1.1) : Int)) then
 bif Decidable.decide (Prod.fst (List.getD p1.1 (Int.toNat p1.2.1) (0, [], [], [], [])) > 4) then
 some (((Bool.false, ()), ()))
 else
 bif Prod.fst (List.getD p1.1 (Int.toNat p1.2.1) (0, [], [], [], [])) == 2 then
 some (((Bool.false, ()), ()))
 else
 obind (R.spec_l01In K p1.2.2.2.1 1 (↑(List.length p0.1) : Int)) fun v9 =>
 bif !v9.1.1 then
 some (((Bool.false, ()), ()))
 else
 obind (R.spec_l01In K p1.2.2.2.2.2.2.1 0 3) fun v11 =>
 bif !v11.1.1 then
 some (((Bool.false, ()), ()))
 else
 bif p1.2.2.1 == 1 then
 bif (↑(List.length p1.2.2.2.2.2.2.2.2) : Int) == 0 then
 bif Decidable.decide (p1.2.2.2.2.2.2.1 > 0) then
 bif p1.2.2.2.2.2.2.1 == 0 then
 some (((Bool.true, ()), ()))
 else
 some (((Prod.fst (List.getD p1.1 (Int.toNat p1.2.1) (0, [], [], [], [])) != 1, ()), ()))
 else
 bif Prod.fst (List.getD p1.1 (Int.toNat p1.2.1) (0, [], [], [], [])) != 3 then
 bif p1.2.2.2.2.2.2.1 == 0 then
 some (((Bool.true, ()), ()))
 else
 some (((Prod.fst (List.getD p1.1 (Int.toNat p1.2.1) (0, [], [], [], [])) != 1, ()), ()))
 else
 some (((Bool.false, ()), ()))
 else
 some (((Bool.false, ()), ()))
 else
 bif p1.2.2.1 != 2 then
 some (((Bool.false, ()), ()))
 else
 bif Prod.fst (List.getD p1.1 (Int.toNat p1.2.1) (0, [], [], [], [])) == 1 then
 some (((Bool.false, ()), ()))
 else
 obind (R.spec_l01In K p1.2.2.2.2.1 1 (↑(List.length p0.1) : Int)) fun v16 =>
 bif !v16.1.1 then
 some (((Bool.false, ()), ()))
 else
 obind (R.spec_l01In K p1.2.2.2.2.2.1 1 1000000) fun v18 =>
 bif !v18.1.1 then
 some (((Bool.false, ()), ()))
 else
 obind (R.spec_l07Plan K p0.1 (List.getD p1.1 (Int.toNat p1.2.1) (0, [], [], [], [])) p1.2.2.2.1 p1.2.2.2.2.1) fun v20 =>
 bif v20.1.2.2.1.1 == 0 then
 bif (p1.2.2.2.2.2.2.2.1 == 1) == v20.1.1 then
 obind (R.spec_l01In K p1.2.2.2.2.2.2.2.1 0 1) fun v23 =>
 bif v23.1.1 then
 obind (R.spec_l01Same K v20.1.2.1 p1.2.2.2.2.2.2.2.2) fun v25 =>
 some (((v25.1.1, ()), ()))
 else
 some (((Bool.false, ()), ()))
 else
 some (((Bool.false, ()), ()))
 else
 some (((Bool.false, ()), ()))
 else
 none
 else
 bif p1.2.2.1 == 0 then
 some (((Bool.false, ()), ()))
 else
 bif Decidable.decide (0 ≤ p1.2.1) && Decidable.decide (p1.2.1 < (↑(List.length p1.1) : Int)) then
 bif Decidable.decide (Prod.fst (List.getD p1.1 (Int.toNat p1.2.1) (0, [], [], [], [])) > 4) then
 some (((Bool.false, ()), ()))
 else
 bif Prod.fst (List.getD p1.1 (Int.toNat p1.2.1) (0, [], [], [], [])) == 2 then
 some (((Bool.false, ()), ()))
 else
 obind (R.spec_l01In K p1.2.2.2.1 1 (↑(List.length p0.1) : Int)) fun v9 =>
 bif !v9.1.1 then
 some (((Bool.false, ()), ()))
 else
 obind (R.spec_l01In K p1.2.2.2.2.2.2.1 0 3) fun v11 =>
 bif !v11.1.1 then
 some (((Bool.false, ()), ()))
 else
 bif p1.2.2.1 == 1 then
 some (((Bool.false, ()), ()))
 else
 bif p1.2.2.1 != 2 then
 some (((Bool.false, ()), ()))
 else
 bif Prod.fst (List.getD p1.1 (Int.toNat p1.2.1) (0, [], [], [], [])) == 1 then
 some (((Bool.false, ()), ()))
 else
 obind (R.spec_l01In K p1.2.2.2.2.1 1 (↑(List.length p0.1) : Int)) fun v16 =>
 bif !v16.1.1 then
 some (((Bool.false, ()), ()))
 else
 obind (R.spec_l01In K p1.2.2.2.2.2.1 1 1000000) fun v18 =>
 bif !v18.1.1 then
 some (((Bool.false, ()), ()))
 else
 obind (R.spec_l07Plan K p0.1 (List.getD p1.1 (Int.toNat p1.2.1) (0, [], [], [], [])) p1.2.2.2.1 p1.2.2.2.2.1) fun v20 =>
 bif v20.1.2.2.1.1 == 0 then
 bif (p1.2.2.2.2.2.2.2.1 == 1) == v20.1.1 then
 obind (R.spec_l01In K p1.2.2.2.2.2.2.2.1 0 1) fun v23 =>
 bif v23.1.1 then
 obind (R.spec_l01Same K v20.1.2.1 p1.2.2.2.2.2.2.2.2) fun v25 =>
 some (((v25.1.1, ()), ()))
 else
 some (((Bool.false, ()), ()))
 else
 some (((Bool.false, ()), ()))
 else
 some (((Bool.false, ()), ()))
 else
 none
 else
 bif p1.2.2.1 == 0 then
 some (((Bool.false, ()), ()))
 else
 bif Decidable.decide (0 ≤ p1.2.1) && Decidable.decide (p1.2.1 < (↑(List.length p1.1) : Int)) then
 bif Decidable.decide (Prod.fst (List.getD p1.1 (Int.toNat p1.2.1) (0, [], [], [], [])) > 4) then
 some (((Bool.false, ()), ()))
 else
 bif Prod.fst (List.getD p1.1 (Int.toNat p1.2.1) (0, [], [], [], [])) == 2 then
 some (((Bool.false, ()), ()))
 else
 obind (R.spec_l01In K p1.2.2.2.1 1 (↑(List.length p0.1) : Int)) fun v8 =>
 bif !v8.1.1 then
 some (((Bool.false, ()), ()))
 else
 obind (R.spec_l01In K p1.2.2.2.2.2.2.1 0 3) fun v10 =>
 bif !v10.1.1 then
 some (((Bool.false, ()), ()))
 else
 bif p1.2.2.1 == 1 then
 some (((Bool.false, ()), ()))
 else
 bif p1.2.2.1 != 2 then
 some (((Bool.false, ()), ()))
 else
 bif Prod.fst (List.getD p1.1 (Int.toNat p1.2.1) (0, [], [], [], [])) == 1 then
 some (((Bool.false, ()), ()))
 else
 obind (R.spec_l01In K p1.2.2.2.2.1 1 (↑(List.length p0.1) : Int)) fun v15 =>
 bif !v15.1.1 then
 some (((Bool.false, ()), ()))
 else
 obind (R.spec_l01In K p1.2.2.2.2.2.1 1 1000000) fun v17 =>
 bif !v17.1.1 then
 some (((Bool.false, ()), ()))
 else
 obind (R.spec_l07Plan K p0.1 (List.getD p1.1 (Int.toNat p1.2.1) (0, [], [], [], [])) p1.2.2.2.1 p1.2.2.2.2.1) fun v19 =>
 bif v19.1.2.2.1.1 == 0 then
 bif (p1.2.2.2.2.2.2.2.1 == 1) == v19.1.1 then
 obind (R.spec_l01In K p1.2.2.2.2.2.2.2.1 0 1) fun v22 =>
 bif v22.1.1 then
 obind (R.spec_l01Same K v19.1.2.1 p1.2.2.2.2.2.2.2.2) fun v24 =>
 some (((v24.1.1, ()), ()))
 else
 some (((Bool.false, ()), ()))
 else
 some (((Bool.false, ()), ()))
 else
 some (((Bool.false, ()), ()))
 else
 none
 else
 bif p1.2.2.1 == 0 then
 some (((Bool.false, ()), ()))
 else
 bif Decidable.decide (0 ≤ p1.2.1) && Decidable.decide (p1.2.1 < (↑(List.length p1.1) : Int)) then
 bif Decidable.decide (Prod.fst (List.getD p1.1 (Int.toNat p1.2.1) (0, [], [], [], [])) > 4) then
 some (((Bool.false, ()), ()))
 else
 bif Prod.fst (List.getD p1.1 (Int.toNat p1.2.1) (0, [], [], [], [])) == 2 then
 some (((Bool.false, ()), ()))
 else
 obind (R.spec_l01In K p1.2.2.2.1 1 (↑(List.length p0.1) : Int)) fun v7 =>
 bif !v7.1.1 then
 some (((Bool.false, ()), ()))
 else
 obind (R.spec_l01In K p1.2.2.2.2.2.2.1 0 3) fun v9 =>
 bif !v9.1.1 then
 some (((Bool.false, ()), ()))
 else
 bif p1.2.2.1 == 1 then
 some (((Bool.false, ()), ()))
 else
 bif p1.2.2.1 != 2 then
 some (((Bool.false, ()), ()))
 else
 bif Prod.fst (List.getD p1.1 (Int.toNat p1.2.1) (0, [], [], [], [])) == 1 then
 some (((Bool.false, ()), ()))
 else
 obind (R.spec_l01In K p1.2.2.2.2.1 1 (↑(List.length p0.1) : Int)) fun v14 =>
 bif !v14.1.1 then
 some (((Bool.false, ()), ()))
 else
 obind (R.spec_l01In K p1.2.2.2.2.2.1 1 1000000) fun v16 =>
 bif !v16.1.1 then
 some (((Bool.false, ()), ()))
 else
 obind (R.spec_l07Plan K p0.1 (List.getD p1.1 (Int.toNat p1.2.1) (0, [], [], [], [])) p1.2.2.2.1 p1.2.2.2.2.1) fun v18 =>
 bif v18.1.2.2.1.1 == 0 then
 bif (p1.2.2.2.2.2.2.2.1 == 1) == v18.1.1 then
 obind (R.spec_l01In K p1.2.2.2.2.2.2.2.1 0 1) fun v21 =>
 bif v21.1.1 then
 obind (R.spec_l01Same K v18.1.2.1 p1.2.2.2.2.2.2.2.2) fun v23 =>
 some (((v23.1.1, ()), ()))
 else
 some (((Bool.false, ()), ()))
 else
 some (((Bool.false, ()), ()))
 else
 some (((Bool.false, ()), ()))
 else
 none
noncomputable def R.spec_l07OK (K : Nat) (p0 : R.T14 × R.T10) (p1 : R.T48 × R.T43) : Option (((Bool) × Unit) × Unit) :=
 obind (R.spec_l07Wishes K p1.1) fun v2 =>
 bif !v2.1.1 then
 some (((Bool.false, ()), ()))
 else
 obind (R.spec_l01In K p1.2.1 0 (↑(List.length p1.1) : Int)) fun v4 =>
 bif !v4.1.1 then
 some (((Bool.false, ()), ()))
 else
 obind (R.spec_l01In K p1.2.2.1 0 2) fun v6 =>
 bif !v6.1.1 then
 some (((Bool.false, ()), ()))
 else
 bif p1.2.1 == (↑(List.length p1.1) : Int) then
 bif Decidable.decide (p1.2.2.1 > 0) then
 some (((Bool.false, ()), ()))
 else
 obind (R.spec_l07Phase K p0 p1) fun v10 =>
 some (((v10.1.1, ()), ()))
 else
 obind (R.spec_l07Phase K p0 p1) fun v9 =>
 some (((v9.1.1, ()), ()))
noncomputable def R.spec_ClientOK (K : Nat) (p0 : R.T14 × R.T10) (p1 : R.T48 × R.T43) : Option (((Bool) × Unit) × Unit) :=
 obind (R.spec_l05OK K p0) fun v2 =>
 bif v2.1.1 then
 obind (R.spec_l07OK K p0 p1) fun v4 =>
 some (((v4.1.1, ()), ()))
 else
 some (((Bool.false, ()), ()))
noncomputable def R.impl_isList_impl_Commit (K : Nat) (p0 : List R.T5) : Option (((Bool) × Unit) × Unit) :=
 some (((Decidable.decide ((↑(List.length p0) : Int) ≤ 4096), ()), ()))
noncomputable def R.impl_within (K : Nat) (p0 : Int) (p1 : Int) (p2 : Int) : Option (((Bool) × Unit) × Unit) :=
 bif Decidable.decide (p1 ≤ p0) then
 some (((Decidable.decide (p0 ≤ p2), ()), ()))
 else
 some (((Bool.false, ()), ()))
noncomputable def R.impl_isLetter (K : Nat) (p0 : Int) : Option (((Bool) × Unit) × Unit) :=
 bif Decidable.decide (p0 ≥ 97) then
 bif Decidable.decide (p0 ≤ 122) then
 some (((Bool.true, ()), ()))
 else
 bif Decidable.decide (p0 ≥ 65) then
 bif Decidable.decide (p0 ≤ 90) then
 some (((Bool.true, ()), ()))
 else
 some (((p0 == 95, ()), ()))
 else
 some (((p0 == 95, ()), ()))
 else
 bif Decidable.decide (p0 ≥ 65) then
 bif Decidable.decide (p0 ≤ 90) then
 some (((Bool.true, ()), ()))
 else
 some (((p0 == 95, ()), ()))
 else
 some (((p0 == 95, ()), ()))
noncomputable def R.impl_isDigit (K : Nat) (p0 : Int) : Option (((Bool) × Unit) × Unit) :=
 bif Decidable.decide (p0 ≥ 48) then
 some (((Decidable.decide (p0 ≤ 57), ()), ()))
 else
 some (((Bool.false, ()), ()))
noncomputable def R.impl_NameOK_1 (K : Nat) (p0 : Int) : Option (((Bool) × Unit) × Unit) :=
 obind (R.impl_isLetter K p0) fun v2 =>
 bif v2.1.1 then
 some (((Bool.true, ()), ()))
 else
 obind (R.impl_isDigit K p0) fun v4 =>
 some (((v4.1.1, ()), ()))
noncomputable def R.L_impl_areAll_byte__impl_NameOK_1_0 (K : Nat) : Nat → ((List (Int)) × ((Bool) × ((List (Int)) × ((List (Int)) × ((Bool) × ((List (Int)) × ((List (Int)) × ((Int) × ((Int) × ((Int) × Unit)))))))))) → Option (((List (Int)) × ((Bool) × ((List (Int)) × ((List (Int)) × ((Bool) × ((List (Int)) × ((Int) × Unit))))))) ⊕ ((List (Int)) × ((Bool) × ((List (Int)) × ((List (Int)) × ((Bool) × ((List (Int)) × ((Int) × Unit))))))))
 | 0, _ => none
 | n + 1, (q0, (q1, (q2, (q3, (q4, (q5, (q6, (q7, (q8, (q9, ())))))))))) =>
 bif Decidable.decide (q9 < q8) then
 bif Decidable.decide (0 ≤ q9) && Decidable.decide (q9 < (↑(List.length q6) : Int)) then
 obind (R.impl_NameOK_1 K (List.getD q6 (Int.toNat q9) 0)) fun v6 =>
 bif !v6.1.1 then
 some (Sum.inr (q0, q1, q2, q3, q4, q5, q9, ()))
 else
 R.L_impl_areAll_byte__impl_NameOK_1_0 K n (q0, q1, q2, q3, q4, q5, q6, q7, q8, Go.IntKind.wrap Go.IntKind.i64 (q9 + 1), ())
 else
 none
 else
 some (Sum.inl (q0, q1, q2, q3, q4, q5, q7, ()))
noncomputable def R.impl_areAll_byte__impl_NameOK_1 (K : Nat) (p0 : List (Int)) : Option (((Bool) × Unit) × Unit) :=
 obind (R.L_impl_areAll_byte__impl_NameOK_1_0 K K (p0, Bool.false, p0, p0, Bool.false, p0, p0, 0, (↑(List.length p0) : Int), 0, ())) fun v2 =>
 (match v2 with
 | .inl v3 =>
 some (((!Decidable.decide (-1 ≥ 0), ()), ()))
 | .inr v3 =>
 some (((!Decidable.decide (v3.2.2.2.2.2.2.1 ≥ 0), ()), ()))
 )
noncomputable def R.impl_NameOK (K : Nat) (p0 : List UInt8) : Option (((Bool) × Unit) × Unit) :=
 obind (R.impl_within K (↑(List.length p0) : Int) 1 12) fun v2 =>
 bif v2.1.1 then
 bif Decidable.decide (0 ≤ 0) && Decidable.decide (0 < (↑(List.length p0) : Int)) then
 obind (R.impl_isLetter K (↑(UInt8.toNat (List.getD p0 (Int.toNat 0) 0)) : Int)) fun v5 =>
 bif v5.1.1 then
 obind (R.impl_areAll_byte__impl_NameOK_1 K (Fw.bytesIn p0)) fun v7 =>
 some (((v7.1.1, ()), ()))
 else
 some (((Bool.false, ()), ()))
 else
 none
 else
 some (((Bool.false, ()), ()))
noncomputable def R.impl_isValue (K : Nat) (p0 : Int) : Option (((Bool) × Unit) × Unit) :=
 obind (R.impl_within K p0 (-1000000) 1000000) fun v2 =>
 some (((v2.1.1, ()), ()))
noncomputable def R.L_impl_MapOK_0 (K : Nat) : Nat → ((List ((List UInt8) × (Int))) × ((Bool) × ((List ((List UInt8) × (Int))) × ((Int) × ((Int) × Unit))))) → Option (((List ((List UInt8) × (Int))) × ((Bool) × Unit)) ⊕ ((Bool) × Unit))
 | 0, _ => none
 | n + 1, (q0, (q1, (q2, (q3, (q4, ()))))) =>
 bif Decidable.decide (q4 < q3) then
 bif Decidable.decide (0 ≤ q4) && Decidable.decide (q4 < (↑(List.length q2) : Int)) then
 obind (R.impl_NameOK K (Prod.fst (List.getD q2 (Int.toNat q4) ([], 0)))) fun v6 =>
 bif !v6.1.1 then
 some (Sum.inr (Bool.false, ()))
 else
 obind (R.impl_isValue K (Prod.snd (List.getD q2 (Int.toNat q4) ([], 0)))) fun v8 =>
 bif !v8.1.1 then
 some (Sum.inr (Bool.false, ()))
 else
 bif Decidable.decide (q4 > 0) then
 bif Decidable.decide (0 ≤ Go.IntKind.wrap Go.IntKind.i64 (q4 - 1)) && Decidable.decide (Go.IntKind.wrap Go.IntKind.i64 (q4 - 1) < (↑(List.length q0) : Int)) then
 bif !Fw.sless (Prod.fst (List.getD q0 (Int.toNat (Go.IntKind.wrap Go.IntKind.i64 (q4 - 1))) ([], 0))) (Prod.fst (List.getD q2 (Int.toNat q4) ([], 0))) then
 some (Sum.inr (Bool.false, ()))
 else
 R.L_impl_MapOK_0 K n (q0, q1, q2, q3, Go.IntKind.wrap Go.IntKind.i64 (q4 + 1), ())
 else
 none
 else
 R.L_impl_MapOK_0 K n (q0, q1, q2, q3, Go.IntKind.wrap Go.IntKind.i64 (q4 + 1), ())
 else
 none
 else
 some (Sum.inl (q0, q1, ()))
noncomputable def R.impl_MapOK (K : Nat) (p0 : List ((List UInt8) × (Int))) : Option (((Bool) × Unit) × Unit) :=
 obind (R.L_impl_MapOK_0 K K (p0, Bool.false, p0, (↑(List.length p0) : Int), 0, ())) fun v2 =>
 (match v2 with
 | .inl v3 =>
 some (((Decidable.decide ((↑(List.length v3.1) : Int) ≤ 12), ()), ()))
 | .inr v3 =>
 some (((v3.1, ()), ()))
 )
noncomputable def R.L_impl_areAll_int__impl_Commit_isAt_1_0 (K : Nat) : Nat → ((List (Int)) × ((Int) × ((Bool) × ((List (Int)) × ((List (Int)) × ((Bool) × ((List (Int)) × ((List (Int)) × ((Int) × ((Int) × ((Int) × ((Int) × Unit)))))))))))) → Option (((List (Int)) × ((Int) × ((Bool) × ((List (Int)) × ((List (Int)) × ((Bool) × ((List (Int)) × ((Int) × ((Int) × Unit))))))))) ⊕ ((List (Int)) × ((Int) × ((Bool) × ((List (Int)) × ((List (Int)) × ((Bool) × ((List (Int)) × ((Int) × ((Int) × Unit))))))))))
 | 0, _ => none
 | n + 1, (q0, (q1, (q2, (q3, (q4, (q5, (q6, (q7, (q8, (q9, (q10, (q11, ())))))))))))) =>
 bif Decidable.decide (q10 < q9) then
 bif Decidable.decide (0 ≤ q10) && Decidable.decide (q10 < (↑(List.length q7) : Int)) then
 obind (R.impl_within K (List.getD q7 (Int.toNat q10) 0) 1 (Go.IntKind.wrap Go.IntKind.i64 (q11 - 1))) fun v6 =>
 bif !v6.1.1 then
 some (Sum.inr (q0, q1, q2, q3, q4, q5, q6, q10, q11, ()))
 else
 R.L_impl_areAll_int__impl_Commit_isAt_1_0 K n (q0, q1, q2, q3, q4, q5, q6, q7, q8, q9, Go.IntKind.wrap Go.IntKind.i64 (q10 + 1), q11, ())
 else
 none
 else
 some (Sum.inl (q0, q1, q2, q3, q4, q5, q6, q8, q11, ()))
noncomputable def R.impl_areAll_int__impl_Commit_isAt_1 (K : Nat) (p0 : List (Int)) (p1_0 : Int) : Option (((Bool) × Unit) × Unit) :=
 obind (R.L_impl_areAll_int__impl_Commit_isAt_1_0 K K (p0, p1_0, Bool.false, p0, p0, Bool.false, p0, p0, 0, (↑(List.length p0) : Int), 0, p1_0, ())) fun v2 =>
 (match v2 with
 | .inl v3 =>
 some (((!Decidable.decide (-1 ≥ 0), ()), ()))
 | .inr v3 =>
 some (((!Decidable.decide (v3.2.2.2.2.2.2.2.1 ≥ 0), ()), ()))
 )
noncomputable def R.impl_Commit_isAt (K : Nat) (p0 : (List (Int)) × (List ((List UInt8) × (Int)))) (p1 : Int) : Option (((Bool) × Unit) × Unit) :=
 obind (R.impl_MapOK K p0.2) fun v2 =>
 bif !v2.1.1 then
 some (((Bool.false, ()), ()))
 else
 bif Decidable.decide ((↑(List.length p0.1) : Int) > 2) then
 some (((Bool.false, ()), ()))
 else
 bif !((↑(List.length p0.1) : Int) == 0) == (p1 == 1) then
 some (((Bool.false, ()), ()))
 else
 bif (↑(List.length p0.1) : Int) == 2 then
 bif Decidable.decide (0 ≤ 0) && Decidable.decide (0 < (↑(List.length p0.1) : Int)) then
 bif Decidable.decide (0 ≤ 1) && Decidable.decide (1 < (↑(List.length p0.1) : Int)) then
 bif List.getD p0.1 (Int.toNat 0) 0 == List.getD p0.1 (Int.toNat 1) 0 then
 some (((Bool.false, ()), ()))
 else
 obind (R.impl_areAll_int__impl_Commit_isAt_1 K p0.1 p1) fun v10 =>
 some (((v10.1.1, ()), ()))
 else
 none
 else
 none
 else
 obind (R.impl_areAll_int__impl_Commit_isAt_1 K p0.1 p1) fun v7 =>
 some (((v7.1.1, ()), ()))
noncomputable def R.L_impl_areCommits_0 (K : Nat) : Nat → (R.T14 × ((Bool) × (R.T14 × ((Int) × ((Int) × Unit))))) → Option ((R.T14 × ((Bool) × Unit)) ⊕ ((Bool) × Unit))
 | 0, _ => none
 | n + 1, (q0, (q1, (q2, (q3, (q4, ()))))) =>
 bif Decidable.decide (q4 < q3) then
 bif Decidable.decide (0 ≤ q4) && Decidable.decide (q4 < (↑(List.length q2) : Int)) then
 obind (R.impl_Commit_isAt K (List.getD q2 (Int.toNat q4) ([], [])) (Go.IntKind.wrap Go.IntKind.i64 (q4 + 1))) fun v6 =>
 bif !v6.1.1 then
 some (Sum.inr (Bool.false, ()))
 else
 R.L_impl_areCommits_0 K n (q0, q1, q2, q3, Go.IntKind.wrap Go.IntKind.i64 (q4 + 1), ())
 else
 none
 else
 some (Sum.inl (q0, q1, ()))
noncomputable def R.impl_areCommits (K : Nat) (p0 : List R.T5) : Option (((Bool) × Unit) × Unit) :=
 obind (R.L_impl_areCommits_0 K K (p0, Bool.false, p0, (↑(List.length p0) : Int), 0, ())) fun v2 =>
 (match v2 with
 | .inl v3 =>
 some (((Decidable.decide ((↑(List.length v3.1) : Int) ≤ 60), ()), ()))
 | .inr v3 =>
 some (((v3.1, ()), ()))
 )
noncomputable def R.impl_StoreOK (K : Nat) (p0 : List R.T5) : Option (((Bool) × Unit) × Unit) :=
 bif Decidable.decide ((↑(List.length p0) : Int) > 0) then
 bif Decidable.decide ((↑(List.length p0) : Int) ≤ 4096) then
 obind (R.impl_areCommits K p0) fun v4 =>
 some (((v4.1.1, ()), ()))
 else
 some (((Bool.false, ()), ()))
 else
 some (((Bool.false, ()), ()))
noncomputable def R.impl_isHead (K : Nat) (p0 : Int) : Option (((Bool) × Unit) × Unit) :=
 obind (R.impl_within K p0 1 60) fun v2 =>
 some (((v2.1.1, ()), ()))
noncomputable def R.impl_isRef (K : Nat) (p0 : (List UInt8) × ((Int) × ((Int) × (Bool)))) : Option (((Bool) × Unit) × Unit) :=
 obind (R.impl_NameOK K p0.1) fun v2 =>
 bif v2.1.1 then
 obind (R.impl_within K p0.2.2.1 1 1000000) fun v4 =>
 bif v4.1.1 then
 bif p0.2.2.2 then
 bif p0.2.1 == 0 then
 some (((Bool.true, ()), ()))
 else
 bif !p0.2.2.2 then
 obind (R.impl_isHead K p0.2.1) fun v9 =>
 some (((v9.1.1, ()), ()))
 else
 some (((Bool.false, ()), ()))
 else
 bif !p0.2.2.2 then
 obind (R.impl_isHead K p0.2.1) fun v8 =>
 some (((v8.1.1, ()), ()))
 else
 some (((Bool.false, ()), ()))
 else
 some (((Bool.false, ()), ()))
 else
 some (((Bool.false, ()), ()))
noncomputable def R.L_slices_IndexFunc_impl_Ref__impl_place_1_0 (K : Nat) : Nat → (R.T10 × ((List UInt8) × ((Int) × ((Int) × ((Int) × Unit))))) → Option (((Int) × Unit) ⊕ ((Int) × Unit))
 | 0, _ => none
 | n + 1, (q0, (q1, (q2, (q3, (q4, ()))))) =>
 bif Decidable.decide (q4 < q3) then
 bif Decidable.decide (0 ≤ q4) && Decidable.decide (q4 < (↑(List.length q0) : Int)) then
 bif Prod.fst (List.getD q0 (Int.toNat q4) ([], 0, 0, Bool.false)) == q1 then
 some (Sum.inr (q4, ()))
 else
 R.L_slices_IndexFunc_impl_Ref__impl_place_1_0 K n (q0, q1, q2, q3, Go.IntKind.wrap Go.IntKind.i64 (q4 + 1), ())
 else
 none
 else
 some (Sum.inl (q2, ()))
noncomputable def R.slices_IndexFunc_impl_Ref__impl_place_1 (K : Nat) (p0 : List R.T4) (p1_0 : List UInt8) : Option (((Int) × Unit) × Unit) :=
 obind (R.L_slices_IndexFunc_impl_Ref__impl_place_1_0 K K (p0, p1_0, 0, (↑(List.length p0) : Int), 0, ())) fun v2 =>
 (match v2 with
 | .inl v3 =>
 some (((-1, ()), ()))
 | .inr v3 =>
 some (((v3.1, ()), ()))
 )
noncomputable def R.impl_place (K : Nat) (p0 : List R.T4) (p1 : List UInt8) : Option (((Int) × Unit) × Unit) :=
 obind (R.slices_IndexFunc_impl_Ref__impl_place_1 K p0 p1) fun v2 =>
 some (((v2.1.1, ()), ()))
noncomputable def R.L_impl_areAll_impl_Ref__impl_isRef_0 (K : Nat) : Nat → (R.T10 × ((Bool) × (R.T10 × (R.T10 × ((Bool) × (R.T10 × (R.T10 × ((Int) × ((Int) × ((Int) × Unit)))))))))) → Option ((R.T10 × ((Bool) × (R.T10 × (R.T10 × ((Bool) × (R.T10 × ((Int) × Unit))))))) ⊕ (R.T10 × ((Bool) × (R.T10 × (R.T10 × ((Bool) × (R.T10 × ((Int) × Unit))))))))
 | 0, _ => none
 | n + 1, (q0, (q1, (q2, (q3, (q4, (q5, (q6, (q7, (q8, (q9, ())))))))))) =>
 bif Decidable.decide (q9 < q8) then
 bif Decidable.decide (0 ≤ q9) && Decidable.decide (q9 < (↑(List.length q6) : Int)) then
 obind (R.impl_isRef K (List.getD q6 (Int.toNat q9) ([], 0, 0, Bool.false))) fun v6 =>
 bif !v6.1.1 then
 some (Sum.inr (q0, q1, q2, q3, q4, q5, q9, ()))
 else
 R.L_impl_areAll_impl_Ref__impl_isRef_0 K n (q0, q1, q2, q3, q4, q5, q6, q7, q8, Go.IntKind.wrap Go.IntKind.i64 (q9 + 1), ())
 else
 none
 else
 some (Sum.inl (q0, q1, q2, q3, q4, q5, q7, ()))
noncomputable def R.impl_areAll_impl_Ref__impl_isRef (K : Nat) (p0 : List R.T4) : Option (((Bool) × Unit) × Unit) :=
 obind (R.L_impl_areAll_impl_Ref__impl_isRef_0 K K (p0, Bool.false, p0, p0, Bool.false, p0, p0, 0, (↑(List.length p0) : Int), 0, ())) fun v2 =>
 (match v2 with
 | .inl v3 =>
 some (((!Decidable.decide (-1 ≥ 0), ()), ()))
 | .inr v3 =>
 some (((!Decidable.decide (v3.2.2.2.2.2.2.1 ≥ 0), ()), ()))
 )
noncomputable def R.L_impl_RefsOK_0 (K : Nat) : Nat → (R.T10 × ((Bool) × (R.T10 × ((Int) × ((Int) × Unit))))) → Option (((Bool) × Unit) ⊕ ((Bool) × Unit))
 | 0, _ => none
 | n + 1, (q0, (q1, (q2, (q3, (q4, ()))))) =>
 bif Decidable.decide (q4 < q3) then
 bif Decidable.decide (0 ≤ q4) && Decidable.decide (q4 < (↑(List.length q2) : Int)) then
 bif Decidable.decide (0 ≤ q4) && Decidable.decide (q4 ≤ (↑(List.length q0) : Int)) then
 obind (R.impl_place K (List.drop 0 (List.take (Int.toNat q4) q0)) (Prod.fst (List.getD q2 (Int.toNat q4) ([], 0, 0, Bool.false)))) fun v7 =>
 bif Decidable.decide (v7.1.1 ≥ 0) then
 some (Sum.inr (Bool.false, ()))
 else
 R.L_impl_RefsOK_0 K n (q0, q1, q2, q3, Go.IntKind.wrap Go.IntKind.i64 (q4 + 1), ())
 else
 none
 else
 none
 else
 some (Sum.inl (q1, ()))
noncomputable def R.impl_RefsOK (K : Nat) (p0 : List R.T4) : Option (((Bool) × Unit) × Unit) :=
 bif Decidable.decide ((↑(List.length p0) : Int) > 8) then
 some (((Bool.false, ()), ()))
 else
 obind (R.impl_areAll_impl_Ref__impl_isRef K p0) fun v3 =>
 bif !v3.1.1 then
 some (((Bool.false, ()), ()))
 else
 obind (R.L_impl_RefsOK_0 K K (p0, Bool.false, p0, (↑(List.length p0) : Int), 0, ())) fun v5 =>
 (match v5 with
 | .inl v6 =>
 some (((Bool.true, ()), ()))
 | .inr v6 =>
 some (((v6.1, ()), ()))
 )
noncomputable def R.L_impl_areAll_impl_Ref__impl_BaseOK_1_0 (K : Nat) : Nat → (R.T10 × (R.T49 × ((Bool) × (R.T10 × (R.T10 × ((Bool) × (R.T10 × (R.T10 × ((Int) × ((Int) × R.T55)))))))))) → Option ((R.T10 × (R.T49 × ((Bool) × (R.T10 × (R.T10 × ((Bool) × (R.T10 × R.T55))))))) ⊕ (R.T10 × (R.T49 × ((Bool) × (R.T10 × (R.T10 × ((Bool) × (R.T10 × R.T55))))))))
 | 0, _ => none
 | n + 1, (q0, (q1, (q2, (q3, (q4, (q5, (q6, (q7, (q8, (q9, (q10, (q11, ())))))))))))) =>
 bif Decidable.decide (q10 < q9) then
 bif Decidable.decide (0 ≤ q10) && Decidable.decide (q10 < (↑(List.length q7) : Int)) then
 bif !Decidable.decide (Prod.fst (Prod.snd (List.getD q7 (Int.toNat q10) ([], 0, 0, Bool.false))) ≤ (↑(List.length q11.1) : Int)) then
 some (Sum.inr (q0, q1, q2, q3, q4, q5, q6, q10, q11, ()))
 else
 R.L_impl_areAll_impl_Ref__impl_BaseOK_1_0 K n (q0, q1, q2, q3, q4, q5, q6, q7, q8, q9, Go.IntKind.wrap Go.IntKind.i64 (q10 + 1), q11, ())
 else
 none
 else
 some (Sum.inl (q0, q1, q2, q3, q4, q5, q6, q8, q11, ()))
noncomputable def R.impl_areAll_impl_Ref__impl_BaseOK_1 (K : Nat) (p0 : List R.T4) (p1_0 : R.T14 × R.T10) : Option (((Bool) × Unit) × Unit) :=
 obind (R.L_impl_areAll_impl_Ref__impl_BaseOK_1_0 K K (p0, p1_0, Bool.false, p0, p0, Bool.false, p0, p0, 0, (↑(List.length p0) : Int), 0, p1_0, ())) fun v2 =>
 (match v2 with
 | .inl v3 =>
 some (((!Decidable.decide (-1 ≥ 0), ()), ()))
 | .inr v3 =>
 some (((!Decidable.decide (v3.2.2.2.2.2.2.2.1 ≥ 0), ()), ()))
 )
noncomputable def R.impl_BaseOK (K : Nat) (p0 : R.T14 × R.T10) : Option (((Bool) × Unit) × Unit) :=
 obind (R.impl_StoreOK K p0.1) fun v2 =>
 bif v2.1.1 then
 obind (R.impl_RefsOK K p0.2) fun v4 =>
 bif v4.1.1 then
 obind (R.impl_areAll_impl_Ref__impl_BaseOK_1 K p0.2 p0) fun v6 =>
 some (((v6.1.1, ()), ()))
 else
 some (((Bool.false, ()), ()))
 else
 some (((Bool.false, ()), ()))
noncomputable def R.impl_hasSource (K : Nat) (p0 : Int) : Option (((Bool) × Unit) × Unit) :=
 bif p0 == 1 then
 some (((Bool.true, ()), ()))
 else
 some (((p0 == 4, ()), ()))
noncomputable def R.slices_Clone_impl_Edit (K : Nat) (p0 : List ((List UInt8) × ((Int) × (Bool)))) : Option R.T18 :=
 bif List.isEmpty p0 then
 Fw.alt (
 some ((([], ()), ()))
 ) (
 bif Nat.ble (0 + List.length p0) 268435456 then
 some (((p0, ()), ()))
 else
 none
 )
 else
 bif Nat.ble (0 + List.length p0) 268435456 then
 some (((p0, ()), ()))
 else
 none
noncomputable def R.impl_Wish_op (K : Nat) (p0 : (Int) × R.T39) (p1 : Int) : Option ((((Int) × R.T37) × Unit) × Unit) :=
 obind (R.slices_Clone_impl_Edit K p0.2.2.2.2) fun v2 =>
 some ((((p0.1, p1, p0.2.1, p0.2.2.2.1, v2.1.1), ()), ()))
noncomputable def R.L_impl_EditsOK_0 (K : Nat) : Nat → (R.T0 × ((Bool) × (R.T0 × ((Int) × ((Int) × Unit))))) → Option ((R.T0 × ((Bool) × Unit)) ⊕ ((Bool) × Unit))
 | 0, _ => none
 | n + 1, (q0, (q1, (q2, (q3, (q4, ()))))) =>
 bif Decidable.decide (q4 < q3) then
 bif Decidable.decide (0 ≤ q4) && Decidable.decide (q4 < (↑(List.length q2) : Int)) then
 obind (R.impl_NameOK K (Prod.fst (List.getD q2 (Int.toNat q4) ([], 0, Bool.false)))) fun v6 =>
 bif !v6.1.1 then
 some (Sum.inr (Bool.false, ()))
 else
 obind (R.impl_isValue K (Prod.fst (Prod.snd (List.getD q2 (Int.toNat q4) ([], 0, Bool.false))))) fun v8 =>
 bif !v8.1.1 then
 some (Sum.inr (Bool.false, ()))
 else
 bif Prod.snd (Prod.snd (List.getD q2 (Int.toNat q4) ([], 0, Bool.false))) then
 bif Prod.fst (Prod.snd (List.getD q2 (Int.toNat q4) ([], 0, Bool.false))) != 0 then
 some (Sum.inr (Bool.false, ()))
 else
 bif Decidable.decide (q4 > 0) then
 bif Decidable.decide (0 ≤ Go.IntKind.wrap Go.IntKind.i64 (q4 - 1)) && Decidable.decide (Go.IntKind.wrap Go.IntKind.i64 (q4 - 1) < (↑(List.length q0) : Int)) then
 bif !Fw.sless (Prod.fst (List.getD q0 (Int.toNat (Go.IntKind.wrap Go.IntKind.i64 (q4 - 1))) ([], 0, Bool.false))) (Prod.fst (List.getD q2 (Int.toNat q4) ([], 0, Bool.false))) then
 some (Sum.inr (Bool.false, ()))
 else
 R.L_impl_EditsOK_0 K n (q0, q1, q2, q3, Go.IntKind.wrap Go.IntKind.i64 (q4 + 1), ())
 else
 none
 else
 R.L_impl_EditsOK_0 K n (q0, q1, q2, q3, Go.IntKind.wrap Go.IntKind.i64 (q4 + 1), ())
 else
 bif Decidable.decide (q4 > 0) then
 bif Decidable.decide (0 ≤ Go.IntKind.wrap Go.IntKind.i64 (q4 - 1)) && Decidable.decide (Go.IntKind.wrap Go.IntKind.i64 (q4 - 1) < (↑(List.length q0) : Int)) then
 bif !Fw.sless (Prod.fst (List.getD q0 (Int.toNat (Go.IntKind.wrap Go.IntKind.i64 (q4 - 1))) ([], 0, Bool.false))) (Prod.fst (List.getD q2 (Int.toNat q4) ([], 0, Bool.false))) then
 some (Sum.inr (Bool.false, ()))
 else
 R.L_impl_EditsOK_0 K n (q0, q1, q2, q3, Go.IntKind.wrap Go.IntKind.i64 (q4 + 1), ())
 else
 none
 else
 R.L_impl_EditsOK_0 K n (q0, q1, q2, q3, Go.IntKind.wrap Go.IntKind.i64 (q4 + 1), ())
 else
 none
 else
 some (Sum.inl (q0, q1, ()))
noncomputable def R.impl_EditsOK (K : Nat) (p0 : List ((List UInt8) × ((Int) × (Bool)))) : Option (((Bool) × Unit) × Unit) :=
 obind (R.L_impl_EditsOK_0 K K (p0, Bool.false, p0, (↑(List.length p0) : Int), 0, ())) fun v2 =>
 (match v2 with
 | .inl v3 =>
 some (((Decidable.decide ((↑(List.length v3.1) : Int) ≤ 6), ()), ()))
 | .inr v3 =>
 some (((v3.1, ()), ()))
 )
noncomputable def R.impl_OpOK (K : Nat) (p0 : (Int) × R.T37) : Option (((Bool) × Unit) × Unit) :=
 obind (R.impl_NameOK K p0.2.2.1) fun v2 =>
 bif !v2.1.1 then
 some (((Bool.false, ()), ()))
 else
 bif p0.1 != 5 then
 bif !p0.2.2.2.1 == Array.toList (ByteArray.data (ByteArray.mk #[])) then
 some (((Bool.false, ()), ()))
 else
 bif p0.1 != 3 then
 bif Decidable.decide ((↑(List.length p0.2.2.2.2) : Int) > 0) then
 some (((Bool.false, ()), ()))
 else
 bif p0.1 == 1 then
 bif p0.1 == 1 then
 obind (R.impl_isHead K p0.2.1) fun v10 =>
 some (((v10.1.1, ()), ()))
 else
 bif p0.1 == 2 then
 bif p0.1 == 2 then
 some (((p0.2.1 == 0, ()), ()))
 else
 bif p0.1 == 3 then
 obind (R.impl_within K p0.2.1 0 60) fun v13 =>
 bif v13.1.1 then
 obind (R.impl_EditsOK K p0.2.2.2.2) fun v15 =>
 some (((v15.1.1, ()), ()))
 else
 some (((Bool.false, ()), ()))
 else
 bif p0.1 == 5 then
 bif p0.2.1 == 0 then
 obind (R.impl_NameOK K p0.2.2.2.1) fun v15 =>
 some (((v15.1.1, ()), ()))
 else
 some (((Bool.false, ()), ()))
 else
 some (((Bool.false, ()), ()))
 else
 bif p0.1 == 6 then
 some (((p0.2.1 == 0, ()), ()))
 else
 bif p0.1 == 3 then
 obind (R.impl_within K p0.2.1 0 60) fun v13 =>
 bif v13.1.1 then
 obind (R.impl_EditsOK K p0.2.2.2.2) fun v15 =>
 some (((v15.1.1, ()), ()))
 else
 some (((Bool.false, ()), ()))
 else
 bif p0.1 == 5 then
 bif p0.2.1 == 0 then
 obind (R.impl_NameOK K p0.2.2.2.1) fun v15 =>
 some (((v15.1.1, ()), ()))
 else
 some (((Bool.false, ()), ()))
 else
 some (((Bool.false, ()), ()))
 else
 bif p0.1 == 4 then
 obind (R.impl_isHead K p0.2.1) fun v10 =>
 some (((v10.1.1, ()), ()))
 else
 bif p0.1 == 2 then
 bif p0.1 == 2 then
 some (((p0.2.1 == 0, ()), ()))
 else
 bif p0.1 == 3 then
 obind (R.impl_within K p0.2.1 0 60) fun v13 =>
 bif v13.1.1 then
 obind (R.impl_EditsOK K p0.2.2.2.2) fun v15 =>
 some (((v15.1.1, ()), ()))
 else
 some (((Bool.false, ()), ()))
 else
 bif p0.1 == 5 then
 bif p0.2.1 == 0 then
 obind (R.impl_NameOK K p0.2.2.2.1) fun v15 =>
 some (((v15.1.1, ()), ()))
 else
 some (((Bool.false, ()), ()))
 else
 some (((Bool.false, ()), ()))
 else
 bif p0.1 == 6 then
 some (((p0.2.1 == 0, ()), ()))
 else
 bif p0.1 == 3 then
 obind (R.impl_within K p0.2.1 0 60) fun v13 =>
 bif v13.1.1 then
 obind (R.impl_EditsOK K p0.2.2.2.2) fun v15 =>
 some (((v15.1.1, ()), ()))
 else
 some (((Bool.false, ()), ()))
 else
 bif p0.1 == 5 then
 bif p0.2.1 == 0 then
 obind (R.impl_NameOK K p0.2.2.2.1) fun v15 =>
 some (((v15.1.1, ()), ()))
 else
 some (((Bool.false, ()), ()))
 else
 some (((Bool.false, ()), ()))
 else
 bif p0.1 == 1 then
 bif p0.1 == 1 then
 obind (R.impl_isHead K p0.2.1) fun v9 =>
 some (((v9.1.1, ()), ()))
 else
 bif p0.1 == 2 then
 bif p0.1 == 2 then
 some (((p0.2.1 == 0, ()), ()))
 else
 bif p0.1 == 3 then
 obind (R.impl_within K p0.2.1 0 60) fun v12 =>
 bif v12.1.1 then
 obind (R.impl_EditsOK K p0.2.2.2.2) fun v14 =>
 some (((v14.1.1, ()), ()))
 else
 some (((Bool.false, ()), ()))
 else
 bif p0.1 == 5 then
 bif p0.2.1 == 0 then
 obind (R.impl_NameOK K p0.2.2.2.1) fun v14 =>
 some (((v14.1.1, ()), ()))
 else
 some (((Bool.false, ()), ()))
 else
 some (((Bool.false, ()), ()))
 else
 bif p0.1 == 6 then
 some (((p0.2.1 == 0, ()), ()))
 else
 bif p0.1 == 3 then
 obind (R.impl_within K p0.2.1 0 60) fun v12 =>
 bif v12.1.1 then
 obind (R.impl_EditsOK K p0.2.2.2.2) fun v14 =>
 some (((v14.1.1, ()), ()))
 else
 some (((Bool.false, ()), ()))
 else
 bif p0.1 == 5 then
 bif p0.2.1 == 0 then
 obind (R.impl_NameOK K p0.2.2.2.1) fun v14 =>
 some (((v14.1.1, ()), ()))
 else
 some (((Bool.false, ()), ()))
 else
 some (((Bool.false, ()), ()))
 else
 bif p0.1 == 4 then
 obind (R.impl_isHead K p0.2.1) fun v9 =>
 some (((v9.1.1, ()), ()))
 else
 bif p0.1 == 2 then
 bif p0.1 == 2 then
 some (((p0.2.1 == 0, ()), ()))
 else
 bif p0.1 == 3 then
 obind (R.impl_within K p0.2.1 0 60) fun v12 =>
 bif v12.1.1 then
 obind (R.impl_EditsOK K p0.2.2.2.2) fun v14 =>
 some (((v14.1.1, ()), ()))
 else
 some (((Bool.false, ()), ()))
 else
 bif p0.1 == 5 then
 bif p0.2.1 == 0 then
 obind (R.impl_NameOK K p0.2.2.2.1) fun v14 =>
 some (((v14.1.1, ()), ()))
 else
 some (((Bool.false, ()), ()))
 else
 some (((Bool.false, ()), ()))
 else
 bif p0.1 == 6 then
 some (((p0.2.1 == 0, ()), ()))
 else
 bif p0.1 == 3 then
 obind (R.impl_within K p0.2.1 0 60) fun v12 =>
 bif v12.1.1 then
 obind (R.impl_EditsOK K p0.2.2.2.2) fun v14 =>
 some (((v14.1.1, ()), ()))
 else
 some (((Bool.false, ()), ()))
 else
 bif p0.1 == 5 then
 bif p0.2.1 == 0 then
 obind (R.impl_NameOK K p0.2.2.2.1) fun v14 =>
 some (((v14.1.1, ()), ()))
 else
 some (((Bool.false, ()), ()))
 else
 some (((Bool.false, ()), ()))
 else
 bif p0.1 != 3 then
 bif Decidable.decide ((↑(List.length p0.2.2.2.2) : Int) > 0) then
 some (((Bool.false, ()), ()))
 else
 bif p0.1 == 1 then
 bif p0.1 == 1 then
 obind (R.impl_isHead K p0.2.1) fun v9 =>
 some (((v9.1.1, ()), ()))
 else
 bif p0.1 == 2 then
 bif p0.1 == 2 then
 some (((p0.2.1 == 0, ()), ()))
 else
 bif p0.1 == 3 then
 obind (R.impl_within K p0.2.1 0 60) fun v12 =>
 bif v12.1.1 then
 obind (R.impl_EditsOK K p0.2.2.2.2) fun v14 =>
 some (((v14.1.1, ()), ()))
 else
 some (((Bool.false, ()), ()))
 else
 bif p0.1 == 5 then
 bif p0.2.1 == 0 then
 obind (R.impl_NameOK K p0.2.2.2.1) fun v14 =>
 some (((v14.1.1, ()), ()))
 else
 some (((Bool.false, ()), ()))
 else
 some (((Bool.false, ()), ()))
 else
 bif p0.1 == 6 then
 some (((p0.2.1 == 0, ()), ()))
 else
 bif p0.1 == 3 then
 obind (R.impl_within K p0.2.1 0 60) fun v12 =>
 bif v12.1.1 then
 obind (R.impl_EditsOK K p0.2.2.2.2) fun v14 =>
 some (((v14.1.1, ()), ()))
 else
 some (((Bool.false, ()), ()))
 else
 bif p0.1 == 5 then
 bif p0.2.1 == 0 then
 obind (R.impl_NameOK K p0.2.2.2.1) fun v14 =>
 some (((v14.1.1, ()), ()))
 else
 some (((Bool.false, ()), ()))
 else
 some (((Bool.false, ()), ()))
 else
 bif p0.1 == 4 then
 obind (R.impl_isHead K p0.2.1) fun v9 =>
 some (((v9.1.1, ()), ()))
 else
 bif p0.1 == 2 then
 bif p0.1 == 2 then
 some (((p0.2.1 == 0, ()), ()))
 else
 bif p0.1 == 3 then
 obind (R.impl_within K p0.2.1 0 60) fun v12 =>
 bif v12.1.1 then
 obind (R.impl_EditsOK K p0.2.2.2.2) fun v14 =>
 some (((v14.1.1, ()), ()))
 else
 some (((Bool.false, ()), ()))
 else
 bif p0.1 == 5 then
 bif p0.2.1 == 0 then
 obind (R.impl_NameOK K p0.2.2.2.1) fun v14 =>
 some (((v14.1.1, ()), ()))
 else
 some (((Bool.false, ()), ()))
 else
 some (((Bool.false, ()), ()))
 else
 bif p0.1 == 6 then
 some (((p0.2.1 == 0, ()), ()))
 else
 bif p0.1 == 3 then
 obind (R.impl_within K p0.2.1 0 60) fun v12 =>
 bif v12.1.1 then
 obind (R.impl_EditsOK K p0.2.2.2.2) fun v14 =>
 some (((v14.1.1, ()), ()))
 else
 some (((Bool.false, ()), ()))
 else
 bif p0.1 == 5 then
 bif p0.2.1 == 0 then
 obind (R.impl_NameOK K p0.2.2.2.1) fun v14 =>
 some (((v14.1.1, ()), ()))
 else
 some (((Bool.false, ()), ()))
 else
 some (((Bool.false, ()), ()))
 else
 bif p0.1 == 1 then
 bif p0.1 == 1 then
 obind (R.impl_isHead K p0.2.1) fun v8 =>
 some (((v8.1.1, ()), ()))
 else
 bif p0.1 == 2 then
 bif p0.1 == 2 then
 some (((p0.2.1 == 0, ()), ()))
 else
 bif p0.1 == 3 then
 obind (R.impl_within K p0.2.1 0 60) fun v11 =>
 bif v11.1.1 then
 obind (R.impl_EditsOK K p0.2.2.2.2) fun v13 =>
 some (((v13.1.1, ()), ()))
 else
 some (((Bool.false, ()), ()))
 else
 bif p0.1 == 5 then
 bif p0.2.1 == 0 then
 obind (R.impl_NameOK K p0.2.2.2.1) fun v13 =>
 some (((v13.1.1, ()), ()))
 else
 some (((Bool.false, ()), ()))
 else
 some (((Bool.false, ()), ()))
 else
 bif p0.1 == 6 then
 some (((p0.2.1 == 0, ()), ()))
 else
 bif p0.1 == 3 then
 obind (R.impl_within K p0.2.1 0 60) fun v11 =>
 bif v11.1.1 then
 obind (R.impl_EditsOK K p0.2.2.2.2) fun v13 =>
 some (((v13.1.1, ()), ()))
 else
 some (((Bool.false, ()), ()))
 else
 bif p0.1 == 5 then
 bif p0.2.1 == 0 then
 obind (R.impl_NameOK K p0.2.2.2.1) fun v13 =>
 some (((v13.1.1, ()), ()))
 else
 some (((Bool.false, ()), ()))
 else
 some (((Bool.false, ()), ()))
 else
 bif p0.1 == 4 then
 obind (R.impl_isHead K p0.2.1) fun v8 =>
 some (((v8.1.1, ()), ()))
 else
 bif p0.1 == 2 then
 bif p0.1 == 2 then
 some (((p0.2.1 == 0, ()), ()))
 else
 bif p0.1 == 3 then
 obind (R.impl_within K p0.2.1 0 60) fun v11 =>
 bif v11.1.1 then
 obind (R.impl_EditsOK K p0.2.2.2.2) fun v13 =>
 some (((v13.1.1, ()), ()))
 else
 some (((Bool.false, ()), ()))
 else
 bif p0.1 == 5 then
 bif p0.2.1 == 0 then
 obind (R.impl_NameOK K p0.2.2.2.1) fun v13 =>
 some (((v13.1.1, ()), ()))
 else
 some (((Bool.false, ()), ()))
 else
 some (((Bool.false, ()), ()))
 else
 bif p0.1 == 6 then
 some (((p0.2.1 == 0, ()), ()))
 else
 bif p0.1 == 3 then
 obind (R.impl_within K p0.2.1 0 60) fun v11 =>
 bif v11.1.1 then
 obind (R.impl_EditsOK K p0.2.2.2.2) fun v13 =>
 some (((v13.1.1, ()), ()))
 else
 some (((Bool.false, ()), ()))
 else
 bif p0.1 == 5 then
 bif p0.2.1 == 0 then
 obind (R.impl_NameOK K p0.2.2.2.1) fun v13 =>
 some (((v13.1.1, ()), ()))
 else
 some (((Bool.false, ()), ()))
 else
 some (((Bool.false, ()), ()))
noncomputable def R.impl_WishOK (K : Nat) (p0 : (Int) × R.T39) : Option (((Bool) × Unit) × Unit) :=
 obind (R.impl_hasSource K p0.1) fun v2 =>
 bif !v2.1.1 then
 bif p0.2.2.1 == Array.toList (ByteArray.data (ByteArray.mk #[])) then
 obind (R.impl_Wish_op K p0 0) fun v5 =>
 obind (R.impl_OpOK K v5.1.1) fun v6 =>
 some (((v6.1.1, ()), ()))
 else
 some (((Bool.false, ()), ()))
 else
 obind (R.impl_NameOK K p0.2.2.1) fun v4 =>
 bif v4.1.1 then
 obind (R.impl_Wish_op K p0 1) fun v6 =>
 obind (R.impl_OpOK K v6.1.1) fun v7 =>
 some (((v7.1.1, ()), ()))
 else
 some (((Bool.false, ()), ()))
noncomputable def R.impl_Client_isFresh (K : Nat) (p0 : R.T48 × R.T43) : Option (((Bool) × Unit) × Unit) :=
 bif p0.2.2.2.1 == 0 then
 bif p0.2.2.2.2.1 == 0 then
 bif p0.2.2.2.2.2.1 == 0 then
 bif p0.2.2.2.2.2.2.1 == 0 then
 bif p0.2.2.2.2.2.2.2.1 == 0 then
 some ((((↑(List.length p0.2.2.2.2.2.2.2.2) : Int) == 0, ()), ()))
 else
 some (((Bool.false, ()), ()))
 else
 some (((Bool.false, ()), ()))
 else
 some (((Bool.false, ()), ()))
 else
 some (((Bool.false, ()), ()))
 else
 some (((Bool.false, ()), ()))
noncomputable def R.impl_Client_isDone (K : Nat) (p0 : R.T48 × R.T43) : Option (((Bool) × Unit) × Unit) :=
 some (((p0.2.1 == (↑(List.length p0.1) : Int), ()), ()))
noncomputable def R.impl_Client_wish (K : Nat) (p0 : R.T48 × R.T43) : Option ((R.T45 × Unit) × Unit) :=
 bif Decidable.decide (0 ≤ p0.2.1) && Decidable.decide (p0.2.1 < (↑(List.length p0.1) : Int)) then
 some (((List.getD p0.1 (Int.toNat p0.2.1) (0, [], [], [], []), ()), ()))
 else
 none
noncomputable def R.slices_Clone_impl_Entry (K : Nat) (p0 : List ((List UInt8) × (Int))) : Option R.T7 :=
 bif List.isEmpty p0 then
 Fw.alt (
 some ((([], ()), ()))
 ) (
 bif Nat.ble (0 + List.length p0) 268435456 then
 some (((p0, ()), ()))
 else
 none
 )
 else
 bif Nat.ble (0 + List.length p0) 268435456 then
 some (((p0, ()), ()))
 else
 none
noncomputable def R.strings_Compare (K : Nat) (p0 : List UInt8) (p1 : List UInt8) : Option (((Int) × Unit) × Unit) := Fw.cmpF p0 p1
noncomputable def R.impl_find_1 (K : Nat) (p0 : (List UInt8) × (Int)) (p1 : List UInt8) : Option (((Int) × Unit) × Unit) :=
 some (((Go.Lib.compareBytes p0.1 p1, ()), ()))
noncomputable def R.L_slices_BinarySearchFunc_impl_Entry_string__impl_find_1_0 (K : Nat) : Nat → ((List ((List UInt8) × (Int))) × ((List UInt8) × ((Int) × ((Bool) × ((Int) × ((Int) × ((Int) × Unit))))))) → Option (((List ((List UInt8) × (Int))) × ((List UInt8) × ((Int) × ((Bool) × ((Int) × ((Int) × Unit)))))) ⊕ Unit)
 | 0, _ => none
 | n + 1, (q0, (q1, (q2, (q3, (q4, (q5, (q6, ()))))))) =>
 bif Decidable.decide (q5 < q6) then
 bif Decidable.decide (0 ≤ Go.IntKind.wrap Go.IntKind.i64 (Fw.shrOf (Go.IntKind.wrap Go.IntKind.u64 (Go.IntKind.wrap Go.IntKind.i64 (q5 + q6))) (Min.min (Int.toNat 1) (Go.IntKind.bits Go.IntKind.u64)))) && Decidable.decide (Go.IntKind.wrap Go.IntKind.i64 (Fw.shrOf (Go.IntKind.wrap Go.IntKind.u64 (Go.IntKind.wrap Go.IntKind.i64 (q5 + q6))) (Min.min (Int.toNat 1) (Go.IntKind.bits Go.IntKind.u64))) < (↑(List.length q0) : Int)) then
 bif Decidable.decide (Go.Lib.compareBytes (Prod.fst (List.getD q0 (Int.toNat (Go.IntKind.wrap Go.IntKind.i64 (Fw.shrOf (Go.IntKind.wrap Go.IntKind.u64 (Go.IntKind.wrap Go.IntKind.i64 (q5 + q6))) (Min.min (Int.toNat 1) (Go.IntKind.bits Go.IntKind.u64))))) ([], 0))) q1 < 0) then
 R.L_slices_BinarySearchFunc_impl_Entry_string__impl_find_1_0 K n (q0, q1, q2, q3, q4, Go.IntKind.wrap Go.IntKind.i64 (Go.IntKind.wrap Go.IntKind.i64 (Fw.shrOf (Go.IntKind.wrap Go.IntKind.u64 (Go.IntKind.wrap Go.IntKind.i64 (q5 + q6))) (Min.min (Int.toNat 1) (Go.IntKind.bits Go.IntKind.u64))) + 1), q6, ())
 else
 R.L_slices_BinarySearchFunc_impl_Entry_string__impl_find_1_0 K n (q0, q1, q2, q3, q4, q5, Go.IntKind.wrap Go.IntKind.i64 (Fw.shrOf (Go.IntKind.wrap Go.IntKind.u64 (Go.IntKind.wrap Go.IntKind.i64 (q5 + q6))) (Min.min (Int.toNat 1) (Go.IntKind.bits Go.IntKind.u64))), ())
 else
 none
 else
 some (Sum.inl (q0, q1, q2, q3, q4, q5, ()))
noncomputable def R.slices_BinarySearchFunc_impl_Entry_string__impl_find_1 (K : Nat) (p0 : List ((List UInt8) × (Int))) (p1 : List UInt8) : Option (((Int) × ((Bool) × Unit)) × Unit) :=
 obind (R.L_slices_BinarySearchFunc_impl_Entry_string__impl_find_1_0 K K (p0, p1, 0, Bool.false, (↑(List.length p0) : Int), 0, (↑(List.length p0) : Int), ())) fun v2 =>
 (match v2 with
 | .inl v3 =>
 bif Decidable.decide (v3.2.2.2.2.2.1 < v3.2.2.2.2.1) then
 bif Decidable.decide (0 ≤ v3.2.2.2.2.2.1) && Decidable.decide (v3.2.2.2.2.2.1 < (↑(List.length v3.1) : Int)) then
 some (((v3.2.2.2.2.2.1, Go.Lib.compareBytes (Prod.fst (List.getD v3.1 (Int.toNat v3.2.2.2.2.2.1) ([], 0))) v3.2.1 == 0, ()), ()))
 else
 none
 else
 some (((v3.2.2.2.2.2.1, Bool.false, ()), ()))
 | .inr v3 =>
 none
 )
noncomputable def R.impl_find (K : Nat) (p0 : List ((List UInt8) × (Int))) (p1 : List UInt8) : Option (((Int) × ((Bool) × Unit)) × Unit) :=
 obind (R.slices_BinarySearchFunc_impl_Entry_string__impl_find_1 K p0 p1) fun v2 =>
 some (((v2.1.1, v2.1.2.1, ()), ()))
noncomputable def R.slices_Delete_impl_Entry (K : Nat) (p0 : List ((List UInt8) × (Int))) (p1 : Int) (p2 : Int) : Option R.T7 := Fw.delF p0 p1 p2
noncomputable def R.slices_Insert_impl_Entry (K : Nat) (p0 : List ((List UInt8) × (Int))) (p1 : Int) (p2 : List ((List UInt8) × (Int))) : Option R.T7 := Fw.insF p0 p1 p2
noncomputable def R.L_impl_edited_0 (K : Nat) : Nat → (R.T0 × ((Int) × R.T35)) → Option R.T33
 | 0, _ => none
 | n + 1, (q0, (q1, (q2, (q3, (q4, ()))))) =>
 bif Decidable.decide (q2 < q1) then
 bif Decidable.decide (0 ≤ q2) && Decidable.decide (q2 < (↑(List.length q0) : Int)) then
 obind (R.impl_find K q4 (Prod.fst (List.getD q0 (Int.toNat q2) ([], 0, Bool.false)))) fun v6 =>
 bif v6.1.2.1 then
 obind (R.slices_Delete_impl_Entry K q4 v6.1.1 (Go.IntKind.wrap Go.IntKind.i64 (v6.1.1 + 1))) fun v8 =>
 bif !Prod.snd (Prod.snd (List.getD q0 (Int.toNat q2) ([], 0, Bool.false))) then
 obind (R.slices_Insert_impl_Entry K v8.1.1 v6.1.1 [(Prod.fst (List.getD q0 (Int.toNat q2) ([], 0, Bool.false)), Prod.fst (Prod.snd (List.getD q0 (Int.toNat q2) ([], 0, Bool.false))))]) fun v10 =>
 R.L_impl_edited_0 K n (q0, q1, Go.IntKind.wrap Go.IntKind.i64 (q2 + 1), q3, v10.1.1, ())
 else
 R.L_impl_edited_0 K n (q0, q1, Go.IntKind.wrap Go.IntKind.i64 (q2 + 1), q3, v8.1.1, ())
 else
 bif !Prod.snd (Prod.snd (List.getD q0 (Int.toNat q2) ([], 0, Bool.false))) then
 obind (R.slices_Insert_impl_Entry K q4 v6.1.1 [(Prod.fst (List.getD q0 (Int.toNat q2) ([], 0, Bool.false)), Prod.fst (Prod.snd (List.getD q0 (Int.toNat q2) ([], 0, Bool.false))))]) fun v9 =>
 R.L_impl_edited_0 K n (q0, q1, Go.IntKind.wrap Go.IntKind.i64 (q2 + 1), q3, v9.1.1, ())
 else
 R.L_impl_edited_0 K n (q0, q1, Go.IntKind.wrap Go.IntKind.i64 (q2 + 1), q3, q4, ())
 else
 none
 else
 some (Sum.inl (q3, q4, ()))
noncomputable def R.impl_edited (K : Nat) (p0 : List ((List UInt8) × (Int))) (p1 : List ((List UInt8) × ((Int) × (Bool)))) : Option R.T7 :=
 obind (R.slices_Clone_impl_Entry K p0) fun v2 =>
 obind (R.L_impl_edited_0 K K (p1, (↑(List.length p1) : Int), 0, [], v2.1.1, ())) fun v3 =>
 (match v3 with
 | .inl v4 =>
 some (((v4.2.1, ()), ()))
 | .inr v4 =>
 none
 )
noncomputable def R.impl_limited (K : Nat) (p0 : List ((List UInt8) × (Int))) : Option (((List ((List UInt8) × (Int))) × ((Int) × Unit)) × Unit) :=
 bif Decidable.decide ((↑(List.length p0) : Int) > 12) then
 some ((([], 7, ()), ()))
 else
 some (((p0, 0, ()), ()))
noncomputable def R.slices_SortFunc_impl_Edit (K : Nat) (p0 : List ((List UInt8) × ((Int) × (Bool)))) : Option (Unit × R.T9) := Fw.sortF Fw.keyCmp p0
noncomputable def R.impl_diff_1 (K : Nat) (p0 : (List UInt8) × ((Int) × (Bool))) (p1 : (List UInt8) × ((Int) × (Bool))) : Option (((Int) × Unit) × Unit) :=
 some (((Go.Lib.compareBytes p0.1 p1.1, ()), ()))
noncomputable def R.L_impl_diff_0 (K : Nat) : Nat → ((List ((List UInt8) × (Int))) × R.T57) → Option (((List ((List UInt8) × (Int))) × ((List ((List UInt8) × (Int))) × R.T42)) ⊕ Unit)
 | 0, _ => none
 | n + 1, (q0, (q1, (q2, (q3, (q4, (q5, (q6, ()))))))) =>
 bif Decidable.decide (q4 < q3) then
 bif Decidable.decide (0 ≤ q4) && Decidable.decide (q4 < (↑(List.length q2) : Int)) then
 obind (R.impl_find K q0 (Prod.fst (List.getD q2 (Int.toNat q4) ([], 0)))) fun v6 =>
 bif !v6.1.2.1 then
 bif Nat.ble (List.length q6 + 1) 268435456 then
 R.L_impl_diff_0 K n (q0, q1, q2, q3, Go.IntKind.wrap Go.IntKind.i64 (q4 + 1), q5, q6 ++ [(Prod.fst (List.getD q2 (Int.toNat q4) ([], 0)), Prod.snd (List.getD q2 (Int.toNat q4) ([], 0)), Bool.false)], ())
 else
 none
 else
 bif Decidable.decide (0 ≤ v6.1.1) && Decidable.decide (v6.1.1 < (↑(List.length q0) : Int)) then
 bif Prod.snd (List.getD q0 (Int.toNat v6.1.1) ([], 0)) != Prod.snd (List.getD q2 (Int.toNat q4) ([], 0)) then
 bif Nat.ble (List.length q6 + 1) 268435456 then
 R.L_impl_diff_0 K n (q0, q1, q2, q3, Go.IntKind.wrap Go.IntKind.i64 (q4 + 1), q5, q6 ++ [(Prod.fst (List.getD q2 (Int.toNat q4) ([], 0)), Prod.snd (List.getD q2 (Int.toNat q4) ([], 0)), Bool.false)], ())
 else
 none
 else
 R.L_impl_diff_0 K n (q0, q1, q2, q3, Go.IntKind.wrap Go.IntKind.i64 (q4 + 1), q5, q6, ())
 else
 none
 else
 none
 else
 some (Sum.inl (q0, q1, q5, q6, ()))
noncomputable def R.L_impl_diff_1 (K : Nat) : Nat → R.T57 → Option R.T46
 | 0, _ => none
 | n + 1, (q0, (q1, (q2, (q3, (q4, (q5, ())))))) =>
 bif Decidable.decide (q3 < q2) then
 bif Decidable.decide (0 ≤ q3) && Decidable.decide (q3 < (↑(List.length q1) : Int)) then
 obind (R.impl_find K q0 (Prod.fst (List.getD q1 (Int.toNat q3) ([], 0)))) fun v6 =>
 bif !v6.1.2.1 then
 bif Nat.ble (List.length q5 + 1) 268435456 then
 R.L_impl_diff_1 K n (q0, q1, q2, Go.IntKind.wrap Go.IntKind.i64 (q3 + 1), q4, q5 ++ [(Prod.fst (List.getD q1 (Int.toNat q3) ([], 0)), 0, Bool.true)], ())
 else
 none
 else
 R.L_impl_diff_1 K n (q0, q1, q2, Go.IntKind.wrap Go.IntKind.i64 (q3 + 1), q4, q5, ())
 else
 none
 else
 some (Sum.inl (q4, q5, ()))
noncomputable def R.impl_diff (K : Nat) (p0 : List ((List UInt8) × (Int))) (p1 : List ((List UInt8) × (Int))) : Option R.T18 :=
 obind (R.L_impl_diff_0 K K (p0, p1, p1, (↑(List.length p1) : Int), 0, [], [], ())) fun v2 =>
 (match v2 with
 | .inl v3 =>
 obind (R.L_impl_diff_1 K K (v3.2.1, v3.1, (↑(List.length v3.1) : Int), 0, v3.2.2.1, v3.2.2.2.1, ())) fun v4 =>
 (match v4 with
 | .inl v5 =>
 obind (R.slices_SortFunc_impl_Edit K v5.2.1) fun v6 =>
 some (((v6.2.1, ()), ()))
 | .inr v5 =>
 none
 )
 | .inr v3 =>
 none
 )
noncomputable def R.L_impl_merge_40 (K : Nat) : Nat → ((List ((List UInt8) × (Int))) × ((List ((List UInt8) × (Int))) × ((List ((List UInt8) × (Int))) × ((Int) × ((Int) × ((Int) × ((List ((List UInt8) × (Int))) × ((List (List UInt8)) × (R.T17 × R.T9))))))))) → Option (((List ((List UInt8) × (Int))) × ((List ((List UInt8) × (Int))) × ((List ((List UInt8) × (Int))) × ((Int) × ((List ((List UInt8) × (Int))) × ((List (List UInt8)) × (R.T17 × Unit))))))) ⊕ Unit)
 | 0, _ => none
 | n + 1, (q0, (q1, (q2, (q3, (q4, (q5, (q6, (q7, (q8, (q9, ())))))))))) =>
 bif Decidable.decide (q5 < q4) then
 bif Decidable.decide (0 ≤ q5) && Decidable.decide (q5 < (↑(List.length q9) : Int)) then
 R.L_impl_merge_40 K n (q0, q1, q2, q3, q4, Go.IntKind.wrap Go.IntKind.i64 (q5 + 1), q6, q7, Fw.putM q8 (Prod.fst (List.getD q9 (Int.toNat q5) ([], 0, Bool.false))) (List.getD q9 (Int.toNat q5) ([], 0, Bool.false)), q9, ())
 else
 none
 else
 some (Sum.inl (q0, q1, q2, q3, q6, q7, q8, ()))
noncomputable def R.L_impl_merge_41 (K : Nat) : Nat → ((List ((List UInt8) × (Int))) × ((Int) × ((Int) × ((Int) × ((List ((List UInt8) × (Int))) × ((List (List UInt8)) × (R.T17 × (R.T0 × R.T29)))))))) → Option (((List ((List UInt8) × (Int))) × ((Int) × ((List ((List UInt8) × (Int))) × ((List (List UInt8)) × (R.T0 × ((List (List UInt8)) × Unit)))))) ⊕ Unit)
 | 0, _ => none
 | n + 1, (q0, (q1, (q2, (q3, (q4, (q5, (q6, (q7, (q8, (q9, ())))))))))) =>
 bif Decidable.decide (q3 < q2) then
 bif Decidable.decide (0 ≤ q3) && Decidable.decide (q3 < (↑(List.length q9) : Int)) then
 bif !Fw.hasM q6 (Prod.fst (List.getD q9 (Int.toNat q3) ([], 0, Bool.false))) then
 bif Nat.ble (List.length q7 + 1) 268435456 then
 R.L_impl_merge_41 K n (q0, q1, q2, Go.IntKind.wrap Go.IntKind.i64 (q3 + 1), q4, q5, q6, q7 ++ [List.getD q9 (Int.toNat q3) ([], 0, Bool.false)], q8, q9, ())
 else
 none
 else
 bif !(Prod.fst (Fw.getM ([], 0, Bool.false) q6 (Prod.fst (List.getD q9 (Int.toNat q3) ([], 0, Bool.false)))) == Prod.fst (List.getD q9 (Int.toNat q3) ([], 0, Bool.false)) && (Prod.fst (Prod.snd (Fw.getM ([], 0, Bool.false) q6 (Prod.fst (List.getD q9 (Int.toNat q3) ([], 0, Bool.false))))) == Prod.fst (Prod.snd (List.getD q9 (Int.toNat q3) ([], 0, Bool.false))) && Prod.snd (Prod.snd (Fw.getM ([], 0, Bool.false) q6 (Prod.fst (List.getD q9 (Int.toNat q3) ([], 0, Bool.false))))) == Prod.snd (Prod.snd (List.getD q9 (Int.toNat q3) ([], 0, Bool.false))))) then
 bif Nat.ble (List.length q8 + 1) 268435456 then
 R.L_impl_merge_41 K n (q0, q1, q2, Go.IntKind.wrap Go.IntKind.i64 (q3 + 1), q4, q5, q6, q7, q8 ++ [Prod.fst (List.getD q9 (Int.toNat q3) ([], 0, Bool.false))], q9, ())
 else
 none
 else
 R.L_impl_merge_41 K n (q0, q1, q2, Go.IntKind.wrap Go.IntKind.i64 (q3 + 1), q4, q5, q6, q7, q8, q9, ())
 else
 none
 else
 some (Sum.inl (q0, q1, q4, q5, q7, q8, ()))
noncomputable def R.impl_merge (K : Nat) (p0 : List ((List UInt8) × (Int))) (p1 : List ((List UInt8) × (Int))) (p2 : List ((List UInt8) × (Int))) : Option R.T34 :=
 obind (R.impl_diff K p0 p1) fun v2 =>
 obind (R.L_impl_merge_40 K K (p0, p1, p2, 0, (↑(List.length v2.1.1) : Int), 0, [], [], [], v2.1.1, ())) fun v3 =>
 (match v3 with
 | .inl v4 =>
 obind (R.impl_diff K v4.1 v4.2.2.1) fun v5 =>
 obind (R.L_impl_merge_41 K K (v4.2.1, v4.2.2.2.1, (↑(List.length v5.1.1) : Int), 0, v4.2.2.2.2.1, v4.2.2.2.2.2.1, v4.2.2.2.2.2.2.1, [], [], v5.1.1, ())) fun v6 =>
 (match v6 with
 | .inl v7 =>
 bif Decidable.decide ((↑(List.length v7.2.2.2.2.2.1) : Int) > 0) then
 some ((([], v7.2.2.2.2.2.1, 11, ()), ()))
 else
 obind (R.impl_edited K v7.1 v7.2.2.2.2.1) fun v9 =>
 obind (R.impl_limited K v9.1.1) fun v10 =>
 some (((v10.1.1, [], v10.1.2.1, ()), ()))
 | .inr v7 =>
 none
 )
 | .inr v4 =>
 none
 )
noncomputable def R.L_slices_Equal_impl_Entry_0 (K : Nat) : Nat → ((List ((List UInt8) × (Int))) × ((List ((List UInt8) × (Int))) × ((Bool) × ((Int) × ((Int) × Unit))))) → Option (((Bool) × Unit) ⊕ ((Bool) × Unit))
 | 0, _ => none
 | n + 1, (q0, (q1, (q2, (q3, (q4, ()))))) =>
 bif Decidable.decide (q4 < q3) then
 bif Decidable.decide (0 ≤ q4) && Decidable.decide (q4 < (↑(List.length q0) : Int)) then
 bif Decidable.decide (0 ≤ q4) && Decidable.decide (q4 < (↑(List.length q1) : Int)) then
 bif !(Prod.fst (List.getD q0 (Int.toNat q4) ([], 0)) == Prod.fst (List.getD q1 (Int.toNat q4) ([], 0)) && Prod.snd (List.getD q0 (Int.toNat q4) ([], 0)) == Prod.snd (List.getD q1 (Int.toNat q4) ([], 0))) then
 some (Sum.inr (Bool.false, ()))
 else
 R.L_slices_Equal_impl_Entry_0 K n (q0, q1, q2, q3, Go.IntKind.wrap Go.IntKind.i64 (q4 + 1), ())
 else
 none
 else
 none
 else
 some (Sum.inl (q2, ()))
noncomputable def R.slices_Equal_impl_Entry (K : Nat) (p0 : List ((List UInt8) × (Int))) (p1 : List ((List UInt8) × (Int))) : Option (((Bool) × Unit) × Unit) :=
 bif (↑(List.length p0) : Int) != (↑(List.length p1) : Int) then
 some (((Bool.false, ()), ()))
 else
 obind (R.L_slices_Equal_impl_Entry_0 K K (p0, p1, Bool.false, (↑(List.length p0) : Int), 0, ())) fun v3 =>
 (match v3 with
 | .inl v4 =>
 some (((Bool.true, ()), ()))
 | .inr v4 =>
 some (((v4.1, ()), ()))
 )
noncomputable def R.impl_planned (K : Nat) (p0 : List ((List UInt8) × (Int))) (p1 : List (List UInt8)) (p2 : Int) (p3 : List (Int)) : Option R.T50 :=
 bif p2 != 0 then
 some ((((Bool.false, [], [], p1, p2), ()), ()))
 else
 some ((((Bool.false, p0, p3, [], 0), ()), ()))
noncomputable def R.impl_Base_commitAt (K : Nat) (p0 : R.T14 × R.T10) (p1 : (Int) × R.T37) (p2 : Int) : Option R.T50 :=
 bif p1.2.1 == 0 then
 bif Decidable.decide (0 ≤ Go.IntKind.wrap Go.IntKind.i64 (p2 - 1)) && Decidable.decide (Go.IntKind.wrap Go.IntKind.i64 (p2 - 1) < (↑(List.length p0.1) : Int)) then
 obind (R.impl_edited K (Prod.snd (List.getD p0.1 (Int.toNat (Go.IntKind.wrap Go.IntKind.i64 (p2 - 1))) ([], []))) p1.2.2.2.2) fun v4 =>
 obind (R.impl_limited K v4.1.1) fun v5 =>
 bif v5.1.2.1 != 0 then
 some ((((Bool.false, [], [], [], v5.1.2.1), ()), ()))
 else
 bif Decidable.decide (0 ≤ Go.IntKind.wrap Go.IntKind.i64 (p2 - 1)) && Decidable.decide (Go.IntKind.wrap Go.IntKind.i64 (p2 - 1) < (↑(List.length p0.1) : Int)) then
 obind (R.impl_merge K (Prod.snd (List.getD p0.1 (Int.toNat (Go.IntKind.wrap Go.IntKind.i64 (p2 - 1))) ([], []))) v5.1.1 (Prod.snd (List.getD p0.1 (Int.toNat (Go.IntKind.wrap Go.IntKind.i64 (p2 - 1))) ([], [])))) fun v8 =>
 bif v8.1.2.2.1 == 0 then
 obind (R.slices_Equal_impl_Entry K v8.1.1 (Prod.snd (List.getD p0.1 (Int.toNat (Go.IntKind.wrap Go.IntKind.i64 (p2 - 1))) ([], [])))) fun v10 =>
 bif v10.1.1 then
 some ((((Bool.false, [], [], v8.1.2.1, 18), ()), ()))
 else
 obind (R.impl_planned K v8.1.1 v8.1.2.1 v8.1.2.2.1 [p2]) fun v12 =>
 some (((v12.1.1, ()), ()))
 else
 obind (R.impl_planned K v8.1.1 v8.1.2.1 v8.1.2.2.1 [p2]) fun v10 =>
 some (((v10.1.1, ()), ()))
 else
 none
 else
 none
 else
 bif Decidable.decide (0 ≤ Go.IntKind.wrap Go.IntKind.i64 (p1.2.1 - 1)) && Decidable.decide (Go.IntKind.wrap Go.IntKind.i64 (p1.2.1 - 1) < (↑(List.length p0.1) : Int)) then
 obind (R.impl_edited K (Prod.snd (List.getD p0.1 (Int.toNat (Go.IntKind.wrap Go.IntKind.i64 (p1.2.1 - 1))) ([], []))) p1.2.2.2.2) fun v4 =>
 obind (R.impl_limited K v4.1.1) fun v5 =>
 bif v5.1.2.1 != 0 then
 some ((((Bool.false, [], [], [], v5.1.2.1), ()), ()))
 else
 bif Decidable.decide (0 ≤ Go.IntKind.wrap Go.IntKind.i64 (p2 - 1)) && Decidable.decide (Go.IntKind.wrap Go.IntKind.i64 (p2 - 1) < (↑(List.length p0.1) : Int)) then
 obind (R.impl_merge K (Prod.snd (List.getD p0.1 (Int.toNat (Go.IntKind.wrap Go.IntKind.i64 (p1.2.1 - 1))) ([], []))) v5.1.1 (Prod.snd (List.getD p0.1 (Int.toNat (Go.IntKind.wrap Go.IntKind.i64 (p2 - 1))) ([], [])))) fun v8 =>
 bif v8.1.2.2.1 == 0 then
 obind (R.slices_Equal_impl_Entry K v8.1.1 (Prod.snd (List.getD p0.1 (Int.toNat (Go.IntKind.wrap Go.IntKind.i64 (p2 - 1))) ([], [])))) fun v10 =>
 bif v10.1.1 then
 some ((((Bool.false, [], [], v8.1.2.1, 18), ()), ()))
 else
 obind (R.impl_planned K v8.1.1 v8.1.2.1 v8.1.2.2.1 [p2]) fun v12 =>
 some (((v12.1.1, ()), ()))
 else
 obind (R.impl_planned K v8.1.1 v8.1.2.1 v8.1.2.2.1 [p2]) fun v10 =>
 some (((v10.1.1, ()), ()))
 else
 none
 else
 none
noncomputable def R.L_impl_ancestors_1 (K : Nat) : Nat → (R.T14 × ((Int) × ((Int) × ((Bool) × ((Int) × ((Int) × ((Bool) × (R.T14 × ((Int) × ((Int) × (R.T5 × (R.T5 × ((List (Int)) × R.T22))))))))))))) → Option ((R.T14 × ((Int) × ((Int) × ((Bool) × ((Int) × ((Int) × ((Bool) × (R.T14 × ((Int) × ((Int) × (R.T5 × (R.T5 × ((List (Int)) × ((Int) × ((Int) × R.T13))))))))))))))) ⊕ Unit)
 | 0, _ => none
 | n + 1, (q0, (q1, (q2, (q3, (q4, (q5, (q6, (q7, (q8, (q9, (q10, (q11, (q12, (q13, (q14, (q15, (q16, ()))))))))))))))))) =>
 bif Decidable.decide (q14 < q13) then
 bif Decidable.decide (0 ≤ q14) && Decidable.decide (q14 < (↑(List.length q12) : Int)) then
 bif Decidable.decide (0 ≤ List.getD q12 (Int.toNat q14) 0) && Decidable.decide (List.getD q12 (Int.toNat q14) 0 < (↑(List.length q16) : Int)) then
 R.L_impl_ancestors_1 K n (q0, q1, q2, q3, q4, (↑(Int.toNat q5) : Int), q6, q7, q8, q9, q10, q11, q12, q13, Go.IntKind.wrap Go.IntKind.i64 (q14 + 1), q15, List.set q16 (Int.toNat (List.getD q12 (Int.toNat q14) 0)) Bool.true, ())
 else
 none
 else
 none
 else
 some (Sum.inl (q0, q1, q2, q3, q4, (↑(Int.toNat q5) : Int), q6, q7, q8, q9, q10, q11, q12, q13, q14, Decidable.decide (q14 < q13), q15, q16, ()))
noncomputable def R.L_impl_ancestors_0 (K : Nat) : Nat → (R.T14 × R.T11) → Option (R.T1 ⊕ Unit)
 | 0, _ => none
 | n + 1, (q0, (q1, (q2, (q3, ())))) =>
 bif Decidable.decide (q1 > 0) then
 bif Decidable.decide (0 ≤ q1) && Decidable.decide (q1 < (↑(List.length q3) : Int)) then
 bif List.getD q3 (Int.toNat q1) Bool.false then
 bif Decidable.decide (0 ≤ Go.IntKind.wrap Go.IntKind.i64 (q1 - 1)) && Decidable.decide (Go.IntKind.wrap Go.IntKind.i64 (q1 - 1) < (↑(List.length q0) : Int)) then
 obind (R.L_impl_ancestors_1 K K (q0, q1, q1, Decidable.decide (q1 > 0), q1, (↑(Int.toNat q1) : Int), List.getD q3 (Int.toNat q1) Bool.false, q0, q1, Go.IntKind.wrap Go.IntKind.i64 (q1 - 1), List.getD q0 (Int.toNat (Go.IntKind.wrap Go.IntKind.i64 (q1 - 1))) ([], []), List.getD q0 (Int.toNat (Go.IntKind.wrap Go.IntKind.i64 (q1 - 1))) ([], []), Prod.fst (List.getD q0 (Int.toNat (Go.IntKind.wrap Go.IntKind.i64 (q1 - 1))) ([], [])), (↑(List.length (Prod.fst (List.getD q0 (Int.toNat (Go.IntKind.wrap Go.IntKind.i64 (q1 - 1))) ([], [])))) : Int), 0, q2, q3, ())) fun v8 =>
 (match v8 with
 | .inl v9 =>
 R.L_impl_ancestors_0 K n (v9.1, Go.IntKind.wrap Go.IntKind.i64 (v9.2.1 - 1), v9.2.2.2.2.2.2.2.2.2.2.2.2.2.2.2.2.1, v9.2.2.2.2.2.2.2.2.2.2.2.2.2.2.2.2.2.1, ())
 | .inr v9 =>
 some (Sum.inr ())
 )
 else
 none
 else
 R.L_impl_ancestors_0 K n (q0, Go.IntKind.wrap Go.IntKind.i64 (q1 - 1), q2, q3, ())
 else
 none
 else
 some (Sum.inl (q2, q3, ()))
noncomputable def R.impl_ancestors (K : Nat) (p0 : List R.T5) (p1 : Int) : Option (((List (Bool)) × Unit) × Unit) :=
 bif Decidable.decide (0 ≤ Go.IntKind.wrap Go.IntKind.i64 ((↑(List.length p0) : Int) + 1)) && Decidable.decide (Go.IntKind.wrap Go.IntKind.i64 ((↑(List.length p0) : Int) + 1) ≤ Go.IntKind.wrap Go.IntKind.i64 ((↑(List.length p0) : Int) + 1)) && Decidable.decide (Go.IntKind.wrap Go.IntKind.i64 ((↑(List.length p0) : Int) + 1) ≤ (↑268435456 : Int)) then
 bif Decidable.decide (0 ≤ p1) && Decidable.decide (p1 < (↑(List.length (List.replicate (Int.toNat (Go.IntKind.wrap Go.IntKind.i64 ((↑(List.length p0) : Int) + 1))) Bool.false)) : Int)) then
 obind (R.L_impl_ancestors_0 K K (p0, p1, [], List.set (List.replicate (Int.toNat (Go.IntKind.wrap Go.IntKind.i64 ((↑(List.length p0) : Int) + 1))) Bool.false) (Int.toNat p1) Bool.true, ())) fun v4 =>
 (match v4 with
 | .inl v5 =>
 some (((v5.2.1, ()), ()))
 | .inr v5 =>
 none
 )
 else
 none
 else
 none
noncomputable def R.L_impl_baseOf_0 (K : Nat) : Nat → R.T22 → Option (((Int) × ((Int) × Unit)) ⊕ Unit)
 | 0, _ => none
 | n + 1, (q0, (q1, (q2, (q3, ())))) =>
 bif Decidable.decide (0 ≤ q1) && Decidable.decide (q1 < (↑(List.length q2) : Int)) then
 bif !List.getD q2 (Int.toNat q1) Bool.false then
 R.L_impl_baseOf_0 K n (q0, Go.IntKind.wrap Go.IntKind.i64 (q1 - 1), q2, q3, ())
 else
 bif Decidable.decide (0 ≤ q1) && Decidable.decide (q1 < (↑(List.length q3) : Int)) then
 bif !List.getD q3 (Int.toNat q1) Bool.false then
 R.L_impl_baseOf_0 K n (q0, Go.IntKind.wrap Go.IntKind.i64 (q1 - 1), q2, q3, ())
 else
 some (Sum.inl (q0, q1, ()))
 else
 none
 else
 none
noncomputable def R.impl_baseOf (K : Nat) (p0 : List R.T5) (p1 : Int) (p2 : Int) : Option (((Int) × Unit) × Unit) :=
 obind (R.impl_ancestors K p0 p1) fun v2 =>
 obind (R.impl_ancestors K p0 p2) fun v3 =>
 obind (R.L_impl_baseOf_0 K K (0, bif Decidable.decide (p2 < p1) then p2 else p1, v2.1.1, v3.1.1, ())) fun v4 =>
 (match v4 with
 | .inl v5 =>
 some (((v5.2.1, ()), ()))
 | .inr v5 =>
 none
 )
noncomputable def R.impl_mergeCommits (K : Nat) (p0 : List R.T5) (p1 : Int) (p2 : Int) : Option R.T34 :=
 obind (R.impl_baseOf K p0 p1 p2) fun v2 =>
 bif Decidable.decide (0 ≤ Go.IntKind.wrap Go.IntKind.i64 (v2.1.1 - 1)) && Decidable.decide (Go.IntKind.wrap Go.IntKind.i64 (v2.1.1 - 1) < (↑(List.length p0) : Int)) then
 bif Decidable.decide (0 ≤ Go.IntKind.wrap Go.IntKind.i64 (p1 - 1)) && Decidable.decide (Go.IntKind.wrap Go.IntKind.i64 (p1 - 1) < (↑(List.length p0) : Int)) then
 bif Decidable.decide (0 ≤ Go.IntKind.wrap Go.IntKind.i64 (p2 - 1)) && Decidable.decide (Go.IntKind.wrap Go.IntKind.i64 (p2 - 1) < (↑(List.length p0) : Int)) then
 obind (R.impl_merge K (Prod.snd (List.getD p0 (Int.toNat (Go.IntKind.wrap Go.IntKind.i64 (v2.1.1 - 1))) ([], []))) (Prod.snd (List.getD p0 (Int.toNat (Go.IntKind.wrap Go.IntKind.i64 (p1 - 1))) ([], []))) (Prod.snd (List.getD p0 (Int.toNat (Go.IntKind.wrap Go.IntKind.i64 (p2 - 1))) ([], [])))) fun v6 =>
 some (((v6.1.1, v6.1.2.1, v6.1.2.2.1, ()), ()))
 else
 none
 else
 none
 else
 none
noncomputable def R.impl_Base_planAt (K : Nat) (p0 : R.T14 × R.T10) (p1 : (Int) × R.T37) (p2 : Int) : Option R.T50 :=
 bif p1.1 == 3 then
 obind (R.impl_Base_commitAt K p0 p1 p2) fun v3 =>
 some (((v3.1.1, ()), ()))
 else
 obind (R.impl_baseOf K p0.1 p2 p1.2.1) fun v3 =>
 bif v3.1.1 == p1.2.1 then
 some ((((Bool.false, [], [], [], 18), ()), ()))
 else
 bif v3.1.1 == p2 then
 some ((((Bool.true, [], [], [], 0), ()), ()))
 else
 obind (R.impl_mergeCommits K p0.1 p2 p1.2.1) fun v6 =>
 obind (R.impl_planned K v6.1.1 v6.1.2.1 v6.1.2.2.1 [p2, p1.2.1]) fun v7 =>
 some (((v7.1.1, ()), ()))
noncomputable def R.impl_flag (K : Nat) (p0 : Bool) : Option (((Int) × Unit) × Unit) :=
 bif p0 then
 some (((1, ()), ()))
 else
 some (((0, ()), ()))
noncomputable def R.impl_Client_isPossible (K : Nat) (p0 : R.T48 × R.T43) (p1 : R.T14 × R.T10) : Option (((Bool) × Unit) × Unit) :=
 bif p0.2.2.1 == 0 then
 obind (R.impl_Client_isFresh K p0) fun v3 =>
 some (((v3.1.1, ()), ()))
 else
 obind (R.impl_within K p0.2.2.1 1 2) fun v3 =>
 bif !v3.1.1 then
 some (((Bool.false, ()), ()))
 else
 bif p0.2.1 == (↑(List.length p0.1) : Int) then
 some (((Bool.false, ()), ()))
 else
 obind (R.impl_Client_wish K p0) fun v6 =>
 obind (R.impl_hasSource K v6.1.1.1) fun v7 =>
 bif !v7.1.1 then
 bif v6.1.1.1 != 3 then
 some (((Bool.false, ()), ()))
 else
 obind (R.impl_within K p0.2.2.2.1 1 (↑(List.length p1.1) : Int)) fun v10 =>
 bif !v10.1.1 then
 some (((Bool.false, ()), ()))
 else
 obind (R.impl_within K p0.2.2.2.2.2.2.1 0 3) fun v12 =>
 bif !v12.1.1 then
 some (((Bool.false, ()), ()))
 else
 bif p0.2.2.1 == 1 then
 bif p0.2.2.2.2.1 == 0 then
 bif p0.2.2.2.2.2.1 == 0 then
 bif p0.2.2.2.2.2.2.2.1 == 0 then
 bif (↑(List.length p0.2.2.2.2.2.2.2.2) : Int) == 0 then
 bif v6.1.1.1 != 3 then
 bif v6.1.1.1 != 1 then
 some (((Bool.true, ()), ()))
 else
 some (((p0.2.2.2.2.2.2.1 == 0, ()), ()))
 else
 bif Decidable.decide (p0.2.2.2.2.2.2.1 > 0) then
 bif v6.1.1.1 != 1 then
 some (((Bool.true, ()), ()))
 else
 some (((p0.2.2.2.2.2.2.1 == 0, ()), ()))
 else
 some (((Bool.false, ()), ()))
 else
 some (((Bool.false, ()), ()))
 else
 some (((Bool.false, ()), ()))
 else
 some (((Bool.false, ()), ()))
 else
 some (((Bool.false, ()), ()))
 else
 bif v6.1.1.1 == 1 then
 some (((Bool.false, ()), ()))
 else
 obind (R.impl_within K p0.2.2.2.2.1 1 (↑(List.length p1.1) : Int)) fun v16 =>
 bif !v16.1.1 then
 some (((Bool.false, ()), ()))
 else
 obind (R.impl_within K p0.2.2.2.2.2.1 1 1000000) fun v18 =>
 bif !v18.1.1 then
 some (((Bool.false, ()), ()))
 else
 obind (
 Fw.alt (
 obind (R.impl_Client_wish K p0) fun v23 =>
 Fw.alt (
 obind (R.impl_Wish_op K v23.1.1 p0.2.2.2.1) fun v25 =>
 Fw.dup (
 obind (R.impl_Base_planAt K p1 v25.1.1 p0.2.2.2.2.1) fun v27 =>
 some ((Bool.false, p0.1, p0.2.1, p0.2.2.1, p0.2.2.2.1, p0.2.2.2.2.1, p0.2.2.2.2.2.1, p0.2.2.2.2.2.2.1, p0.2.2.2.2.2.2.2.1, p0.2.2.2.2.2.2.2.2, v27.1.1.1, v27.1.1.2.1, v27.1.1.2.2.1, v27.1.1.2.2.2.1, v27.1.1.2.2.2.2, ()))
 )
 ) (
 obind (R.impl_Wish_op K v23.1.1 p0.2.2.2.1) fun v25 =>
 obind (R.impl_Base_planAt K p1 v25.1.1 p0.2.2.2.2.1) fun v26 =>
 some ((Bool.false, p0.1, p0.2.1, p0.2.2.1, p0.2.2.2.1, p0.2.2.2.2.1, p0.2.2.2.2.2.1, p0.2.2.2.2.2.2.1, p0.2.2.2.2.2.2.2.1, p0.2.2.2.2.2.2.2.2, v26.1.1.1, v26.1.1.2.1, v26.1.1.2.2.1, v26.1.1.2.2.2.1, v26.1.1.2.2.2.2, ()))
 )
 ) (
 obind (R.impl_Client_wish K p0) fun v23 =>
 obind (R.impl_Wish_op K v23.1.1 p0.2.2.2.1) fun v24 =>
 obind (R.impl_Base_planAt K p1 v24.1.1 p0.2.2.2.2.1) fun v25 =>
 some ((Bool.false, p0.1, p0.2.1, p0.2.2.1, p0.2.2.2.1, p0.2.2.2.2.1, p0.2.2.2.2.2.1, p0.2.2.2.2.2.2.1, p0.2.2.2.2.2.2.2.1, p0.2.2.2.2.2.2.2.2, v25.1.1.1, v25.1.1.2.1, v25.1.1.2.2.1, v25.1.1.2.2.2.1, v25.1.1.2.2.2.2, ()))
 )
 ) fun (v20 : Bool × List (Int × List UInt8 × List UInt8 × List UInt8 × List (List UInt8 × Int × Bool)) × Int × Int × Int × Int × Int × Int × Int × List (List UInt8 × Int) × Bool × List (List UInt8 × Int) × List Int × List (List UInt8) × Int × PUnit) =>
 bif v20.2.2.2.2.2.2.2.2.2.2.2.2.2.2.1 == 0 then
 obind (R.impl_flag K v20.2.2.2.2.2.2.2.2.2.2.1) fun v22 =>
 bif v20.2.2.2.2.2.2.2.2.1 == v22.1.1 then
 obind (R.slices_Equal_impl_Entry K v20.2.2.2.2.2.2.2.2.2.1 v20.2.2.2.2.2.2.2.2.2.2.2.1) fun v24 =>
 some (((v24.1.1, ()), ()))
 else
 some (((Bool.false, ()), ()))
 else
 some (((Bool.false, ()), ()))
 else
 obind (R.impl_within K p0.2.2.2.1 1 (↑(List.length p1.1) : Int)) fun v9 =>
 bif !v9.1.1 then
 some (((Bool.false, ()), ()))
 else
 obind (R.impl_within K p0.2.2.2.2.2.2.1 0 3) fun v11 =>
 bif !v11.1.1 then
 some (((Bool.false, ()), ()))
 else
 bif p0.2.2.1 == 1 then
 bif p0.2.2.2.2.1 == 0 then
 bif p0.2.2.2.2.2.1 == 0 then
 bif p0.2.2.2.2.2.2.2.1 == 0 then
 bif (↑(List.length p0.2.2.2.2.2.2.2.2) : Int) == 0 then
 bif v6.1.1.1 != 3 then
 bif v6.1.1.1 != 1 then
 some (((Bool.true, ()), ()))
 else
 some (((p0.2.2.2.2.2.2.1 == 0, ()), ()))
 else
 bif Decidable.decide (p0.2.2.2.2.2.2.1 > 0) then
 bif v6.1.1.1 != 1 then
 some (((Bool.true, ()), ()))
 else
 some (((p0.2.2.2.2.2.2.1 == 0, ()), ()))
 else
 some (((Bool.false, ()), ()))
 else
 some (((Bool.false, ()), ()))
 else
 some (((Bool.false, ()), ()))
 else
 some (((Bool.false, ()), ()))
 else
 some (((Bool.false, ()), ()))
 else
 bif v6.1.1.1 == 1 then
 some (((Bool.false, ()), ()))
 else
 obind (R.impl_within K p0.2.2.2.2.1 1 (↑(List.length p1.1) : Int)) fun v15 =>
 bif !v15.1.1 then
 some (((Bool.false, ()), ()))
 else
 obind (R.impl_within K p0.2.2.2.2.2.1 1 1000000) fun v17 =>
 bif !v17.1.1 then
 some (((Bool.false, ()), ()))
 else
 obind (
 Fw.alt (
 obind (R.impl_Client_wish K p0) fun v22 =>
 Fw.alt (
 obind (R.impl_Wish_op K v22.1.1 p0.2.2.2.1) fun v24 =>
 Fw.dup (
 obind (R.impl_Base_planAt K p1 v24.1.1 p0.2.2.2.2.1) fun v26 =>
 some ((Bool.false, p0.1, p0.2.1, p0.2.2.1, p0.2.2.2.1, p0.2.2.2.2.1, p0.2.2.2.2.2.1, p0.2.2.2.2.2.2.1, p0.2.2.2.2.2.2.2.1, p0.2.2.2.2.2.2.2.2, v26.1.1.1, v26.1.1.2.1, v26.1.1.2.2.1, v26.1.1.2.2.2.1, v26.1.1.2.2.2.2, ()))
 )
 ) (
 obind (R.impl_Wish_op K v22.1.1 p0.2.2.2.1) fun v24 =>
 obind (R.impl_Base_planAt K p1 v24.1.1 p0.2.2.2.2.1) fun v25 =>
 some ((Bool.false, p0.1, p0.2.1, p0.2.2.1, p0.2.2.2.1, p0.2.2.2.2.1, p0.2.2.2.2.2.1, p0.2.2.2.2.2.2.1, p0.2.2.2.2.2.2.2.1, p0.2.2.2.2.2.2.2.2, v25.1.1.1, v25.1.1.2.1, v25.1.1.2.2.1, v25.1.1.2.2.2.1, v25.1.1.2.2.2.2, ()))
 )
 ) (
 obind (R.impl_Client_wish K p0) fun v22 =>
 obind (R.impl_Wish_op K v22.1.1 p0.2.2.2.1) fun v23 =>
 obind (R.impl_Base_planAt K p1 v23.1.1 p0.2.2.2.2.1) fun v24 =>
 some ((Bool.false, p0.1, p0.2.1, p0.2.2.1, p0.2.2.2.1, p0.2.2.2.2.1, p0.2.2.2.2.2.1, p0.2.2.2.2.2.2.1, p0.2.2.2.2.2.2.2.1, p0.2.2.2.2.2.2.2.2, v24.1.1.1, v24.1.1.2.1, v24.1.1.2.2.1, v24.1.1.2.2.2.1, v24.1.1.2.2.2.2, ()))
 )
 ) fun (v19 : Bool × List (Int × List UInt8 × List UInt8 × List UInt8 × List (List UInt8 × Int × Bool)) × Int × Int × Int × Int × Int × Int × Int × List (List UInt8 × Int) × Bool × List (List UInt8 × Int) × List Int × List (List UInt8) × Int × PUnit) =>
 bif v19.2.2.2.2.2.2.2.2.2.2.2.2.2.2.1 == 0 then
 obind (R.impl_flag K v19.2.2.2.2.2.2.2.2.2.2.1) fun v21 =>
 bif v19.2.2.2.2.2.2.2.2.1 == v21.1.1 then
 obind (R.slices_Equal_impl_Entry K v19.2.2.2.2.2.2.2.2.2.1 v19.2.2.2.2.2.2.2.2.2.2.2.1) fun v23 =>
 some (((v23.1.1, ()), ()))
 else
 some (((Bool.false, ()), ()))
 else
 some (((Bool.false, ()), ()))
noncomputable def R.L_impl_areAll_impl_Wish__impl_WishOK_0 (K : Nat) : Nat → (R.T48 × ((Bool) × (R.T48 × (R.T48 × ((Bool) × (R.T48 × (R.T48 × ((Int) × ((Int) × ((Int) × Unit)))))))))) → Option ((R.T48 × ((Bool) × (R.T48 × (R.T48 × ((Bool) × (R.T48 × ((Int) × Unit))))))) ⊕ (R.T48 × ((Bool) × (R.T48 × (R.T48 × ((Bool) × (R.T48 × ((Int) × Unit))))))))
 | 0, _ => none
 | n + 1, (q0, (q1, (q2, (q3, (q4, (q5, (q6, (q7, (q8, (q9, ())))))))))) =>
 bif Decidable.decide (q9 < q8) then
 bif Decidable.decide (0 ≤ q9) && Decidable.decide (q9 < (↑(List.length q6) : Int)) then
 obind (R.impl_WishOK K (List.getD q6 (Int.toNat q9) (0, [], [], [], []))) fun v6 =>
 bif !v6.1.1 then
 some (Sum.inr (q0, q1, q2, q3, q4, q5, q9, ()))
 else
 R.L_impl_areAll_impl_Wish__impl_WishOK_0 K n (q0, q1, q2, q3, q4, q5, q6, q7, q8, Go.IntKind.wrap Go.IntKind.i64 (q9 + 1), ())
 else
 none
 else
 some (Sum.inl (q0, q1, q2, q3, q4, q5, q7, ()))
noncomputable def R.impl_areAll_impl_Wish__impl_WishOK (K : Nat) (p0 : List R.T45) : Option (((Bool) × Unit) × Unit) :=
 obind (R.L_impl_areAll_impl_Wish__impl_WishOK_0 K K (p0, Bool.false, p0, p0, Bool.false, p0, p0, 0, (↑(List.length p0) : Int), 0, ())) fun v2 =>
 (match v2 with
 | .inl v3 =>
 some (((!Decidable.decide (-1 ≥ 0), ()), ()))
 | .inr v3 =>
 some (((!Decidable.decide (v3.2.2.2.2.2.2.1 ≥ 0), ()), ()))
 )
noncomputable def R.impl_Client_isFor (K : Nat) (p0 : R.T48 × R.T43) (p1 : R.T14 × R.T10) : Option (((Bool) × Unit) × Unit) :=
 bif Decidable.decide ((↑(List.length p0.1) : Int) ≤ 6) then
 obind (R.impl_areAll_impl_Wish__impl_WishOK K p0.1) fun v3 =>
 bif v3.1.1 then
 obind (R.impl_within K p0.2.1 0 (↑(List.length p0.1) : Int)) fun v5 =>
 bif v5.1.1 then
 obind (R.impl_Client_isPossible K p0 p1) fun v7 =>
 some (((v7.1.1, ()), ()))
 else
 some (((Bool.false, ()), ()))
 else
 some (((Bool.false, ()), ()))
 else
 some (((Bool.false, ()), ()))
noncomputable def R.impl_ClientOK (K : Nat) (p0 : R.T14 × R.T10) (p1 : R.T48 × R.T43) : Option (((Bool) × Unit) × Unit) :=
 obind (R.impl_BaseOK K p0) fun v2 =>
 bif v2.1.1 then
 obind (R.impl_Client_isFor K p1 p0) fun v4 =>
 some (((v4.1.1, ()), ()))
 else
 some (((Bool.false, ()), ()))
noncomputable def R.L_laws_eqIntS_0 (K : Nat) : Nat → ((List (Int)) × ((List (Int)) × ((Bool) × ((Int) × Unit)))) → Option (((Bool) × Unit) ⊕ ((Bool) × Unit))
 | 0, _ => none
 | n + 1, (q0, (q1, (q2, (q3, ())))) =>
 bif Decidable.decide (q3 < (↑(List.length q0) : Int)) then
 bif Decidable.decide (0 ≤ q3) && Decidable.decide (q3 < (↑(List.length q0) : Int)) then
 bif Decidable.decide (0 ≤ q3) && Decidable.decide (q3 < (↑(List.length q1) : Int)) then
 bif List.getD q0 (Int.toNat q3) 0 != List.getD q1 (Int.toNat q3) 0 then
 some (Sum.inr (Bool.false, ()))
 else
 R.L_laws_eqIntS_0 K n (q0, q1, q2, Go.IntKind.wrap Go.IntKind.i64 (q3 + 1), ())
 else
 none
 else
 none
 else
 some (Sum.inl (q2, ()))
noncomputable def R.laws_eqIntS (K : Nat) (p0 : List (Int)) (p1 : List (Int)) : Option (((Bool) × Unit) × Unit) :=
 bif (↑(List.length p0) : Int) != (↑(List.length p1) : Int) then
 some (((Bool.false, ()), ()))
 else
 obind (R.L_laws_eqIntS_0 K K (p0, p1, Bool.false, 0, ())) fun v3 =>
 (match v3 with
 | .inl v4 =>
 some (((Bool.true, ()), ()))
 | .inr v4 =>
 some (((v4.1, ()), ()))
 )
noncomputable def R.laws_eqEntry (K : Nat) (p0 : (List UInt8) × (Int)) (p1 : (List UInt8) × (Int)) : Option (((Bool) × Unit) × Unit) :=
 bif !p0.1 == p1.1 then
 some (((Bool.false, ()), ()))
 else
 bif p0.2 != p1.2 then
 some (((Bool.false, ()), ()))
 else
 some (((Bool.true, ()), ()))
noncomputable def R.L_laws_eqEntryS_0 (K : Nat) : Nat → ((List ((List UInt8) × (Int))) × R.T21) → Option (((Bool) × Unit) ⊕ ((Bool) × Unit))
 | 0, _ => none
 | n + 1, (q0, (q1, (q2, (q3, ())))) =>
 bif Decidable.decide (q3 < (↑(List.length q0) : Int)) then
 bif Decidable.decide (0 ≤ q3) && Decidable.decide (q3 < (↑(List.length q0) : Int)) then
 bif Decidable.decide (0 ≤ q3) && Decidable.decide (q3 < (↑(List.length q1) : Int)) then
 obind (R.laws_eqEntry K (List.getD q0 (Int.toNat q3) ([], 0)) (List.getD q1 (Int.toNat q3) ([], 0))) fun v7 =>
 bif !v7.1.1 then
 some (Sum.inr (Bool.false, ()))
 else
 R.L_laws_eqEntryS_0 K n (q0, q1, q2, Go.IntKind.wrap Go.IntKind.i64 (q3 + 1), ())
 else
 none
 else
 none
 else
 some (Sum.inl (q2, ()))
noncomputable def R.laws_eqEntryS (K : Nat) (p0 : List ((List UInt8) × (Int))) (p1 : List ((List UInt8) × (Int))) : Option (((Bool) × Unit) × Unit) :=
 bif (↑(List.length p0) : Int) != (↑(List.length p1) : Int) then
 some (((Bool.false, ()), ()))
 else
 obind (R.L_laws_eqEntryS_0 K K (p0, p1, Bool.false, 0, ())) fun v3 =>
 (match v3 with
 | .inl v4 =>
 some (((Bool.true, ()), ()))
 | .inr v4 =>
 some (((v4.1, ()), ()))
 )
noncomputable def R.laws_eqCommit (K : Nat) (p0 : (List (Int)) × (List ((List UInt8) × (Int)))) (p1 : (List (Int)) × (List ((List UInt8) × (Int)))) : Option (((Bool) × Unit) × Unit) :=
 obind (R.laws_eqIntS K p0.1 p1.1) fun v2 =>
 bif !v2.1.1 then
 some (((Bool.false, ()), ()))
 else
 obind (R.laws_eqEntryS K p0.2 p1.2) fun v4 =>
 bif !v4.1.1 then
 some (((Bool.false, ()), ()))
 else
 some (((Bool.true, ()), ()))
noncomputable def R.L_laws_eqCommitS_0 (K : Nat) : Nat → (R.T14 × (R.T14 × ((Bool) × ((Int) × Unit)))) → Option (((Bool) × Unit) ⊕ ((Bool) × Unit))
 | 0, _ => none
 | n + 1, (q0, (q1, (q2, (q3, ())))) =>
 bif Decidable.decide (q3 < (↑(List.length q0) : Int)) then
 bif Decidable.decide (0 ≤ q3) && Decidable.decide (q3 < (↑(List.length q0) : Int)) then
 bif Decidable.decide (0 ≤ q3) && Decidable.decide (q3 < (↑(List.length q1) : Int)) then
 obind (R.laws_eqCommit K (List.getD q0 (Int.toNat q3) ([], [])) (List.getD q1 (Int.toNat q3) ([], []))) fun v7 =>
 bif !v7.1.1 then
 some (Sum.inr (Bool.false, ()))
 else
 R.L_laws_eqCommitS_0 K n (q0, q1, q2, Go.IntKind.wrap Go.IntKind.i64 (q3 + 1), ())
 else
 none
 else
 none
 else
 some (Sum.inl (q2, ()))
noncomputable def R.laws_eqCommitS (K : Nat) (p0 : List R.T5) (p1 : List R.T5) : Option (((Bool) × Unit) × Unit) :=
 bif (↑(List.length p0) : Int) != (↑(List.length p1) : Int) then
 some (((Bool.false, ()), ()))
 else
 obind (R.L_laws_eqCommitS_0 K K (p0, p1, Bool.false, 0, ())) fun v3 =>
 (match v3 with
 | .inl v4 =>
 some (((Bool.true, ()), ()))
 | .inr v4 =>
 some (((v4.1, ()), ()))
 )
noncomputable def R.laws_eqRef (K : Nat) (p0 : (List UInt8) × ((Int) × ((Int) × (Bool)))) (p1 : (List UInt8) × ((Int) × ((Int) × (Bool)))) : Option (((Bool) × Unit) × Unit) :=
 bif !p0.1 == p1.1 then
 some (((Bool.false, ()), ()))
 else
 bif p0.2.1 != p1.2.1 then
 some (((Bool.false, ()), ()))
 else
 bif p0.2.2.1 != p1.2.2.1 then
 some (((Bool.false, ()), ()))
 else
 bif !p0.2.2.2 == p1.2.2.2 then
 some (((Bool.false, ()), ()))
 else
 some (((Bool.true, ()), ()))
noncomputable def R.L_laws_eqRefS_0 (K : Nat) : Nat → (R.T10 × (R.T10 × ((Bool) × ((Int) × Unit)))) → Option (((Bool) × Unit) ⊕ ((Bool) × Unit))
 | 0, _ => none
 | n + 1, (q0, (q1, (q2, (q3, ())))) =>
 bif Decidable.decide (q3 < (↑(List.length q0) : Int)) then
 bif Decidable.decide (0 ≤ q3) && Decidable.decide (q3 < (↑(List.length q0) : Int)) then
 bif Decidable.decide (0 ≤ q3) && Decidable.decide (q3 < (↑(List.length q1) : Int)) then
 obind (R.laws_eqRef K (List.getD q0 (Int.toNat q3) ([], 0, 0, Bool.false)) (List.getD q1 (Int.toNat q3) ([], 0, 0, Bool.false))) fun v7 =>
 bif !v7.1.1 then
 some (Sum.inr (Bool.false, ()))
 else
 R.L_laws_eqRefS_0 K n (q0, q1, q2, Go.IntKind.wrap Go.IntKind.i64 (q3 + 1), ())
 else
 none
 else
 none
 else
 some (Sum.inl (q2, ()))
noncomputable def R.laws_eqRefS (K : Nat) (p0 : List R.T4) (p1 : List R.T4) : Option (((Bool) × Unit) × Unit) :=
 bif (↑(List.length p0) : Int) != (↑(List.length p1) : Int) then
 some (((Bool.false, ()), ()))
 else
 obind (R.L_laws_eqRefS_0 K K (p0, p1, Bool.false, 0, ())) fun v3 =>
 (match v3 with
 | .inl v4 =>
 some (((Bool.true, ()), ()))
 | .inr v4 =>
 some (((v4.1, ()), ()))
 )
noncomputable def R.laws_eqBase (K : Nat) (p0 : R.T14 × R.T10) (p1 : R.T14 × R.T10) : Option (((Bool) × Unit) × Unit) :=
 obind (R.laws_eqCommitS K p0.1 p1.1) fun v2 =>
 bif !v2.1.1 then
 some (((Bool.false, ()), ()))
 else
 obind (R.laws_eqRefS K p0.2 p1.2) fun v4 =>
 bif !v4.1.1 then
 some (((Bool.false, ()), ()))
 else
 some (((Bool.true, ()), ()))
noncomputable def R.laws_eqEdit (K : Nat) (p0 : (List UInt8) × ((Int) × (Bool))) (p1 : (List UInt8) × ((Int) × (Bool))) : Option (((Bool) × Unit) × Unit) :=
 bif !p0.1 == p1.1 then
 some (((Bool.false, ()), ()))
 else
 bif p0.2.1 != p1.2.1 then
 some (((Bool.false, ()), ()))
 else
 bif !p0.2.2 == p1.2.2 then
 some (((Bool.false, ()), ()))
 else
 some (((Bool.true, ()), ()))
noncomputable def R.L_laws_eqEditS_0 (K : Nat) : Nat → (R.T0 × (R.T0 × ((Bool) × ((Int) × Unit)))) → Option (((Bool) × Unit) ⊕ ((Bool) × Unit))
 | 0, _ => none
 | n + 1, (q0, (q1, (q2, (q3, ())))) =>
 bif Decidable.decide (q3 < (↑(List.length q0) : Int)) then
 bif Decidable.decide (0 ≤ q3) && Decidable.decide (q3 < (↑(List.length q0) : Int)) then
 bif Decidable.decide (0 ≤ q3) && Decidable.decide (q3 < (↑(List.length q1) : Int)) then
 obind (R.laws_eqEdit K (List.getD q0 (Int.toNat q3) ([], 0, Bool.false)) (List.getD q1 (Int.toNat q3) ([], 0, Bool.false))) fun v7 =>
 bif !v7.1.1 then
 some (Sum.inr (Bool.false, ()))
 else
 R.L_laws_eqEditS_0 K n (q0, q1, q2, Go.IntKind.wrap Go.IntKind.i64 (q3 + 1), ())
 else
 none
 else
 none
 else
 some (Sum.inl (q2, ()))
noncomputable def R.laws_eqEditS (K : Nat) (p0 : List ((List UInt8) × ((Int) × (Bool)))) (p1 : List ((List UInt8) × ((Int) × (Bool)))) : Option (((Bool) × Unit) × Unit) :=
 bif (↑(List.length p0) : Int) != (↑(List.length p1) : Int) then
 some (((Bool.false, ()), ()))
 else
 obind (R.L_laws_eqEditS_0 K K (p0, p1, Bool.false, 0, ())) fun v3 =>
 (match v3 with
 | .inl v4 =>
 some (((Bool.true, ()), ()))
 | .inr v4 =>
 some (((v4.1, ()), ()))
 )
noncomputable def R.laws_eqWish (K : Nat) (p0 : (Int) × R.T39) (p1 : (Int) × R.T39) : Option (((Bool) × Unit) × Unit) :=
 bif p0.1 != p1.1 then
 some (((Bool.false, ()), ()))
 else
 bif !p0.2.1 == p1.2.1 then
 some (((Bool.false, ()), ()))
 else
 bif !p0.2.2.1 == p1.2.2.1 then
 some (((Bool.false, ()), ()))
 else
 bif !p0.2.2.2.1 == p1.2.2.2.1 then
 some (((Bool.false, ()), ()))
 else
 obind (R.laws_eqEditS K p0.2.2.2.2 p1.2.2.2.2) fun v6 =>
 bif !v6.1.1 then
 some (((Bool.false, ()), ()))
 else
 some (((Bool.true, ()), ()))
noncomputable def R.L_laws_eqWishS_0 (K : Nat) : Nat → (R.T48 × (R.T48 × ((Bool) × ((Int) × Unit)))) → Option (((Bool) × Unit) ⊕ ((Bool) × Unit))
 | 0, _ => none
 | n + 1, (q0, (q1, (q2, (q3, ())))) =>
 bif Decidable.decide (q3 < (↑(List.length q0) : Int)) then
 bif Decidable.decide (0 ≤ q3) && Decidable.decide (q3 < (↑(List.length q0) : Int)) then
 bif Decidable.decide (0 ≤ q3) && Decidable.decide (q3 < (↑(List.length q1) : Int)) then
 obind (R.laws_eqWish K (List.getD q0 (Int.toNat q3) (0, [], [], [], [])) (List.getD q1 (Int.toNat q3) (0, [], [], [], []))) fun v7 =>
 bif !v7.1.1 then
 some (Sum.inr (Bool.false, ()))
 else
 R.L_laws_eqWishS_0 K n (q0, q1, q2, Go.IntKind.wrap Go.IntKind.i64 (q3 + 1), ())
 else
 none
 else
 none
 else
 some (Sum.inl (q2, ()))
noncomputable def R.laws_eqWishS (K : Nat) (p0 : List R.T45) (p1 : List R.T45) : Option (((Bool) × Unit) × Unit) :=
 bif (↑(List.length p0) : Int) != (↑(List.length p1) : Int) then
 some (((Bool.false, ()), ()))
 else
 obind (R.L_laws_eqWishS_0 K K (p0, p1, Bool.false, 0, ())) fun v3 =>
 (match v3 with
 | .inl v4 =>
 some (((Bool.true, ()), ()))
 | .inr v4 =>
 some (((v4.1, ()), ()))
 )
noncomputable def R.laws_eqClient (K : Nat) (p0 : R.T48 × R.T43) (p1 : R.T48 × R.T43) : Option (((Bool) × Unit) × Unit) :=
 obind (R.laws_eqWishS K p0.1 p1.1) fun v2 =>
 bif !v2.1.1 then
 some (((Bool.false, ()), ()))
 else
 bif p0.2.1 != p1.2.1 then
 some (((Bool.false, ()), ()))
 else
 bif p0.2.2.1 != p1.2.2.1 then
 some (((Bool.false, ()), ()))
 else
 bif p0.2.2.2.1 != p1.2.2.2.1 then
 some (((Bool.false, ()), ()))
 else
 bif p0.2.2.2.2.1 != p1.2.2.2.2.1 then
 some (((Bool.false, ()), ()))
 else
 bif p0.2.2.2.2.2.1 != p1.2.2.2.2.2.1 then
 some (((Bool.false, ()), ()))
 else
 bif p0.2.2.2.2.2.2.1 != p1.2.2.2.2.2.2.1 then
 some (((Bool.false, ()), ()))
 else
 bif p0.2.2.2.2.2.2.2.1 != p1.2.2.2.2.2.2.2.1 then
 some (((Bool.false, ()), ()))
 else
 obind (R.laws_eqEntryS K p0.2.2.2.2.2.2.2.2 p1.2.2.2.2.2.2.2.2) fun v11 =>
 bif !v11.1.1 then
 some (((Bool.false, ()), ()))
 else
 some (((Bool.true, ()), ()))
noncomputable def R.laws_FnExactClientOK (K : Nat) (p0 : R.T14 × R.T10) (p1 : R.T48 × R.T43) : Option (((Bool) × Unit) × Unit) :=
 obind (R.laws_szBase K p0 1048576) fun v2 =>
 bif Decidable.decide (v2.1.1 < 0) then
 some (((Bool.true, ()), ()))
 else
 obind (R.laws_szClient K p1 v2.1.1) fun v4 =>
 bif Decidable.decide (v4.1.1 < 0) then
 some (((Bool.true, ()), ()))
 else
 obind (R.laws_toBase K p0) fun v6 =>
 obind (R.laws_toClient K p1) fun v7 =>
 obind (R.spec_ClientOK K v6.1.1 v7.1.1) fun v8 =>
 obind (R.laws_toBase K p0) fun v9 =>
 obind (R.laws_toClient K p1) fun v10 =>
 obind (R.impl_ClientOK K v9.1.1 v10.1.1) fun v11 =>
 bif !v11.1.1 == v8.1.1 then
 some (((Bool.false, ()), ()))
 else
 obind (R.laws_toBase K p0) fun v13 =>
 obind (R.laws_eqBase K v9.1.1 v13.1.1) fun v14 =>
 bif !v14.1.1 then
 some (((Bool.false, ()), ()))
 else
 obind (R.laws_toClient K p1) fun v16 =>
 obind (R.laws_eqClient K v10.1.1 v16.1.1) fun v17 =>
 bif !v17.1.1 then
 some (((Bool.false, ()), ()))
 else
 some (((Bool.true, ()), ()))

end Go.Proofs
