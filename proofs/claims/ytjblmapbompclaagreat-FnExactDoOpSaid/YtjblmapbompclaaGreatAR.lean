/- What the functions come to, printed by a program of the prover's own. -/
import Derived.Test.YtjblmapbompclaaGreatFwMe
set_option linter.all false
namespace Go.Proofs
open Go Fw
set_option maxRecDepth 100000
noncomputable section
abbrev R.T0 : Type := (List ((List UInt8) × ((Int) × (Bool))))
abbrev R.T1 : Type := ((List (Bool)) × ((List (Bool)) × Unit))
abbrev R.T2 : Type := ((List UInt8) × ((Int) × ((Bool) × Unit)))
abbrev R.T3 : Type := (((Int) × ((Int) × Unit)) ⊕ ((Int) × Unit))
abbrev R.T4 : Type := ((List UInt8) × ((Int) × ((Int) × (Bool))))
abbrev R.T5 : Type := ((List (Int)) × (List ((List UInt8) × (Int))))
abbrev R.T6 : Type := (((List ((List UInt8) × (Int))) × Unit) × Unit)
abbrev R.T7 : Type := (R.T0 × Unit)
abbrev R.T8 : Type := (List R.T4)
abbrev R.T9 : Type := ((Int) × R.T1)
abbrev R.T10 : Type := ((List UInt8) × ((List UInt8) × ((Int) × (Bool))))
abbrev R.T11 : Type := ((Bool) × R.T1)
abbrev R.T12 : Type := (List R.T5)
abbrev R.T13 : Type := ((List (List UInt8)) × (List ((List UInt8) × (Int))))
abbrev R.T14 : Type := (R.T5 × Unit)
abbrev R.T15 : Type := ((List UInt8) × R.T0)
abbrev R.T16 : Type := (List R.T10)
abbrev R.T17 : Type := (R.T7 × Unit)
abbrev R.T18 : Type := (R.T8 × Unit)
abbrev R.T19 : Type := ((List ((List UInt8) × (Int))) × ((Bool) × ((Int) × Unit)))
abbrev R.T20 : Type := ((Int) × R.T9)
abbrev R.T21 : Type := (R.T12 × Unit)
abbrev R.T22 : Type := ((Int) × R.T13)
abbrev R.T23 : Type := (R.T14 × Unit)
abbrev R.T24 : Type := (R.T18 × Unit)
abbrev R.T25 : Type := (R.T8 × ((Int) × Unit))
abbrev R.T26 : Type := (R.T21 × Unit)
abbrev R.T27 : Type := ((List ((List UInt8) × (Int))) × ((List ((List UInt8) × (Int))) × Unit))
abbrev R.T28 : Type := ((List ((List UInt8) × (Int))) × ((List (List UInt8)) × ((Int) × Unit)))
abbrev R.T29 : Type := ((Int) × R.T22)
abbrev R.T30 : Type := ((List (List UInt8)) × R.T7)
abbrev R.T31 : Type := ((List UInt8) × R.T15)
abbrev R.T32 : Type := (R.T25 × Unit)
abbrev R.T33 : Type := (R.T27 ⊕ Unit)
abbrev R.T34 : Type := (R.T28 × Unit)
abbrev R.T35 : Type := ((Int) × R.T27)
abbrev R.T36 : Type := ((Int) × R.T29)
abbrev R.T37 : Type := ((Int) × R.T31)
abbrev R.T38 : Type := (R.T8 × ((Int) × ((Int) × ((Int) × Unit))))
abbrev R.T39 : Type := (R.T36 × Unit)
abbrev R.T40 : Type := (R.T0 × R.T7)
abbrev R.T41 : Type := (R.T40 ⊕ Unit)
abbrev R.T42 : Type := ((Int) × R.T40)
abbrev R.T43 : Type := (R.T12 × R.T8)
abbrev R.T44 : Type := ((Int) × R.T42)
abbrev R.T45 : Type := (R.T43 × Unit)
abbrev R.T46 : Type := (R.T12 × R.T21)
abbrev R.T47 : Type := (R.T45 × Unit)
abbrev R.T48 : Type := ((Int) × R.T45)
abbrev R.T49 : Type := (R.T46 ⊕ Unit)
abbrev R.T50 : Type := ((Int) × R.T46)
abbrev R.T51 : Type := ((List ((List UInt8) × (Int))) × R.T44)
abbrev R.T52 : Type := ((List ((List UInt8) × (Int))) × R.T51)
abbrev R.T53 : Type := (R.T43 × R.T39)
abbrev R.T54 : Type := (R.T53 × Unit)
def R.qcq (K : Nat) (p0 : List (Int)) (p1 : Int) : Option (((Int) × Unit) × Unit) :=
 bif decide (IntKind.i64.wrap (p1 - (↑(List.length p0) : Int)) < 0) then
 some (((-1, ()), ()))
 else
 some (((IntKind.i64.wrap (p1 - (↑(List.length p0) : Int)), ()), ()))
def R.qbU (K : Nat) (p0 : (List UInt8) × (Int)) (p1 : Int) : Option (((Int) × Unit) × Unit) :=
 bif decide (IntKind.i64.wrap (p1 - (↑(List.length p0.1) : Int)) < 0) then
 some (((-1, ()), ()))
 else
 some (((IntKind.i64.wrap (p1 - (↑(List.length p0.1) : Int)), ()), ()))
def R.L_qbu_0 (K : Nat) : Nat → ((List ((List UInt8) × (Int))) × ((Int) × ((Int) × ((Int) × Unit)))) → Option R.T3
 | 0, _ => none
 | n + 1, (q0, (q1, (q2, (q3, ())))) =>
 bif decide (q3 < (↑(List.length q0) : Int)) then
 bif decide (0 ≤ q3) && decide (q3 < (↑(List.length q0) : Int)) then
 obind (R.qbU K (List.getD q0 (Int.toNat q3) ([], 0)) q1) fun v6 =>
 bif decide (v6.1.1 < 0) then
 some (Sum.inr (-1, ()))
 else
 R.L_qbu_0 K n (q0, v6.1.1, q2, IntKind.i64.wrap (q3 + 1), ())
 else
 none
 else
 some (Sum.inl (q1, q2, ()))
def R.qbu (K : Nat) (p0 : List ((List UInt8) × (Int))) (p1 : Int) : Option (((Int) × Unit) × Unit) :=
 bif decide (IntKind.i64.wrap (p1 - (↑(List.length p0) : Int)) < 0) then
 some (((-1, ()), ()))
 else
 obind (R.L_qbu_0 K K (p0, IntKind.i64.wrap (p1 - (↑(List.length p0) : Int)), 0, 0, ())) fun v3 =>
 (match v3 with
 | .inl v4 =>
 some (((v4.1, ()), ()))
 | .inr v4 =>
 some (((v4.1, ()), ()))
 )
def R.qbq (K : Nat) (p0 : (List (Int)) × (List ((List UInt8) × (Int)))) (p1 : Int) : Option (((Int) × Unit) × Unit) :=
 obind (R.qcq K p0.1 p1) fun v2 =>
 bif decide (v2.1.1 < 0) then
 some (((-1, ()), ()))
 else
 obind (R.qbu K p0.2 v2.1.1) fun v4 =>
 bif decide (v4.1.1 < 0) then
 some (((-1, ()), ()))
 else
 some (((v4.1.1, ()), ()))
def R.L_qbb_0 (K : Nat) : Nat → (R.T12 × ((Int) × ((Int) × ((Int) × Unit)))) → Option R.T3
 | 0, _ => none
 | n + 1, (q0, (q1, (q2, (q3, ())))) =>
 bif decide (q3 < (↑(List.length q0) : Int)) then
 bif decide (0 ≤ q3) && decide (q3 < (↑(List.length q0) : Int)) then
 obind (R.qbq K (List.getD q0 (Int.toNat q3) ([], [])) q1) fun v6 =>
 bif decide (v6.1.1 < 0) then
 some (Sum.inr (-1, ()))
 else
 R.L_qbb_0 K n (q0, v6.1.1, q2, IntKind.i64.wrap (q3 + 1), ())
 else
 none
 else
 some (Sum.inl (q1, q2, ()))
def R.qbb (K : Nat) (p0 : List R.T5) (p1 : Int) : Option (((Int) × Unit) × Unit) :=
 bif decide (IntKind.i64.wrap (p1 - (↑(List.length p0) : Int)) < 0) then
 some (((-1, ()), ()))
 else
 obind (R.L_qbb_0 K K (p0, IntKind.i64.wrap (p1 - (↑(List.length p0) : Int)), 0, 0, ())) fun v3 =>
 (match v3 with
 | .inl v4 =>
 some (((v4.1, ()), ()))
 | .inr v4 =>
 some (((v4.1, ()), ()))
 )
def R.qcR (K : Nat) (p0 : (List UInt8) × ((Int) × ((Int) × (Bool)))) (p1 : Int) : Option (((Int) × Unit) × Unit) :=
 bif decide (IntKind.i64.wrap (p1 - (↑(List.length p0.1) : Int)) < 0) then
 some (((-1, ()), ()))
 else
 some (((IntKind.i64.wrap (p1 - (↑(List.length p0.1) : Int)), ()), ()))
def R.L_qcE_0 (K : Nat) : Nat → R.T38 → Option R.T3
 | 0, _ => none
 | n + 1, (q0, (q1, (q2, (q3, ())))) =>
 bif decide (q3 < (↑(List.length q0) : Int)) then
 bif decide (0 ≤ q3) && decide (q3 < (↑(List.length q0) : Int)) then
 obind (R.qcR K (List.getD q0 (Int.toNat q3) ([], 0, 0, false)) q1) fun v6 =>
 bif decide (v6.1.1 < 0) then
 some (Sum.inr (-1, ()))
 else
 R.L_qcE_0 K n (q0, v6.1.1, q2, IntKind.i64.wrap (q3 + 1), ())
 else
 none
 else
 some (Sum.inl (q1, q2, ()))
def R.qcE (K : Nat) (p0 : List R.T4) (p1 : Int) : Option (((Int) × Unit) × Unit) :=
 bif decide (IntKind.i64.wrap (p1 - (↑(List.length p0) : Int)) < 0) then
 some (((-1, ()), ()))
 else
 obind (R.L_qcE_0 K K (p0, IntKind.i64.wrap (p1 - (↑(List.length p0) : Int)), 0, 0, ())) fun v3 =>
 (match v3 with
 | .inl v4 =>
 some (((v4.1, ()), ()))
 | .inr v4 =>
 some (((v4.1, ()), ()))
 )
def R.qcj (K : Nat) (p0 : R.T12 × R.T8) (p1 : Int) : Option (((Int) × Unit) × Unit) :=
 obind (R.qbb K p0.1 p1) fun v2 =>
 bif decide (v2.1.1 < 0) then
 some (((-1, ()), ()))
 else
 obind (R.qcE K p0.2 v2.1.1) fun v4 =>
 bif decide (v4.1.1 < 0) then
 some (((-1, ()), ()))
 else
 some (((v4.1.1, ()), ()))
def R.qcv (K : Nat) (p0 : (List UInt8) × ((Int) × (Bool))) (p1 : Int) : Option (((Int) × Unit) × Unit) :=
 bif decide (IntKind.i64.wrap (p1 - (↑(List.length p0.1) : Int)) < 0) then
 some (((-1, ()), ()))
 else
 some (((IntKind.i64.wrap (p1 - (↑(List.length p0.1) : Int)), ()), ()))
def R.L_qbP_0 (K : Nat) : Nat → (R.T0 × ((Int) × ((Int) × ((Int) × Unit)))) → Option R.T3
 | 0, _ => none
 | n + 1, (q0, (q1, (q2, (q3, ())))) =>
 bif decide (q3 < (↑(List.length q0) : Int)) then
 bif decide (0 ≤ q3) && decide (q3 < (↑(List.length q0) : Int)) then
 obind (R.qcv K (List.getD q0 (Int.toNat q3) ([], 0, false)) q1) fun v6 =>
 bif decide (v6.1.1 < 0) then
 some (Sum.inr (-1, ()))
 else
 R.L_qbP_0 K n (q0, v6.1.1, q2, IntKind.i64.wrap (q3 + 1), ())
 else
 none
 else
 some (Sum.inl (q1, q2, ()))
def R.qbP (K : Nat) (p0 : List ((List UInt8) × ((Int) × (Bool)))) (p1 : Int) : Option (((Int) × Unit) × Unit) :=
 bif decide (IntKind.i64.wrap (p1 - (↑(List.length p0) : Int)) < 0) then
 some (((-1, ()), ()))
 else
 obind (R.L_qbP_0 K K (p0, IntKind.i64.wrap (p1 - (↑(List.length p0) : Int)), 0, 0, ())) fun v3 =>
 (match v3 with
 | .inl v4 =>
 some (((v4.1, ()), ()))
 | .inr v4 =>
 some (((v4.1, ()), ()))
 )
def R.qdh (K : Nat) (p0 : (Int) × R.T37) (p1 : Int) : Option (((Int) × Unit) × Unit) :=
 bif decide (IntKind.i64.wrap (p1 - (↑(List.length p0.2.2.1) : Int)) < 0) then
 some (((-1, ()), ()))
 else
 bif decide (IntKind.i64.wrap (IntKind.i64.wrap (p1 - (↑(List.length p0.2.2.1) : Int)) - (↑(List.length p0.2.2.2.1) : Int)) < 0) then
 some (((-1, ()), ()))
 else
 obind (R.qbP K p0.2.2.2.2 (IntKind.i64.wrap (IntKind.i64.wrap (p1 - (↑(List.length p0.2.2.1) : Int)) - (↑(List.length p0.2.2.2.1) : Int)))) fun v4 =>
 bif decide (v4.1.1 < 0) then
 some (((-1, ()), ()))
 else
 some (((v4.1.1, ()), ()))
def R.L_qcG_0 (K : Nat) : Nat → ((List (Int)) × ((Int) × ((List (Int)) × ((List (Int)) × Unit)))) → Option (((List (Int)) × ((List (Int)) × Unit)) ⊕ Unit)
 | 0, _ => none
 | n + 1, (q0, (q1, (q2, (q3, ())))) =>
 bif decide (q1 < (↑(List.length q0) : Int)) then
 bif decide (0 ≤ q1) && decide (q1 < (↑(List.length q0) : Int)) then
 bif decide (0 ≤ q1) && decide (q1 < (↑(List.length q3) : Int)) then
 R.L_qcG_0 K n (q0, IntKind.i64.wrap (q1 + 1), q2, List.set q3 (Int.toNat q1) (List.getD q0 (Int.toNat q1) 0), ())
 else
 none
 else
 none
 else
 some (Sum.inl (q2, q3, ()))
def R.qcG (K : Nat) (p0 : List (Int)) : Option (((List (Int)) × Unit) × Unit) :=
 bif decide (0 ≤ (↑(List.length p0) : Int)) && decide ((↑(List.length p0) : Int) ≤ (↑(List.length p0) : Int)) && decide ((↑(List.length p0) : Int) ≤ (↑268435456 : Int)) then
 obind (R.L_qcG_0 K K (p0, 0, [], List.replicate (Int.toNat (↑(List.length p0) : Int)) 0, ())) fun v3 =>
 (match v3 with
 | .inl v4 =>
 some (((v4.2.1, ()), ()))
 | .inr v4 =>
 none
 )
 else
 none
def R.qce (K : Nat) (p0 : (List UInt8) × (Int)) : Option ((((List UInt8) × (Int)) × Unit) × Unit) :=
 some (((p0, ()), ()))
def R.L_qbC_0 (K : Nat) : Nat → ((List ((List UInt8) × (Int))) × R.T35) → Option R.T33
 | 0, _ => none
 | n + 1, (q0, (q1, (q2, (q3, ())))) =>
 bif decide (q1 < (↑(List.length q0) : Int)) then
 bif decide (0 ≤ q1) && decide (q1 < (↑(List.length q0) : Int)) then
 bif decide (0 ≤ q1) && decide (q1 < (↑(List.length q3) : Int)) then
 R.L_qbC_0 K n (q0, IntKind.i64.wrap (q1 + 1), q2, List.set q3 (Int.toNat q1) (List.getD q0 (Int.toNat q1) ([], 0)), ())
 else
 none
 else
 none
 else
 some (Sum.inl (q2, q3, ()))
def R.qbC (K : Nat) (p0 : List ((List UInt8) × (Int))) : Option R.T6 :=
 bif decide (0 ≤ (↑(List.length p0) : Int)) && decide ((↑(List.length p0) : Int) ≤ (↑(List.length p0) : Int)) && decide ((↑(List.length p0) : Int) ≤ (↑268435456 : Int)) then
 obind (R.L_qbC_0 K K (p0, 0, [], List.replicate (Int.toNat (↑(List.length p0) : Int)) ([], 0), ())) fun v3 =>
 (match v3 with
 | .inl v4 =>
 some (((v4.2.1, ()), ()))
 | .inr v4 =>
 none
 )
 else
 none
def R.qbt (K : Nat) (p0 : (List (Int)) × (List ((List UInt8) × (Int)))) : Option R.T23 :=
 obind (R.qcG K p0.1) fun v2 =>
 obind (R.qbC K p0.2) fun v3 =>
 some ((((v2.1.1, v3.1.1), ()), ()))
def R.L_qbf_0 (K : Nat) : Nat → (R.T12 × R.T50) → Option R.T49
 | 0, _ => none
 | n + 1, (q0, (q1, (q2, (q3, ())))) =>
 bif decide (q1 < (↑(List.length q0) : Int)) then
 bif decide (0 ≤ q1) && decide (q1 < (↑(List.length q0) : Int)) then
 obind (R.qbt K (List.getD q0 (Int.toNat q1) ([], []))) fun v6 =>
 bif decide (0 ≤ q1) && decide (q1 < (↑(List.length q3) : Int)) then
 R.L_qbf_0 K n (q0, IntKind.i64.wrap (q1 + 1), q2, List.set q3 (Int.toNat q1) v6.1.1, ())
 else
 none
 else
 none
 else
 some (Sum.inl (q2, q3, ()))
def R.qbf (K : Nat) (p0 : List R.T5) : Option R.T26 :=
 bif decide (0 ≤ (↑(List.length p0) : Int)) && decide ((↑(List.length p0) : Int) ≤ (↑(List.length p0) : Int)) && decide ((↑(List.length p0) : Int) ≤ (↑268435456 : Int)) then
 obind (R.L_qbf_0 K K (p0, 0, [], List.replicate (Int.toNat (↑(List.length p0) : Int)) ([], []), ())) fun v3 =>
 (match v3 with
 | .inl v4 =>
 some (((v4.2.1, ()), ()))
 | .inr v4 =>
 none
 )
 else
 none
def R.qcV (K : Nat) (p0 : (List UInt8) × ((Int) × ((Int) × (Bool)))) : Option ((R.T4 × Unit) × Unit) :=
 some (((p0, ()), ()))
def R.L_qcr_0 (K : Nat) : Nat → (R.T8 × ((Int) × (R.T8 × R.T18))) → Option ((R.T8 × R.T18) ⊕ Unit)
 | 0, _ => none
 | n + 1, (q0, (q1, (q2, (q3, ())))) =>
 bif decide (q1 < (↑(List.length q0) : Int)) then
 bif decide (0 ≤ q1) && decide (q1 < (↑(List.length q0) : Int)) then
 bif decide (0 ≤ q1) && decide (q1 < (↑(List.length q3) : Int)) then
 R.L_qcr_0 K n (q0, IntKind.i64.wrap (q1 + 1), q2, List.set q3 (Int.toNat q1) (List.getD q0 (Int.toNat q1) ([], 0, 0, false)), ())
 else
 none
 else
 none
 else
 some (Sum.inl (q2, q3, ()))
def R.qcr (K : Nat) (p0 : List R.T4) : Option R.T24 :=
 bif decide (0 ≤ (↑(List.length p0) : Int)) && decide ((↑(List.length p0) : Int) ≤ (↑(List.length p0) : Int)) && decide ((↑(List.length p0) : Int) ≤ (↑268435456 : Int)) then
 obind (R.L_qcr_0 K K (p0, 0, [], List.replicate (Int.toNat (↑(List.length p0) : Int)) ([], 0, 0, false), ())) fun v3 =>
 (match v3 with
 | .inl v4 =>
 some (((v4.2.1, ()), ()))
 | .inr v4 =>
 none
 )
 else
 none
def R.qco (K : Nat) (p0 : R.T12 × R.T8) : Option R.T47 :=
 obind (R.qbf K p0.1) fun v2 =>
 obind (R.qcr K p0.2) fun v3 =>
 some ((((v2.1.1, v3.1.1), ()), ()))
def R.qch (K : Nat) (p0 : (List UInt8) × ((Int) × (Bool))) : Option ((((List UInt8) × ((Int) × (Bool))) × Unit) × Unit) :=
 some (((p0, ()), ()))
def R.L_qca_0 (K : Nat) : Nat → (R.T0 × R.T42) → Option R.T41
 | 0, _ => none
 | n + 1, (q0, (q1, (q2, (q3, ())))) =>
 bif decide (q1 < (↑(List.length q0) : Int)) then
 bif decide (0 ≤ q1) && decide (q1 < (↑(List.length q0) : Int)) then
 bif decide (0 ≤ q1) && decide (q1 < (↑(List.length q3) : Int)) then
 R.L_qca_0 K n (q0, IntKind.i64.wrap (q1 + 1), q2, List.set q3 (Int.toNat q1) (List.getD q0 (Int.toNat q1) ([], 0, false)), ())
 else
 none
 else
 none
 else
 some (Sum.inl (q2, q3, ()))
def R.qca (K : Nat) (p0 : List ((List UInt8) × ((Int) × (Bool)))) : Option R.T17 :=
 bif decide (0 ≤ (↑(List.length p0) : Int)) && decide ((↑(List.length p0) : Int) ≤ (↑(List.length p0) : Int)) && decide ((↑(List.length p0) : Int) ≤ (↑268435456 : Int)) then
 obind (R.L_qca_0 K K (p0, 0, [], List.replicate (Int.toNat (↑(List.length p0) : Int)) ([], 0, false), ())) fun v3 =>
 (match v3 with
 | .inl v4 =>
 some (((v4.2.1, ()), ()))
 | .inr v4 =>
 none
 )
 else
 none
def R.qdg (K : Nat) (p0 : (Int) × R.T37) : Option ((((Int) × R.T37) × Unit) × Unit) :=
 obind (R.qca K p0.2.2.2.2) fun v2 =>
 some ((((p0.1, p0.2.1, p0.2.2.1, p0.2.2.2.1, v2.1.1), ()), ()))
def R.qcM (K : Nat) (p0 : Int) (p1 : Int) (p2 : Int) : Option (((Bool) × Unit) × Unit) :=
 bif decide (p0 ≥ p1) then
 some (((decide (p0 ≤ p2), ()), ()))
 else
 some (((false, ()), ()))
def R.qaV (K : Nat) (p0 : Int) : Option (((Bool) × Unit) × Unit) :=
 bif decide (p0 ≥ 97) then
 bif decide (p0 ≤ 122) then
 some (((true, ()), ()))
 else
 bif decide (p0 ≥ 65) then
 bif decide (p0 ≤ 90) then
 some (((true, ()), ()))
 else
 some (((p0 == 95, ()), ()))
 else
 some (((p0 == 95, ()), ()))
 else
 bif decide (p0 ≥ 65) then
 bif decide (p0 ≤ 90) then
 some (((true, ()), ()))
 else
 some (((p0 == 95, ()), ()))
 else
 some (((p0 == 95, ()), ()))
def R.qbk (K : Nat) (p0 : Int) : Option (((Bool) × Unit) × Unit) :=
 bif decide (p0 ≥ 48) then
 some (((decide (p0 ≤ 57), ()), ()))
 else
 some (((false, ()), ()))
def R.L_qcc_0 (K : Nat) : Nat → ((List UInt8) × ((Bool) × ((Int) × Unit))) → Option (((Bool) × Unit) ⊕ ((Bool) × Unit))
 | 0, _ => none
 | n + 1, (q0, (q1, (q2, ()))) =>
 bif decide (q2 < (↑(List.length q0) : Int)) then
 bif decide (0 ≤ q2) && decide (q2 < (↑(List.length q0) : Int)) then
 obind (R.qaV K (↑(UInt8.toNat (List.getD q0 (Int.toNat q2) 0)) : Int)) fun v6 =>
 bif !v6.1.1 then
 bif decide (0 ≤ q2) && decide (q2 < (↑(List.length q0) : Int)) then
 obind (R.qbk K (↑(UInt8.toNat (List.getD q0 (Int.toNat q2) 0)) : Int)) fun v9 =>
 bif !v9.1.1 then
 some (Sum.inr (false, ()))
 else
 R.L_qcc_0 K n (q0, q1, IntKind.i64.wrap (q2 + 1), ())
 else
 none
 else
 R.L_qcc_0 K n (q0, q1, IntKind.i64.wrap (q2 + 1), ())
 else
 none
 else
 some (Sum.inl (q1, ()))
def R.qcc (K : Nat) (p0 : List UInt8) : Option (((Bool) × Unit) × Unit) :=
 bif decide ((↑(List.length p0) : Int) < 1) then
 some (((false, ()), ()))
 else
 bif decide ((↑(List.length p0) : Int) > 12) then
 some (((false, ()), ()))
 else
 bif decide (0 ≤ 0) && decide (0 < (↑(List.length p0) : Int)) then
 obind (R.qaV K (↑(UInt8.toNat (List.getD p0 (Int.toNat 0) 0)) : Int)) fun v5 =>
 bif !v5.1.1 then
 some (((false, ()), ()))
 else
 obind (R.L_qcc_0 K K (p0, false, 1, ())) fun v7 =>
 (match v7 with
 | .inl v8 =>
 some (((true, ()), ()))
 | .inr v8 =>
 some (((v8.1, ()), ()))
 )
 else
 none
def R.L_qcW_0 (K : Nat) : Nat → R.T19 → Option (((Bool) × Unit) ⊕ ((Bool) × Unit))
 | 0, _ => none
 | n + 1, (q0, (q1, (q2, ()))) =>
 bif decide (q2 < (↑(List.length q0) : Int)) then
 bif decide (0 ≤ q2) && decide (q2 < (↑(List.length q0) : Int)) then
 obind (R.qcc K (Prod.fst (List.getD q0 (Int.toNat q2) ([], 0)))) fun v6 =>
 bif !v6.1.1 then
 some (Sum.inr (false, ()))
 else
 bif decide (0 ≤ q2) && decide (q2 < (↑(List.length q0) : Int)) then
 obind (R.qcM K (Prod.snd (List.getD q0 (Int.toNat q2) ([], 0))) (-1000000) 1000000) fun v9 =>
 bif !v9.1.1 then
 some (Sum.inr (false, ()))
 else
 bif decide (q2 > 0) then
 bif decide (0 ≤ q2) && decide (q2 < (↑(List.length q0) : Int)) then
 bif decide (0 ≤ IntKind.i64.wrap (q2 - 1)) && decide (IntKind.i64.wrap (q2 - 1) < (↑(List.length q0) : Int)) then
 bif Fw.sless (Prod.fst (List.getD q0 (Int.toNat q2) ([], 0))) (Prod.fst (List.getD q0 (Int.toNat (IntKind.i64.wrap (q2 - 1))) ([], 0))) || Prod.fst (List.getD q0 (Int.toNat q2) ([], 0)) == Prod.fst (List.getD q0 (Int.toNat (IntKind.i64.wrap (q2 - 1))) ([], 0)) then
 some (Sum.inr (false, ()))
 else
 R.L_qcW_0 K n (q0, q1, IntKind.i64.wrap (q2 + 1), ())
 else
 none
 else
 none
 else
 R.L_qcW_0 K n (q0, q1, IntKind.i64.wrap (q2 + 1), ())
 else
 none
 else
 none
 else
 some (Sum.inl (q1, ()))
def R.qcW (K : Nat) (p0 : List ((List UInt8) × (Int))) : Option (((Bool) × Unit) × Unit) :=
 bif decide ((↑(List.length p0) : Int) > 12) then
 some (((false, ()), ()))
 else
 obind (R.L_qcW_0 K K (p0, false, 0, ())) fun v3 =>
 (match v3 with
 | .inl v4 =>
 some (((true, ()), ()))
 | .inr v4 =>
 some (((v4.1, ()), ()))
 )
def R.L_qaX_0 (K : Nat) : Nat → (R.T12 × ((Bool) × ((Int) × ((Int) × ((List (Int)) × ((List ((List UInt8) × (Int))) × Unit)))))) → Option (((Bool) × Unit) ⊕ ((Bool) × Unit))
 | 0, _ => none
 | n + 1, (q0, (q1, (q2, (q3, (q4, (q5, ())))))) =>
 bif decide (q3 < q2) then
 bif decide (0 ≤ q3) && decide (q3 < (↑(List.length q4) : Int)) then
 obind (R.qcM K (List.getD q4 (Int.toNat q3) 0) 1 (↑(List.length q0) : Int)) fun v6 =>
 bif !v6.1.1 then
 some (Sum.inr (false, ()))
 else
 bif decide (q3 > 0) then
 bif decide (0 ≤ q3) && decide (q3 < (↑(List.length q4) : Int)) then
 bif decide (0 ≤ 0) && decide (0 < (↑(List.length q4) : Int)) then
 bif List.getD q4 (Int.toNat q3) 0 == List.getD q4 (Int.toNat 0) 0 then
 some (Sum.inr (false, ()))
 else
 R.L_qaX_0 K n (q0, q1, q2, IntKind.i64.wrap (q3 + 1), q4, q5, ())
 else
 none
 else
 none
 else
 R.L_qaX_0 K n (q0, q1, q2, IntKind.i64.wrap (q3 + 1), q4, q5, ())
 else
 none
 else
 some (Sum.inl (q1, ()))
def R.qaX (K : Nat) (p0 : List R.T5) (p1 : (List (Int)) × (List ((List UInt8) × (Int)))) : Option (((Bool) × Unit) × Unit) :=
 obind (R.qcW K p1.2) fun v2 =>
 bif !v2.1.1 then
 some (((false, ()), ()))
 else
 bif decide ((↑(List.length p1.1) : Int) > 2) then
 some (((false, ()), ()))
 else
 bif !((↑(List.length p1.1) : Int) == 0) == ((↑(List.length p0) : Int) == 0) then
 some (((false, ()), ()))
 else
 obind (R.L_qaX_0 K K (p0, false, (↑(List.length p1.1) : Int), 0, p1.1, p1.2, ())) fun v6 =>
 (match v6 with
 | .inl v7 =>
 some (((true, ()), ()))
 | .inr v7 =>
 some (((v7.1, ()), ()))
 )
def R.L_qcI_0 (K : Nat) : Nat → (R.T12 × ((Bool) × ((Int) × Unit))) → Option (((Bool) × Unit) ⊕ ((Bool) × Unit))
 | 0, _ => none
 | n + 1, (q0, (q1, (q2, ()))) =>
 bif decide (q2 < (↑(List.length q0) : Int)) then
 bif decide (0 ≤ q2) && decide (q2 ≤ (↑(List.length q0) : Int)) then
 bif decide (0 ≤ q2) && decide (q2 < (↑(List.length q0) : Int)) then
 obind (R.qaX K (List.drop 0 (List.take (Int.toNat q2) q0)) (List.getD q0 (Int.toNat q2) ([], []))) fun v7 =>
 bif !v7.1.1 then
 some (Sum.inr (false, ()))
 else
 R.L_qcI_0 K n (q0, q1, IntKind.i64.wrap (q2 + 1), ())
 else
 none
 else
 none
 else
 some (Sum.inl (q1, ()))
def R.qcI (K : Nat) (p0 : List R.T5) : Option (((Bool) × Unit) × Unit) :=
 obind (R.qcM K (↑(List.length p0) : Int) 1 60) fun v2 =>
 bif !v2.1.1 then
 some (((false, ()), ()))
 else
 obind (R.L_qcI_0 K K (p0, false, 0, ())) fun v4 =>
 (match v4 with
 | .inl v5 =>
 some (((true, ()), ()))
 | .inr v5 =>
 some (((v5.1, ()), ()))
 )
def R.L_qcX_0 (K : Nat) : Nat → (R.T8 × ((List UInt8) × ((Int) × ((Int) × Unit)))) → Option (((Int) × Unit) ⊕ ((Int) × Unit))
 | 0, _ => none
 | n + 1, (q0, (q1, (q2, (q3, ())))) =>
 bif decide (q3 < (↑(List.length q0) : Int)) then
 bif decide (0 ≤ q3) && decide (q3 < (↑(List.length q0) : Int)) then
 bif Prod.fst (List.getD q0 (Int.toNat q3) ([], 0, 0, false)) == q1 then
 some (Sum.inr (q3, ()))
 else
 R.L_qcX_0 K n (q0, q1, q2, IntKind.i64.wrap (q3 + 1), ())
 else
 none
 else
 some (Sum.inl (q2, ()))
def R.qcX (K : Nat) (p0 : List R.T4) (p1 : List UInt8) : Option (((Int) × Unit) × Unit) :=
 obind (R.L_qcX_0 K K (p0, p1, 0, 0, ())) fun v2 =>
 (match v2 with
 | .inl v3 =>
 some (((-1, ()), ()))
 | .inr v3 =>
 some (((v3.1, ()), ()))
 )
def R.L_qcL_0 (K : Nat) : Nat → (R.T8 × ((Bool) × ((Int) × Unit))) → Option (((Bool) × Unit) ⊕ ((Bool) × Unit))
 | 0, _ => none
 | n + 1, (q0, (q1, (q2, ()))) =>
 bif decide (q2 < (↑(List.length q0) : Int)) then
 bif decide (0 ≤ q2) && decide (q2 < (↑(List.length q0) : Int)) then
 obind (R.qcc K (Prod.fst (List.getD q0 (Int.toNat q2) ([], 0, 0, false)))) fun v6 =>
 bif !v6.1.1 then
 some (Sum.inr (false, ()))
 else
 obind (R.qcM K (Prod.fst (Prod.snd (Prod.snd (List.getD q0 (Int.toNat q2) ([], 0, 0, false))))) 1 1000000) fun v8 =>
 bif !v8.1.1 then
 some (Sum.inr (false, ()))
 else
 obind (R.qcX K q0 (Prod.fst (List.getD q0 (Int.toNat q2) ([], 0, 0, false)))) fun v10 =>
 bif v10.1.1 != q2 then
 some (Sum.inr (false, ()))
 else
 bif Prod.snd (Prod.snd (Prod.snd (List.getD q0 (Int.toNat q2) ([], 0, 0, false)))) then
 bif Prod.fst (Prod.snd (List.getD q0 (Int.toNat q2) ([], 0, 0, false))) != 0 then
 some (Sum.inr (false, ()))
 else
 bif !Prod.snd (Prod.snd (Prod.snd (List.getD q0 (Int.toNat q2) ([], 0, 0, false)))) then
 obind (R.qcM K (Prod.fst (Prod.snd (List.getD q0 (Int.toNat q2) ([], 0, 0, false)))) 1 60) fun v15 =>
 bif !v15.1.1 then
 some (Sum.inr (false, ()))
 else
 R.L_qcL_0 K n (q0, q1, IntKind.i64.wrap (q2 + 1), ())
 else
 R.L_qcL_0 K n (q0, q1, IntKind.i64.wrap (q2 + 1), ())
 else
 bif !Prod.snd (Prod.snd (Prod.snd (List.getD q0 (Int.toNat q2) ([], 0, 0, false)))) then
 obind (R.qcM K (Prod.fst (Prod.snd (List.getD q0 (Int.toNat q2) ([], 0, 0, false)))) 1 60) fun v14 =>
 bif !v14.1.1 then
 some (Sum.inr (false, ()))
 else
 R.L_qcL_0 K n (q0, q1, IntKind.i64.wrap (q2 + 1), ())
 else
 R.L_qcL_0 K n (q0, q1, IntKind.i64.wrap (q2 + 1), ())
 else
 none
 else
 some (Sum.inl (q1, ()))
def R.qcL (K : Nat) (p0 : List R.T4) : Option (((Bool) × Unit) × Unit) :=
 bif decide ((↑(List.length p0) : Int) > 8) then
 some (((false, ()), ()))
 else
 obind (R.L_qcL_0 K K (p0, false, 0, ())) fun v3 =>
 (match v3 with
 | .inl v4 =>
 some (((true, ()), ()))
 | .inr v4 =>
 some (((v4.1, ()), ()))
 )
def R.L_qcQ_0 (K : Nat) : Nat → ((Bool) × ((Int) × (R.T12 × R.T18))) → Option (((Bool) × Unit) ⊕ ((Bool) × Unit))
 | 0, _ => none
 | n + 1, (q0, (q1, (q2, (q3, ())))) =>
 bif decide (q1 < (↑(List.length q3) : Int)) then
 bif decide (0 ≤ q1) && decide (q1 < (↑(List.length q3) : Int)) then
 bif decide (Prod.fst (Prod.snd (List.getD q3 (Int.toNat q1) ([], 0, 0, false))) > (↑(List.length q2) : Int)) then
 some (Sum.inr (false, ()))
 else
 R.L_qcQ_0 K n (q0, IntKind.i64.wrap (q1 + 1), q2, q3, ())
 else
 none
 else
 some (Sum.inl (q0, ()))
def R.qcQ (K : Nat) (p0 : R.T12 × R.T8) : Option (((Bool) × Unit) × Unit) :=
 obind (R.qcI K p0.1) fun v2 =>
 bif !v2.1.1 then
 some (((false, ()), ()))
 else
 obind (R.qcL K p0.2) fun v4 =>
 bif !v4.1.1 then
 some (((false, ()), ()))
 else
 obind (R.L_qcQ_0 K K (false, 0, p0.1, p0.2, ())) fun v6 =>
 (match v6 with
 | .inl v7 =>
 some (((true, ()), ()))
 | .inr v7 =>
 some (((v7.1, ()), ()))
 )
def R.L_qbF_0 (K : Nat) : Nat → (R.T0 × ((Bool) × ((Int) × Unit))) → Option (((Bool) × Unit) ⊕ ((Bool) × Unit))
 | 0, _ => none
 | n + 1, (q0, (q1, (q2, ()))) =>
 bif decide (q2 < (↑(List.length q0) : Int)) then
 bif decide (0 ≤ q2) && decide (q2 < (↑(List.length q0) : Int)) then
 obind (R.qcc K (Prod.fst (List.getD q0 (Int.toNat q2) ([], 0, false)))) fun v6 =>
 bif !v6.1.1 then
 some (Sum.inr (false, ()))
 else
 obind (R.qcM K (Prod.fst (Prod.snd (List.getD q0 (Int.toNat q2) ([], 0, false)))) (-1000000) 1000000) fun v8 =>
 bif !v8.1.1 then
 some (Sum.inr (false, ()))
 else
 bif Prod.snd (Prod.snd (List.getD q0 (Int.toNat q2) ([], 0, false))) then
 bif Prod.fst (Prod.snd (List.getD q0 (Int.toNat q2) ([], 0, false))) != 0 then
 some (Sum.inr (false, ()))
 else
 bif decide (q2 > 0) then
 bif decide (0 ≤ IntKind.i64.wrap (q2 - 1)) && decide (IntKind.i64.wrap (q2 - 1) < (↑(List.length q0) : Int)) then
 bif Fw.sless (Prod.fst (List.getD q0 (Int.toNat q2) ([], 0, false))) (Prod.fst (List.getD q0 (Int.toNat (IntKind.i64.wrap (q2 - 1))) ([], 0, false))) || Prod.fst (List.getD q0 (Int.toNat q2) ([], 0, false)) == Prod.fst (List.getD q0 (Int.toNat (IntKind.i64.wrap (q2 - 1))) ([], 0, false)) then
 some (Sum.inr (false, ()))
 else
 R.L_qbF_0 K n (q0, q1, IntKind.i64.wrap (q2 + 1), ())
 else
 none
 else
 R.L_qbF_0 K n (q0, q1, IntKind.i64.wrap (q2 + 1), ())
 else
 bif decide (q2 > 0) then
 bif decide (0 ≤ IntKind.i64.wrap (q2 - 1)) && decide (IntKind.i64.wrap (q2 - 1) < (↑(List.length q0) : Int)) then
 bif Fw.sless (Prod.fst (List.getD q0 (Int.toNat q2) ([], 0, false))) (Prod.fst (List.getD q0 (Int.toNat (IntKind.i64.wrap (q2 - 1))) ([], 0, false))) || Prod.fst (List.getD q0 (Int.toNat q2) ([], 0, false)) == Prod.fst (List.getD q0 (Int.toNat (IntKind.i64.wrap (q2 - 1))) ([], 0, false)) then
 some (Sum.inr (false, ()))
 else
 R.L_qbF_0 K n (q0, q1, IntKind.i64.wrap (q2 + 1), ())
 else
 none
 else
 R.L_qbF_0 K n (q0, q1, IntKind.i64.wrap (q2 + 1), ())
 else
 none
 else
 some (Sum.inl (q1, ()))
def R.qbF (K : Nat) (p0 : List ((List UInt8) × ((Int) × (Bool)))) : Option (((Bool) × Unit) × Unit) :=
 bif decide ((↑(List.length p0) : Int) > 6) then
 some (((false, ()), ()))
 else
 obind (R.L_qbF_0 K K (p0, false, 0, ())) fun v3 =>
 (match v3 with
 | .inl v4 =>
 some (((true, ()), ()))
 | .inr v4 =>
 some (((v4.1, ()), ()))
 )
def R.qcY (K : Nat) (p0 : (Int) × R.T37) : Option (((Bool) × Unit) × Unit) :=
 obind (R.qcc K p0.2.2.1) fun v2 =>
 bif !v2.1.1 then
 some (((false, ()), ()))
 else
 obind (R.qcM K p0.1 1 6) fun v4 =>
 bif !v4.1.1 then
 some (((false, ()), ()))
 else
 obind (R.qbF K p0.2.2.2.2) fun v6 =>
 bif !v6.1.1 then
 some (((false, ()), ()))
 else
 bif p0.1 != 3 then
 bif decide ((↑(List.length p0.2.2.2.2) : Int) > 0) then
 some (((false, ()), ()))
 else
 bif p0.1 == 5 then
 obind (R.qcc K p0.2.2.2.1) fun v11 =>
 bif !v11.1.1 then
 some (((false, ()), ()))
 else
 bif p0.1 != 5 then
 bif !p0.2.2.2.1 == Array.toList (ByteArray.data (ByteArray.mk #[])) then
 some (((false, ()), ()))
 else
 bif p0.1 == 1 then
 bif p0.1 == 1 then
 obind (R.qcM K p0.2.1 1 60) fun v17 =>
 some (((v17.1.1, ()), ()))
 else
 bif p0.1 == 3 then
 obind (R.qcM K p0.2.1 0 60) fun v18 =>
 some (((v18.1.1, ()), ()))
 else
 some (((p0.2.1 == 0, ()), ()))
 else
 bif p0.1 == 4 then
 obind (R.qcM K p0.2.1 1 60) fun v17 =>
 some (((v17.1.1, ()), ()))
 else
 bif p0.1 == 3 then
 obind (R.qcM K p0.2.1 0 60) fun v18 =>
 some (((v18.1.1, ()), ()))
 else
 some (((p0.2.1 == 0, ()), ()))
 else
 bif p0.1 == 1 then
 bif p0.1 == 1 then
 obind (R.qcM K p0.2.1 1 60) fun v16 =>
 some (((v16.1.1, ()), ()))
 else
 bif p0.1 == 3 then
 obind (R.qcM K p0.2.1 0 60) fun v17 =>
 some (((v17.1.1, ()), ()))
 else
 some (((p0.2.1 == 0, ()), ()))
 else
 bif p0.1 == 4 then
 obind (R.qcM K p0.2.1 1 60) fun v16 =>
 some (((v16.1.1, ()), ()))
 else
 bif p0.1 == 3 then
 obind (R.qcM K p0.2.1 0 60) fun v17 =>
 some (((v17.1.1, ()), ()))
 else
 some (((p0.2.1 == 0, ()), ()))
 else
 bif p0.1 != 5 then
 bif !p0.2.2.2.1 == Array.toList (ByteArray.data (ByteArray.mk #[])) then
 some (((false, ()), ()))
 else
 bif p0.1 == 1 then
 bif p0.1 == 1 then
 obind (R.qcM K p0.2.1 1 60) fun v15 =>
 some (((v15.1.1, ()), ()))
 else
 bif p0.1 == 3 then
 obind (R.qcM K p0.2.1 0 60) fun v16 =>
 some (((v16.1.1, ()), ()))
 else
 some (((p0.2.1 == 0, ()), ()))
 else
 bif p0.1 == 4 then
 obind (R.qcM K p0.2.1 1 60) fun v15 =>
 some (((v15.1.1, ()), ()))
 else
 bif p0.1 == 3 then
 obind (R.qcM K p0.2.1 0 60) fun v16 =>
 some (((v16.1.1, ()), ()))
 else
 some (((p0.2.1 == 0, ()), ()))
 else
 bif p0.1 == 1 then
 bif p0.1 == 1 then
 obind (R.qcM K p0.2.1 1 60) fun v14 =>
 some (((v14.1.1, ()), ()))
 else
 bif p0.1 == 3 then
 obind (R.qcM K p0.2.1 0 60) fun v15 =>
 some (((v15.1.1, ()), ()))
 else
 some (((p0.2.1 == 0, ()), ()))
 else
 bif p0.1 == 4 then
 obind (R.qcM K p0.2.1 1 60) fun v14 =>
 some (((v14.1.1, ()), ()))
 else
 bif p0.1 == 3 then
 obind (R.qcM K p0.2.1 0 60) fun v15 =>
 some (((v15.1.1, ()), ()))
 else
 some (((p0.2.1 == 0, ()), ()))
 else
 bif p0.1 == 5 then
 obind (R.qcc K p0.2.2.2.1) fun v10 =>
 bif !v10.1.1 then
 some (((false, ()), ()))
 else
 bif p0.1 != 5 then
 bif !p0.2.2.2.1 == Array.toList (ByteArray.data (ByteArray.mk #[])) then
 some (((false, ()), ()))
 else
 bif p0.1 == 1 then
 bif p0.1 == 1 then
 obind (R.qcM K p0.2.1 1 60) fun v16 =>
 some (((v16.1.1, ()), ()))
 else
 bif p0.1 == 3 then
 obind (R.qcM K p0.2.1 0 60) fun v17 =>
 some (((v17.1.1, ()), ()))
 else
 some (((p0.2.1 == 0, ()), ()))
 else
 bif p0.1 == 4 then
 obind (R.qcM K p0.2.1 1 60) fun v16 =>
 some (((v16.1.1, ()), ()))
 else
 bif p0.1 == 3 then
 obind (R.qcM K p0.2.1 0 60) fun v17 =>
 some (((v17.1.1, ()), ()))
 else
 some (((p0.2.1 == 0, ()), ()))
 else
 bif p0.1 == 1 then
 bif p0.1 == 1 then
 obind (R.qcM K p0.2.1 1 60) fun v15 =>
 some (((v15.1.1, ()), ()))
 else
 bif p0.1 == 3 then
 obind (R.qcM K p0.2.1 0 60) fun v16 =>
 some (((v16.1.1, ()), ()))
 else
 some (((p0.2.1 == 0, ()), ()))
 else
 bif p0.1 == 4 then
 obind (R.qcM K p0.2.1 1 60) fun v15 =>
 some (((v15.1.1, ()), ()))
 else
 bif p0.1 == 3 then
 obind (R.qcM K p0.2.1 0 60) fun v16 =>
 some (((v16.1.1, ()), ()))
 else
 some (((p0.2.1 == 0, ()), ()))
 else
 bif p0.1 != 5 then
 bif !p0.2.2.2.1 == Array.toList (ByteArray.data (ByteArray.mk #[])) then
 some (((false, ()), ()))
 else
 bif p0.1 == 1 then
 bif p0.1 == 1 then
 obind (R.qcM K p0.2.1 1 60) fun v14 =>
 some (((v14.1.1, ()), ()))
 else
 bif p0.1 == 3 then
 obind (R.qcM K p0.2.1 0 60) fun v15 =>
 some (((v15.1.1, ()), ()))
 else
 some (((p0.2.1 == 0, ()), ()))
 else
 bif p0.1 == 4 then
 obind (R.qcM K p0.2.1 1 60) fun v14 =>
 some (((v14.1.1, ()), ()))
 else
 bif p0.1 == 3 then
 obind (R.qcM K p0.2.1 0 60) fun v15 =>
 some (((v15.1.1, ()), ()))
 else
 some (((p0.2.1 == 0, ()), ()))
 else
 bif p0.1 == 1 then
 bif p0.1 == 1 then
 obind (R.qcM K p0.2.1 1 60) fun v13 =>
 some (((v13.1.1, ()), ()))
 else
 bif p0.1 == 3 then
 obind (R.qcM K p0.2.1 0 60) fun v14 =>
 some (((v14.1.1, ()), ()))
 else
 some (((p0.2.1 == 0, ()), ()))
 else
 bif p0.1 == 4 then
 obind (R.qcM K p0.2.1 1 60) fun v13 =>
 some (((v13.1.1, ()), ()))
 else
 bif p0.1 == 3 then
 obind (R.qcM K p0.2.1 0 60) fun v14 =>
 some (((v14.1.1, ()), ()))
 else
 some (((p0.2.1 == 0, ()), ()))
def R.qbM (K : Nat) (p0 : Int) (p1 : List (List UInt8)) : Option (R.T39 × Unit) :=
 some ((((p0, 0, 0, p1, []), ()), ()))
def R.qcl (K : Nat) (p0 : List R.T4) (p1 : Int) (p2 : Int) (p3 : Bool) : Option R.T24 :=
 bif Nat.ble (0 + List.length p0) 268435456 then
 bif decide (0 ≤ p1) && decide (p1 < (↑(List.length p0) : Int)) then
 bif decide (0 ≤ p1) && decide (p1 < (↑(List.length (List.set p0 (Int.toNat p1) (Prod.fst (List.getD p0 (Int.toNat p1) ([], 0, 0, false)), p2, Prod.snd (Prod.snd (List.getD p0 (Int.toNat p1) ([], 0, 0, false)))))) : Int)) then
 bif decide (0 ≤ p1) && decide (p1 < (↑(List.length (List.set p0 (Int.toNat p1) (Prod.fst (List.getD p0 (Int.toNat p1) ([], 0, 0, false)), p2, Prod.snd (Prod.snd (List.getD p0 (Int.toNat p1) ([], 0, 0, false)))))) : Int)) then
 bif decide (0 ≤ p1) && decide (p1 < (↑(List.length (List.set (List.set p0 (Int.toNat p1) (Prod.fst (List.getD p0 (Int.toNat p1) ([], 0, 0, false)), p2, Prod.snd (Prod.snd (List.getD p0 (Int.toNat p1) ([], 0, 0, false))))) (Int.toNat p1) (Prod.fst (List.getD (List.set p0 (Int.toNat p1) (Prod.fst (List.getD p0 (Int.toNat p1) ([], 0, 0, false)), p2, Prod.snd (Prod.snd (List.getD p0 (Int.toNat p1) ([], 0, 0, false))))) (Int.toNat p1) ([], 0, 0, false)), Prod.fst (Prod.snd (List.getD (List.set p0 (Int.toNat p1) (Prod.fst (List.getD p0 (Int.toNat p1) ([], 0, 0, false)), p2, Prod.snd (Prod.snd (List.getD p0 (Int.toNat p1) ([], 0, 0, false))))) (Int.toNat p1) ([], 0, 0, false))), IntKind.i64.wrap (Prod.fst (Prod.snd (Prod.snd (List.getD (List.set p0 (Int.toNat p1) (Prod.fst (List.getD p0 (Int.toNat p1) ([], 0, 0, false)), p2, Prod.snd (Prod.snd (List.getD p0 (Int.toNat p1) ([], 0, 0, false))))) (Int.toNat p1) ([], 0, 0, false)))) + 1), Prod.snd (Prod.snd (Prod.snd (List.getD (List.set p0 (Int.toNat p1) (Prod.fst (List.getD p0 (Int.toNat p1) ([], 0, 0, false)), p2, Prod.snd (Prod.snd (List.getD p0 (Int.toNat p1) ([], 0, 0, false))))) (Int.toNat p1) ([], 0, 0, false))))))) : Int)) then
 some (((List.set (List.set (List.set p0 (Int.toNat p1) (Prod.fst (List.getD p0 (Int.toNat p1) ([], 0, 0, false)), p2, Prod.snd (Prod.snd (List.getD p0 (Int.toNat p1) ([], 0, 0, false))))) (Int.toNat p1) (Prod.fst (List.getD (List.set p0 (Int.toNat p1) (Prod.fst (List.getD p0 (Int.toNat p1) ([], 0, 0, false)), p2, Prod.snd (Prod.snd (List.getD p0 (Int.toNat p1) ([], 0, 0, false))))) (Int.toNat p1) ([], 0, 0, false)), Prod.fst (Prod.snd (List.getD (List.set p0 (Int.toNat p1) (Prod.fst (List.getD p0 (Int.toNat p1) ([], 0, 0, false)), p2, Prod.snd (Prod.snd (List.getD p0 (Int.toNat p1) ([], 0, 0, false))))) (Int.toNat p1) ([], 0, 0, false))), IntKind.i64.wrap (Prod.fst (Prod.snd (Prod.snd (List.getD (List.set p0 (Int.toNat p1) (Prod.fst (List.getD p0 (Int.toNat p1) ([], 0, 0, false)), p2, Prod.snd (Prod.snd (List.getD p0 (Int.toNat p1) ([], 0, 0, false))))) (Int.toNat p1) ([], 0, 0, false)))) + 1), Prod.snd (Prod.snd (Prod.snd (List.getD (List.set p0 (Int.toNat p1) (Prod.fst (List.getD p0 (Int.toNat p1) ([], 0, 0, false)), p2, Prod.snd (Prod.snd (List.getD p0 (Int.toNat p1) ([], 0, 0, false))))) (Int.toNat p1) ([], 0, 0, false)))))) (Int.toNat p1) (Prod.fst (List.getD (List.set (List.set p0 (Int.toNat p1) (Prod.fst (List.getD p0 (Int.toNat p1) ([], 0, 0, false)), p2, Prod.snd (Prod.snd (List.getD p0 (Int.toNat p1) ([], 0, 0, false))))) (Int.toNat p1) (Prod.fst (List.getD (List.set p0 (Int.toNat p1) (Prod.fst (List.getD p0 (Int.toNat p1) ([], 0, 0, false)), p2, Prod.snd (Prod.snd (List.getD p0 (Int.toNat p1) ([], 0, 0, false))))) (Int.toNat p1) ([], 0, 0, false)), Prod.fst (Prod.snd (List.getD (List.set p0 (Int.toNat p1) (Prod.fst (List.getD p0 (Int.toNat p1) ([], 0, 0, false)), p2, Prod.snd (Prod.snd (List.getD p0 (Int.toNat p1) ([], 0, 0, false))))) (Int.toNat p1) ([], 0, 0, false))), IntKind.i64.wrap (Prod.fst (Prod.snd (Prod.snd (List.getD (List.set p0 (Int.toNat p1) (Prod.fst (List.getD p0 (Int.toNat p1) ([], 0, 0, false)), p2, Prod.snd (Prod.snd (List.getD p0 (Int.toNat p1) ([], 0, 0, false))))) (Int.toNat p1) ([], 0, 0, false)))) + 1), Prod.snd (Prod.snd (Prod.snd (List.getD (List.set p0 (Int.toNat p1) (Prod.fst (List.getD p0 (Int.toNat p1) ([], 0, 0, false)), p2, Prod.snd (Prod.snd (List.getD p0 (Int.toNat p1) ([], 0, 0, false))))) (Int.toNat p1) ([], 0, 0, false)))))) (Int.toNat p1) ([], 0, 0, false)), Prod.fst (Prod.snd (List.getD (List.set (List.set p0 (Int.toNat p1) (Prod.fst (List.getD p0 (Int.toNat p1) ([], 0, 0, false)), p2, Prod.snd (Prod.snd (List.getD p0 (Int.toNat p1) ([], 0, 0, false))))) (Int.toNat p1) (Prod.fst (List.getD (List.set p0 (Int.toNat p1) (Prod.fst (List.getD p0 (Int.toNat p1) ([], 0, 0, false)), p2, Prod.snd (Prod.snd (List.getD p0 (Int.toNat p1) ([], 0, 0, false))))) (Int.toNat p1) ([], 0, 0, false)), Prod.fst (Prod.snd (List.getD (List.set p0 (Int.toNat p1) (Prod.fst (List.getD p0 (Int.toNat p1) ([], 0, 0, false)), p2, Prod.snd (Prod.snd (List.getD p0 (Int.toNat p1) ([], 0, 0, false))))) (Int.toNat p1) ([], 0, 0, false))), IntKind.i64.wrap (Prod.fst (Prod.snd (Prod.snd (List.getD (List.set p0 (Int.toNat p1) (Prod.fst (List.getD p0 (Int.toNat p1) ([], 0, 0, false)), p2, Prod.snd (Prod.snd (List.getD p0 (Int.toNat p1) ([], 0, 0, false))))) (Int.toNat p1) ([], 0, 0, false)))) + 1), Prod.snd (Prod.snd (Prod.snd (List.getD (List.set p0 (Int.toNat p1) (Prod.fst (List.getD p0 (Int.toNat p1) ([], 0, 0, false)), p2, Prod.snd (Prod.snd (List.getD p0 (Int.toNat p1) ([], 0, 0, false))))) (Int.toNat p1) ([], 0, 0, false)))))) (Int.toNat p1) ([], 0, 0, false))), Prod.fst (Prod.snd (Prod.snd (List.getD (List.set (List.set p0 (Int.toNat p1) (Prod.fst (List.getD p0 (Int.toNat p1) ([], 0, 0, false)), p2, Prod.snd (Prod.snd (List.getD p0 (Int.toNat p1) ([], 0, 0, false))))) (Int.toNat p1) (Prod.fst (List.getD (List.set p0 (Int.toNat p1) (Prod.fst (List.getD p0 (Int.toNat p1) ([], 0, 0, false)), p2, Prod.snd (Prod.snd (List.getD p0 (Int.toNat p1) ([], 0, 0, false))))) (Int.toNat p1) ([], 0, 0, false)), Prod.fst (Prod.snd (List.getD (List.set p0 (Int.toNat p1) (Prod.fst (List.getD p0 (Int.toNat p1) ([], 0, 0, false)), p2, Prod.snd (Prod.snd (List.getD p0 (Int.toNat p1) ([], 0, 0, false))))) (Int.toNat p1) ([], 0, 0, false))), IntKind.i64.wrap (Prod.fst (Prod.snd (Prod.snd (List.getD (List.set p0 (Int.toNat p1) (Prod.fst (List.getD p0 (Int.toNat p1) ([], 0, 0, false)), p2, Prod.snd (Prod.snd (List.getD p0 (Int.toNat p1) ([], 0, 0, false))))) (Int.toNat p1) ([], 0, 0, false)))) + 1), Prod.snd (Prod.snd (Prod.snd (List.getD (List.set p0 (Int.toNat p1) (Prod.fst (List.getD p0 (Int.toNat p1) ([], 0, 0, false)), p2, Prod.snd (Prod.snd (List.getD p0 (Int.toNat p1) ([], 0, 0, false))))) (Int.toNat p1) ([], 0, 0, false)))))) (Int.toNat p1) ([], 0, 0, false)))), p3), ()), ()))
 else
 none
 else
 none
 else
 none
 else
 none
 else
 none
def R.qaZ (K : Nat) (p0 : List R.T4) (p1 : List UInt8) (p2 : Int) : Option R.T32 :=
 obind (R.qcX K p0 p1) fun v2 =>
 bif decide (v2.1.1 ≥ 0) then
 bif decide (0 ≤ v2.1.1) && decide (v2.1.1 < (↑(List.length p0) : Int)) then
 bif !Prod.snd (Prod.snd (Prod.snd (List.getD p0 (Int.toNat v2.1.1) ([], 0, 0, false)))) then
 some (((p0, 14, ()), ()))
 else
 bif decide (v2.1.1 ≥ 0) then
 bif decide (0 ≤ v2.1.1) && decide (v2.1.1 < (↑(List.length p0) : Int)) then
 bif Prod.fst (Prod.snd (Prod.snd (List.getD p0 (Int.toNat v2.1.1) ([], 0, 0, false)))) == 1000000 then
 some (((p0, 7, ()), ()))
 else
 bif decide (v2.1.1 < 0) then
 bif (↑(List.length p0) : Int) == 8 then
 some (((p0, 7, ()), ()))
 else
 bif decide (v2.1.1 ≥ 0) then
 obind (R.qcl K p0 v2.1.1 p2 false) fun v12 =>
 some (((v12.1.1, 0, ()), ()))
 else
 bif Nat.ble (0 + List.length p0) 268435456 then
 bif Nat.ble (List.length p0 + 1) 268435456 then
 some (((p0 ++ [(p1, p2, 1, false)], 0, ()), ()))
 else
 none
 else
 none
 else
 bif decide (v2.1.1 ≥ 0) then
 obind (R.qcl K p0 v2.1.1 p2 false) fun v11 =>
 some (((v11.1.1, 0, ()), ()))
 else
 bif Nat.ble (0 + List.length p0) 268435456 then
 bif Nat.ble (List.length p0 + 1) 268435456 then
 some (((p0 ++ [(p1, p2, 1, false)], 0, ()), ()))
 else
 none
 else
 none
 else
 none
 else
 bif decide (v2.1.1 < 0) then
 bif (↑(List.length p0) : Int) == 8 then
 some (((p0, 7, ()), ()))
 else
 bif decide (v2.1.1 ≥ 0) then
 obind (R.qcl K p0 v2.1.1 p2 false) fun v10 =>
 some (((v10.1.1, 0, ()), ()))
 else
 bif Nat.ble (0 + List.length p0) 268435456 then
 bif Nat.ble (List.length p0 + 1) 268435456 then
 some (((p0 ++ [(p1, p2, 1, false)], 0, ()), ()))
 else
 none
 else
 none
 else
 bif decide (v2.1.1 ≥ 0) then
 obind (R.qcl K p0 v2.1.1 p2 false) fun v9 =>
 some (((v9.1.1, 0, ()), ()))
 else
 bif Nat.ble (0 + List.length p0) 268435456 then
 bif Nat.ble (List.length p0 + 1) 268435456 then
 some (((p0 ++ [(p1, p2, 1, false)], 0, ()), ()))
 else
 none
 else
 none
 else
 none
 else
 bif decide (v2.1.1 ≥ 0) then
 bif decide (0 ≤ v2.1.1) && decide (v2.1.1 < (↑(List.length p0) : Int)) then
 bif Prod.fst (Prod.snd (Prod.snd (List.getD p0 (Int.toNat v2.1.1) ([], 0, 0, false)))) == 1000000 then
 some (((p0, 7, ()), ()))
 else
 bif decide (v2.1.1 < 0) then
 bif (↑(List.length p0) : Int) == 8 then
 some (((p0, 7, ()), ()))
 else
 bif decide (v2.1.1 ≥ 0) then
 obind (R.qcl K p0 v2.1.1 p2 false) fun v10 =>
 some (((v10.1.1, 0, ()), ()))
 else
 bif Nat.ble (0 + List.length p0) 268435456 then
 bif Nat.ble (List.length p0 + 1) 268435456 then
 some (((p0 ++ [(p1, p2, 1, false)], 0, ()), ()))
 else
 none
 else
 none
 else
 bif decide (v2.1.1 ≥ 0) then
 obind (R.qcl K p0 v2.1.1 p2 false) fun v9 =>
 some (((v9.1.1, 0, ()), ()))
 else
 bif Nat.ble (0 + List.length p0) 268435456 then
 bif Nat.ble (List.length p0 + 1) 268435456 then
 some (((p0 ++ [(p1, p2, 1, false)], 0, ()), ()))
 else
 none
 else
 none
 else
 none
 else
 bif decide (v2.1.1 < 0) then
 bif (↑(List.length p0) : Int) == 8 then
 some (((p0, 7, ()), ()))
 else
 bif decide (v2.1.1 ≥ 0) then
 obind (R.qcl K p0 v2.1.1 p2 false) fun v8 =>
 some (((v8.1.1, 0, ()), ()))
 else
 bif Nat.ble (0 + List.length p0) 268435456 then
 bif Nat.ble (List.length p0 + 1) 268435456 then
 some (((p0 ++ [(p1, p2, 1, false)], 0, ()), ()))
 else
 none
 else
 none
 else
 bif decide (v2.1.1 ≥ 0) then
 obind (R.qcl K p0 v2.1.1 p2 false) fun v7 =>
 some (((v7.1.1, 0, ()), ()))
 else
 bif Nat.ble (0 + List.length p0) 268435456 then
 bif Nat.ble (List.length p0 + 1) 268435456 then
 some (((p0 ++ [(p1, p2, 1, false)], 0, ()), ()))
 else
 none
 else
 none
def R.qbS (K : Nat) (p0 : List R.T4) (p1 : List UInt8) : Option (((Int) × Unit) × Unit) :=
 obind (R.qcX K p0 p1) fun v2 =>
 bif decide (v2.1.1 ≥ 0) then
 bif decide (0 ≤ v2.1.1) && decide (v2.1.1 < (↑(List.length p0) : Int)) then
 bif Prod.snd (Prod.snd (Prod.snd (List.getD p0 (Int.toNat v2.1.1) ([], 0, 0, false)))) then
 some (((-1, ()), ()))
 else
 some (((v2.1.1, ()), ()))
 else
 none
 else
 some (((v2.1.1, ()), ()))
def R.qaY (K : Nat) (p0 : List R.T4) (p1 : List UInt8) : Option R.T32 :=
 obind (R.qbS K p0 p1) fun v2 =>
 bif decide (v2.1.1 < 0) then
 some (((p0, 10, ()), ()))
 else
 bif decide (0 ≤ v2.1.1) && decide (v2.1.1 < (↑(List.length p0) : Int)) then
 bif Prod.fst (Prod.snd (Prod.snd (List.getD p0 (Int.toNat v2.1.1) ([], 0, 0, false)))) == 1000000 then
 some (((p0, 7, ()), ()))
 else
 obind (R.qcl K p0 v2.1.1 0 true) fun v6 =>
 some (((v6.1.1, 0, ()), ()))
 else
 none
def R.L_qaW_0 (K : Nat) : Nat → ((List ((List UInt8) × (Int))) × ((List UInt8) × R.T35)) → Option R.T33
 | 0, _ => none
 | n + 1, (q0, (q1, (q2, (q3, (q4, ()))))) =>
 bif decide (q2 < (↑(List.length q0) : Int)) then
 bif decide (0 ≤ q2) && decide (q2 < (↑(List.length q0) : Int)) then
 bif !Prod.fst (List.getD q0 (Int.toNat q2) ([], 0)) == q1 then
 bif decide (0 ≤ q2) && decide (q2 < (↑(List.length q0) : Int)) then
 bif Nat.ble (List.length q4 + 1) 268435456 then
 R.L_qaW_0 K n (q0, q1, IntKind.i64.wrap (q2 + 1), q3, q4 ++ [List.getD q0 (Int.toNat q2) ([], 0)], ())
 else
 none
 else
 none
 else
 R.L_qaW_0 K n (q0, q1, IntKind.i64.wrap (q2 + 1), q3, q4, ())
 else
 none
 else
 some (Sum.inl (q3, q4, ()))
def R.qaW (K : Nat) (p0 : List ((List UInt8) × (Int))) (p1 : List UInt8) : Option R.T6 :=
 obind (R.L_qaW_0 K K (p0, p1, 0, [], [], ())) fun v2 =>
 (match v2 with
 | .inl v3 =>
 some (((v3.2.1, ()), ()))
 | .inr v3 =>
 none
 )
def R.L_qcy_0 (K : Nat) : Nat → ((List ((List UInt8) × (Int))) × ((List UInt8) × ((Int) × ((Bool) × R.T35)))) → Option (((List UInt8) × ((Int) × ((Bool) × R.T27))) ⊕ Unit)
 | 0, _ => none
 | n + 1, (q0, (q1, (q2, (q3, (q4, (q5, (q6, ()))))))) =>
 bif decide (q4 < (↑(List.length q0) : Int)) then
 bif !q3 then
 bif decide (0 ≤ q4) && decide (q4 < (↑(List.length q0) : Int)) then
 bif !Fw.sless (Prod.fst (List.getD q0 (Int.toNat q4) ([], 0))) q1 then
 bif Nat.ble (List.length q6 + 1) 268435456 then
 bif decide (0 ≤ q4) && decide (q4 < (↑(List.length q0) : Int)) then
 bif !Prod.fst (List.getD q0 (Int.toNat q4) ([], 0)) == q1 then
 bif decide (0 ≤ q4) && decide (q4 < (↑(List.length q0) : Int)) then
 bif Nat.ble (List.length (q6 ++ [(q1, q2)]) + 1) 268435456 then
 R.L_qcy_0 K n (q0, q1, q2, true, IntKind.i64.wrap (q4 + 1), q5, q6 ++ [(q1, q2)] ++ [List.getD q0 (Int.toNat q4) ([], 0)], ())
 else
 none
 else
 none
 else
 R.L_qcy_0 K n (q0, q1, q2, true, IntKind.i64.wrap (q4 + 1), q5, q6 ++ [(q1, q2)], ())
 else
 none
 else
 none
 else
 bif decide (0 ≤ q4) && decide (q4 < (↑(List.length q0) : Int)) then
 bif !Prod.fst (List.getD q0 (Int.toNat q4) ([], 0)) == q1 then
 bif decide (0 ≤ q4) && decide (q4 < (↑(List.length q0) : Int)) then
 bif Nat.ble (List.length q6 + 1) 268435456 then
 R.L_qcy_0 K n (q0, q1, q2, q3, IntKind.i64.wrap (q4 + 1), q5, q6 ++ [List.getD q0 (Int.toNat q4) ([], 0)], ())
 else
 none
 else
 none
 else
 R.L_qcy_0 K n (q0, q1, q2, q3, IntKind.i64.wrap (q4 + 1), q5, q6, ())
 else
 none
 else
 none
 else
 bif decide (0 ≤ q4) && decide (q4 < (↑(List.length q0) : Int)) then
 bif !Prod.fst (List.getD q0 (Int.toNat q4) ([], 0)) == q1 then
 bif decide (0 ≤ q4) && decide (q4 < (↑(List.length q0) : Int)) then
 bif Nat.ble (List.length q6 + 1) 268435456 then
 R.L_qcy_0 K n (q0, q1, q2, q3, IntKind.i64.wrap (q4 + 1), q5, q6 ++ [List.getD q0 (Int.toNat q4) ([], 0)], ())
 else
 none
 else
 none
 else
 R.L_qcy_0 K n (q0, q1, q2, q3, IntKind.i64.wrap (q4 + 1), q5, q6, ())
 else
 none
 else
 some (Sum.inl (q1, q2, q3, q5, q6, ()))
def R.qcy (K : Nat) (p0 : List ((List UInt8) × (Int))) (p1 : List UInt8) (p2 : Int) : Option R.T6 :=
 obind (R.L_qcy_0 K K (p0, p1, p2, false, 0, [], [], ())) fun v2 =>
 (match v2 with
 | .inl v3 =>
 bif !v3.2.2.1 then
 bif Nat.ble (List.length v3.2.2.2.2.1 + 1) 268435456 then
 some (((v3.2.2.2.2.1 ++ [(v3.1, v3.2.1)], ()), ()))
 else
 none
 else
 some (((v3.2.2.2.2.1, ()), ()))
 | .inr v3 =>
 none
 )
def R.L_qbp_0 (K : Nat) : Nat → (R.T0 × R.T35) → Option R.T33
 | 0, _ => none
 | n + 1, (q0, (q1, (q2, (q3, ())))) =>
 bif decide (q1 < (↑(List.length q0) : Int)) then
 bif decide (0 ≤ q1) && decide (q1 < (↑(List.length q0) : Int)) then
 bif Prod.snd (Prod.snd (List.getD q0 (Int.toNat q1) ([], 0, false))) then
 bif decide (0 ≤ q1) && decide (q1 < (↑(List.length q0) : Int)) then
 obind (R.qaW K q2 (Prod.fst (List.getD q0 (Int.toNat q1) ([], 0, false)))) fun v8 =>
 R.L_qbp_0 K n (q0, IntKind.i64.wrap (q1 + 1), v8.1.1, q3, ())
 else
 none
 else
 bif decide (0 ≤ q1) && decide (q1 < (↑(List.length q0) : Int)) then
 bif decide (0 ≤ q1) && decide (q1 < (↑(List.length q0) : Int)) then
 obind (R.qcy K q2 (Prod.fst (List.getD q0 (Int.toNat q1) ([], 0, false))) (Prod.fst (Prod.snd (List.getD q0 (Int.toNat q1) ([], 0, false))))) fun v9 =>
 R.L_qbp_0 K n (q0, IntKind.i64.wrap (q1 + 1), v9.1.1, q3, ())
 else
 none
 else
 none
 else
 none
 else
 some (Sum.inl (q2, q3, ()))
def R.qbp (K : Nat) (p0 : List ((List UInt8) × (Int))) (p1 : List ((List UInt8) × ((Int) × (Bool)))) : Option R.T6 :=
 bif Nat.ble (0 + List.length p0) 268435456 then
 obind (R.L_qbp_0 K K (p1, 0, p0, [], ())) fun v3 =>
 (match v3 with
 | .inl v4 =>
 some (((v4.1, ()), ()))
 | .inr v4 =>
 none
 )
 else
 none
def R.L_qbJ_0 (K : Nat) : Nat → R.T52 → Option R.T41
 | 0, _ => none
 | n + 1, (q0, (q1, (q2, (q3, (q4, (q5, ())))))) =>
 bif decide (q2 < (↑(List.length q0) : Int)) then
 bif q3 == (↑(List.length q1) : Int) then
 bif decide (0 ≤ q2) && decide (q2 < (↑(List.length q0) : Int)) then
 bif Nat.ble (List.length q5 + 1) 268435456 then
 R.L_qbJ_0 K n (q0, q1, IntKind.i64.wrap (q2 + 1), q3, q4, q5 ++ [(Prod.fst (List.getD q0 (Int.toNat q2) ([], 0)), 0, true)], ())
 else
 none
 else
 none
 else
 bif decide (q2 < (↑(List.length q0) : Int)) then
 bif decide (0 ≤ q2) && decide (q2 < (↑(List.length q0) : Int)) then
 bif decide (0 ≤ q3) && decide (q3 < (↑(List.length q1) : Int)) then
 bif Fw.sless (Prod.fst (List.getD q0 (Int.toNat q2) ([], 0))) (Prod.fst (List.getD q1 (Int.toNat q3) ([], 0))) then
 bif decide (0 ≤ q2) && decide (q2 < (↑(List.length q0) : Int)) then
 bif Nat.ble (List.length q5 + 1) 268435456 then
 R.L_qbJ_0 K n (q0, q1, IntKind.i64.wrap (q2 + 1), q3, q4, q5 ++ [(Prod.fst (List.getD q0 (Int.toNat q2) ([], 0)), 0, true)], ())
 else
 none
 else
 none
 else
 bif q2 == (↑(List.length q0) : Int) then
 bif decide (0 ≤ q3) && decide (q3 < (↑(List.length q1) : Int)) then
 bif decide (0 ≤ q3) && decide (q3 < (↑(List.length q1) : Int)) then
 bif Nat.ble (List.length q5 + 1) 268435456 then
 R.L_qbJ_0 K n (q0, q1, q2, IntKind.i64.wrap (q3 + 1), q4, q5 ++ [(Prod.fst (List.getD q1 (Int.toNat q3) ([], 0)), Prod.snd (List.getD q1 (Int.toNat q3) ([], 0)), false)], ())
 else
 none
 else
 none
 else
 none
 else
 bif decide (0 ≤ q3) && decide (q3 < (↑(List.length q1) : Int)) then
 bif decide (0 ≤ q2) && decide (q2 < (↑(List.length q0) : Int)) then
 bif Fw.sless (Prod.fst (List.getD q1 (Int.toNat q3) ([], 0))) (Prod.fst (List.getD q0 (Int.toNat q2) ([], 0))) then
 bif decide (0 ≤ q3) && decide (q3 < (↑(List.length q1) : Int)) then
 bif decide (0 ≤ q3) && decide (q3 < (↑(List.length q1) : Int)) then
 bif Nat.ble (List.length q5 + 1) 268435456 then
 R.L_qbJ_0 K n (q0, q1, q2, IntKind.i64.wrap (q3 + 1), q4, q5 ++ [(Prod.fst (List.getD q1 (Int.toNat q3) ([], 0)), Prod.snd (List.getD q1 (Int.toNat q3) ([], 0)), false)], ())
 else
 none
 else
 none
 else
 none
 else
 bif decide (0 ≤ q2) && decide (q2 < (↑(List.length q0) : Int)) then
 bif decide (0 ≤ q3) && decide (q3 < (↑(List.length q1) : Int)) then
 bif Prod.snd (List.getD q0 (Int.toNat q2) ([], 0)) != Prod.snd (List.getD q1 (Int.toNat q3) ([], 0)) then
 bif decide (0 ≤ q3) && decide (q3 < (↑(List.length q1) : Int)) then
 bif decide (0 ≤ q3) && decide (q3 < (↑(List.length q1) : Int)) then
 bif Nat.ble (List.length q5 + 1) 268435456 then
 R.L_qbJ_0 K n (q0, q1, IntKind.i64.wrap (q2 + 1), IntKind.i64.wrap (q3 + 1), q4, q5 ++ [(Prod.fst (List.getD q1 (Int.toNat q3) ([], 0)), Prod.snd (List.getD q1 (Int.toNat q3) ([], 0)), false)], ())
 else
 none
 else
 none
 else
 none
 else
 R.L_qbJ_0 K n (q0, q1, IntKind.i64.wrap (q2 + 1), IntKind.i64.wrap (q3 + 1), q4, q5, ())
 else
 none
 else
 none
 else
 none
 else
 none
 else
 none
 else
 none
 else
 bif q2 == (↑(List.length q0) : Int) then
 bif decide (0 ≤ q3) && decide (q3 < (↑(List.length q1) : Int)) then
 bif decide (0 ≤ q3) && decide (q3 < (↑(List.length q1) : Int)) then
 bif Nat.ble (List.length q5 + 1) 268435456 then
 R.L_qbJ_0 K n (q0, q1, q2, IntKind.i64.wrap (q3 + 1), q4, q5 ++ [(Prod.fst (List.getD q1 (Int.toNat q3) ([], 0)), Prod.snd (List.getD q1 (Int.toNat q3) ([], 0)), false)], ())
 else
 none
 else
 none
 else
 none
 else
 bif decide (0 ≤ q3) && decide (q3 < (↑(List.length q1) : Int)) then
 bif decide (0 ≤ q2) && decide (q2 < (↑(List.length q0) : Int)) then
 bif Fw.sless (Prod.fst (List.getD q1 (Int.toNat q3) ([], 0))) (Prod.fst (List.getD q0 (Int.toNat q2) ([], 0))) then
 bif decide (0 ≤ q3) && decide (q3 < (↑(List.length q1) : Int)) then
 bif decide (0 ≤ q3) && decide (q3 < (↑(List.length q1) : Int)) then
 bif Nat.ble (List.length q5 + 1) 268435456 then
 R.L_qbJ_0 K n (q0, q1, q2, IntKind.i64.wrap (q3 + 1), q4, q5 ++ [(Prod.fst (List.getD q1 (Int.toNat q3) ([], 0)), Prod.snd (List.getD q1 (Int.toNat q3) ([], 0)), false)], ())
 else
 none
 else
 none
 else
 none
 else
 bif decide (0 ≤ q2) && decide (q2 < (↑(List.length q0) : Int)) then
 bif decide (0 ≤ q3) && decide (q3 < (↑(List.length q1) : Int)) then
 bif Prod.snd (List.getD q0 (Int.toNat q2) ([], 0)) != Prod.snd (List.getD q1 (Int.toNat q3) ([], 0)) then
 bif decide (0 ≤ q3) && decide (q3 < (↑(List.length q1) : Int)) then
 bif decide (0 ≤ q3) && decide (q3 < (↑(List.length q1) : Int)) then
 bif Nat.ble (List.length q5 + 1) 268435456 then
 R.L_qbJ_0 K n (q0, q1, IntKind.i64.wrap (q2 + 1), IntKind.i64.wrap (q3 + 1), q4, q5 ++ [(Prod.fst (List.getD q1 (Int.toNat q3) ([], 0)), Prod.snd (List.getD q1 (Int.toNat q3) ([], 0)), false)], ())
 else
 none
 else
 none
 else
 none
 else
 R.L_qbJ_0 K n (q0, q1, IntKind.i64.wrap (q2 + 1), IntKind.i64.wrap (q3 + 1), q4, q5, ())
 else
 none
 else
 none
 else
 none
 else
 none
 else
 bif decide (q3 < (↑(List.length q1) : Int)) then
 bif q3 == (↑(List.length q1) : Int) then
 bif decide (0 ≤ q2) && decide (q2 < (↑(List.length q0) : Int)) then
 bif Nat.ble (List.length q5 + 1) 268435456 then
 R.L_qbJ_0 K n (q0, q1, IntKind.i64.wrap (q2 + 1), q3, q4, q5 ++ [(Prod.fst (List.getD q0 (Int.toNat q2) ([], 0)), 0, true)], ())
 else
 none
 else
 none
 else
 bif decide (q2 < (↑(List.length q0) : Int)) then
 bif decide (0 ≤ q2) && decide (q2 < (↑(List.length q0) : Int)) then
 bif decide (0 ≤ q3) && decide (q3 < (↑(List.length q1) : Int)) then
 bif Fw.sless (Prod.fst (List.getD q0 (Int.toNat q2) ([], 0))) (Prod.fst (List.getD q1 (Int.toNat q3) ([], 0))) then
 bif decide (0 ≤ q2) && decide (q2 < (↑(List.length q0) : Int)) then
 bif Nat.ble (List.length q5 + 1) 268435456 then
 R.L_qbJ_0 K n (q0, q1, IntKind.i64.wrap (q2 + 1), q3, q4, q5 ++ [(Prod.fst (List.getD q0 (Int.toNat q2) ([], 0)), 0, true)], ())
 else
 none
 else
 none
 else
 bif q2 == (↑(List.length q0) : Int) then
 bif decide (0 ≤ q3) && decide (q3 < (↑(List.length q1) : Int)) then
 bif decide (0 ≤ q3) && decide (q3 < (↑(List.length q1) : Int)) then
 bif Nat.ble (List.length q5 + 1) 268435456 then
 R.L_qbJ_0 K n (q0, q1, q2, IntKind.i64.wrap (q3 + 1), q4, q5 ++ [(Prod.fst (List.getD q1 (Int.toNat q3) ([], 0)), Prod.snd (List.getD q1 (Int.toNat q3) ([], 0)), false)], ())
 else
 none
 else
 none
 else
 none
 else
 bif decide (0 ≤ q3) && decide (q3 < (↑(List.length q1) : Int)) then
 bif decide (0 ≤ q2) && decide (q2 < (↑(List.length q0) : Int)) then
 bif Fw.sless (Prod.fst (List.getD q1 (Int.toNat q3) ([], 0))) (Prod.fst (List.getD q0 (Int.toNat q2) ([], 0))) then
 bif decide (0 ≤ q3) && decide (q3 < (↑(List.length q1) : Int)) then
 bif decide (0 ≤ q3) && decide (q3 < (↑(List.length q1) : Int)) then
 bif Nat.ble (List.length q5 + 1) 268435456 then
 R.L_qbJ_0 K n (q0, q1, q2, IntKind.i64.wrap (q3 + 1), q4, q5 ++ [(Prod.fst (List.getD q1 (Int.toNat q3) ([], 0)), Prod.snd (List.getD q1 (Int.toNat q3) ([], 0)), false)], ())
 else
 none
 else
 none
 else
 none
 else
 bif decide (0 ≤ q2) && decide (q2 < (↑(List.length q0) : Int)) then
 bif decide (0 ≤ q3) && decide (q3 < (↑(List.length q1) : Int)) then
 bif Prod.snd (List.getD q0 (Int.toNat q2) ([], 0)) != Prod.snd (List.getD q1 (Int.toNat q3) ([], 0)) then
 bif decide (0 ≤ q3) && decide (q3 < (↑(List.length q1) : Int)) then
 bif decide (0 ≤ q3) && decide (q3 < (↑(List.length q1) : Int)) then
 bif Nat.ble (List.length q5 + 1) 268435456 then
 R.L_qbJ_0 K n (q0, q1, IntKind.i64.wrap (q2 + 1), IntKind.i64.wrap (q3 + 1), q4, q5 ++ [(Prod.fst (List.getD q1 (Int.toNat q3) ([], 0)), Prod.snd (List.getD q1 (Int.toNat q3) ([], 0)), false)], ())
 else
 none
 else
 none
 else
 none
 else
 R.L_qbJ_0 K n (q0, q1, IntKind.i64.wrap (q2 + 1), IntKind.i64.wrap (q3 + 1), q4, q5, ())
 else
 none
 else
 none
 else
 none
 else
 none
 else
 none
 else
 none
 else
 bif q2 == (↑(List.length q0) : Int) then
 bif decide (0 ≤ q3) && decide (q3 < (↑(List.length q1) : Int)) then
 bif decide (0 ≤ q3) && decide (q3 < (↑(List.length q1) : Int)) then
 bif Nat.ble (List.length q5 + 1) 268435456 then
 R.L_qbJ_0 K n (q0, q1, q2, IntKind.i64.wrap (q3 + 1), q4, q5 ++ [(Prod.fst (List.getD q1 (Int.toNat q3) ([], 0)), Prod.snd (List.getD q1 (Int.toNat q3) ([], 0)), false)], ())
 else
 none
 else
 none
 else
 none
 else
 bif decide (0 ≤ q3) && decide (q3 < (↑(List.length q1) : Int)) then
 bif decide (0 ≤ q2) && decide (q2 < (↑(List.length q0) : Int)) then
 bif Fw.sless (Prod.fst (List.getD q1 (Int.toNat q3) ([], 0))) (Prod.fst (List.getD q0 (Int.toNat q2) ([], 0))) then
 bif decide (0 ≤ q3) && decide (q3 < (↑(List.length q1) : Int)) then
 bif decide (0 ≤ q3) && decide (q3 < (↑(List.length q1) : Int)) then
 bif Nat.ble (List.length q5 + 1) 268435456 then
 R.L_qbJ_0 K n (q0, q1, q2, IntKind.i64.wrap (q3 + 1), q4, q5 ++ [(Prod.fst (List.getD q1 (Int.toNat q3) ([], 0)), Prod.snd (List.getD q1 (Int.toNat q3) ([], 0)), false)], ())
 else
 none
 else
 none
 else
 none
 else
 bif decide (0 ≤ q2) && decide (q2 < (↑(List.length q0) : Int)) then
 bif decide (0 ≤ q3) && decide (q3 < (↑(List.length q1) : Int)) then
 bif Prod.snd (List.getD q0 (Int.toNat q2) ([], 0)) != Prod.snd (List.getD q1 (Int.toNat q3) ([], 0)) then
 bif decide (0 ≤ q3) && decide (q3 < (↑(List.length q1) : Int)) then
 bif decide (0 ≤ q3) && decide (q3 < (↑(List.length q1) : Int)) then
 bif Nat.ble (List.length q5 + 1) 268435456 then
 R.L_qbJ_0 K n (q0, q1, IntKind.i64.wrap (q2 + 1), IntKind.i64.wrap (q3 + 1), q4, q5 ++ [(Prod.fst (List.getD q1 (Int.toNat q3) ([], 0)), Prod.snd (List.getD q1 (Int.toNat q3) ([], 0)), false)], ())
 else
 none
 else
 none
 else
 none
 else
 R.L_qbJ_0 K n (q0, q1, IntKind.i64.wrap (q2 + 1), IntKind.i64.wrap (q3 + 1), q4, q5, ())
 else
 none
 else
 none
 else
 none
 else
 none
 else
 some (Sum.inl (q4, q5, ()))
def R.qbJ (K : Nat) (p0 : List ((List UInt8) × (Int))) (p1 : List ((List UInt8) × (Int))) : Option R.T17 :=
 obind (R.L_qbJ_0 K K (p0, p1, 0, 0, [], [], ())) fun v2 =>
 (match v2 with
 | .inl v3 =>
 some (((v3.2.1, ()), ()))
 | .inr v3 =>
 none
 )
def R.L_qbV_0 (K : Nat) : Nat → (R.T0 × ((List UInt8) × ((Bool) × ((Int) × R.T2)))) → Option (((Bool) × R.T2) ⊕ ((Bool) × R.T2))
 | 0, _ => none
 | n + 1, (q0, (q1, (q2, (q3, (q4, (q5, (q6, ()))))))) =>
 bif decide (q3 < (↑(List.length q0) : Int)) then
 bif decide (0 ≤ q3) && decide (q3 < (↑(List.length q0) : Int)) then
 bif Prod.fst (List.getD q0 (Int.toNat q3) ([], 0, false)) == q1 then
 bif decide (0 ≤ q3) && decide (q3 < (↑(List.length q0) : Int)) then
 some (Sum.inr (true, Prod.fst (List.getD q0 (Int.toNat q3) ([], 0, false)), Prod.fst (Prod.snd (List.getD q0 (Int.toNat q3) ([], 0, false))), Prod.snd (Prod.snd (List.getD q0 (Int.toNat q3) ([], 0, false))), ()))
 else
 none
 else
 R.L_qbV_0 K n (q0, q1, q2, IntKind.i64.wrap (q3 + 1), q4, q5, q6, ())
 else
 none
 else
 some (Sum.inl (q2, q4, q5, q6, ()))
def R.qbV (K : Nat) (p0 : List ((List UInt8) × ((Int) × (Bool)))) (p1 : List UInt8) : Option ((((List UInt8) × ((Int) × (Bool))) × ((Bool) × Unit)) × Unit) :=
 obind (R.L_qbV_0 K K (p0, p1, false, 0, [], 0, false, ())) fun v2 =>
 (match v2 with
 | .inl v3 =>
 some (((([], 0, false), false, ()), ()))
 | .inr v3 =>
 some ((((v3.2.1, v3.2.2.1, v3.2.2.2.1), v3.1, ()), ()))
 )
def R.L_qbA_0 (K : Nat) : Nat → ((List ((List UInt8) × (Int))) × (R.T0 × (R.T0 × ((Int) × ((List ((List UInt8) × (Int))) × ((List (List UInt8)) × R.T30)))))) → Option (((List ((List UInt8) × (Int))) × ((List ((List UInt8) × (Int))) × ((List (List UInt8)) × R.T30))) ⊕ Unit)
 | 0, _ => none
 | n + 1, (q0, (q1, (q2, (q3, (q4, (q5, (q6, (q7, ())))))))) =>
 bif decide (q3 < (↑(List.length q2) : Int)) then
 bif decide (0 ≤ q3) && decide (q3 < (↑(List.length q2) : Int)) then
 obind (R.qbV K q1 (Prod.fst (List.getD q2 (Int.toNat q3) ([], 0, false)))) fun v6 =>
 bif !v6.1.2.1 then
 bif decide (0 ≤ q3) && decide (q3 < (↑(List.length q2) : Int)) then
 bif Nat.ble (List.length q7 + 1) 268435456 then
 R.L_qbA_0 K n (q0, q1, q2, IntKind.i64.wrap (q3 + 1), q4, q5, q6, q7 ++ [List.getD q2 (Int.toNat q3) ([], 0, false)], ())
 else
 none
 else
 none
 else
 bif decide (0 ≤ q3) && decide (q3 < (↑(List.length q2) : Int)) then
 bif !(v6.1.1.1 == Prod.fst (List.getD q2 (Int.toNat q3) ([], 0, false)) && (v6.1.1.2.1 == Prod.fst (Prod.snd (List.getD q2 (Int.toNat q3) ([], 0, false))) && v6.1.1.2.2 == Prod.snd (Prod.snd (List.getD q2 (Int.toNat q3) ([], 0, false))))) then
 bif decide (0 ≤ q3) && decide (q3 < (↑(List.length q2) : Int)) then
 bif Nat.ble (List.length q6 + 1) 268435456 then
 R.L_qbA_0 K n (q0, q1, q2, IntKind.i64.wrap (q3 + 1), q4, q5, q6 ++ [Prod.fst (List.getD q2 (Int.toNat q3) ([], 0, false))], q7, ())
 else
 none
 else
 none
 else
 R.L_qbA_0 K n (q0, q1, q2, IntKind.i64.wrap (q3 + 1), q4, q5, q6, q7, ())
 else
 none
 else
 none
 else
 some (Sum.inl (q0, q4, q5, q6, q7, ()))
def R.qbA (K : Nat) (p0 : List ((List UInt8) × (Int))) (p1 : List ((List UInt8) × (Int))) (p2 : List ((List UInt8) × (Int))) : Option (((List ((List UInt8) × (Int))) × ((List (List UInt8)) × Unit)) × Unit) :=
 obind (R.qbJ K p0 p1) fun v2 =>
 obind (R.qbJ K p0 p2) fun v3 =>
 obind (R.L_qbA_0 K K (p1, v2.1.1, v3.1.1, 0, [], [], [], [], ())) fun v4 =>
 (match v4 with
 | .inl v5 =>
 obind (R.qbp K v5.1 v5.2.2.2.2.1) fun v6 =>
 some (((v6.1.1, v5.2.2.2.1, ()), ()))
 | .inr v5 =>
 none
 )
def R.qcd (K : Nat) (p0 : List ((List UInt8) × (Int))) (p1 : List (List UInt8)) : Option R.T34 :=
 bif decide ((↑(List.length p1) : Int) > 0) then
 some ((([], p1, 11, ()), ()))
 else
 bif decide ((↑(List.length p0) : Int) > 12) then
 some ((([], [], 7, ()), ()))
 else
 some (((p0, [], 0, ()), ()))
def R.L_qbY_0 (K : Nat) : Nat → ((List ((List UInt8) × (Int))) × R.T19) → Option (((Bool) × Unit) ⊕ ((Bool) × Unit))
 | 0, _ => none
 | n + 1, (q0, (q1, (q2, (q3, ())))) =>
 bif decide (q3 < (↑(List.length q0) : Int)) then
 bif decide (0 ≤ q3) && decide (q3 < (↑(List.length q0) : Int)) then
 bif decide (0 ≤ q3) && decide (q3 < (↑(List.length q1) : Int)) then
 bif !(Prod.fst (List.getD q0 (Int.toNat q3) ([], 0)) == Prod.fst (List.getD q1 (Int.toNat q3) ([], 0)) && Prod.snd (List.getD q0 (Int.toNat q3) ([], 0)) == Prod.snd (List.getD q1 (Int.toNat q3) ([], 0))) then
 some (Sum.inr (false, ()))
 else
 R.L_qbY_0 K n (q0, q1, q2, IntKind.i64.wrap (q3 + 1), ())
 else
 none
 else
 none
 else
 some (Sum.inl (q2, ()))
def R.qbY (K : Nat) (p0 : List ((List UInt8) × (Int))) (p1 : List ((List UInt8) × (Int))) : Option (((Bool) × Unit) × Unit) :=
 bif (↑(List.length p0) : Int) != (↑(List.length p1) : Int) then
 some (((false, ()), ()))
 else
 obind (R.L_qbY_0 K K (p0, p1, false, 0, ())) fun v3 =>
 (match v3 with
 | .inl v4 =>
 some (((true, ()), ()))
 | .inr v4 =>
 some (((v4.1, ()), ()))
 )
def R.qbN (K : Nat) (p0 : List R.T5) (p1 : Int) (p2 : Int) (p3 : List ((List UInt8) × ((Int) × (Bool)))) : Option (((List ((List UInt8) × (Int))) × R.T39) × Unit) :=
 bif decide (0 ≤ IntKind.i64.wrap (p1 - 1)) && decide (IntKind.i64.wrap (p1 - 1) < (↑(List.length p0) : Int)) then
 obind (R.qbp K (Prod.snd (List.getD p0 (Int.toNat (IntKind.i64.wrap (p1 - 1))) ([], []))) p3) fun v3 =>
 bif decide ((↑(List.length v3.1.1) : Int) > 12) then
 some ((([], (7, 0, 0, [], []), ()), ()))
 else
 bif decide (0 ≤ IntKind.i64.wrap (p1 - 1)) && decide (IntKind.i64.wrap (p1 - 1) < (↑(List.length p0) : Int)) then
 bif decide (0 ≤ IntKind.i64.wrap (p2 - 1)) && decide (IntKind.i64.wrap (p2 - 1) < (↑(List.length p0) : Int)) then
 obind (R.qbA K (Prod.snd (List.getD p0 (Int.toNat (IntKind.i64.wrap (p1 - 1))) ([], []))) v3.1.1 (Prod.snd (List.getD p0 (Int.toNat (IntKind.i64.wrap (p2 - 1))) ([], [])))) fun v7 =>
 obind (R.qcd K v7.1.1 v7.1.2.1) fun v8 =>
 bif v8.1.2.2.1 == 0 then
 bif decide (0 ≤ IntKind.i64.wrap (p2 - 1)) && decide (IntKind.i64.wrap (p2 - 1) < (↑(List.length p0) : Int)) then
 obind (R.qbY K v8.1.1 (Prod.snd (List.getD p0 (Int.toNat (IntKind.i64.wrap (p2 - 1))) ([], [])))) fun v11 =>
 bif v11.1.1 then
 some (((v8.1.1, (18, 0, 0, v8.1.2.1, []), ()), ()))
 else
 some (((v8.1.1, (v8.1.2.2.1, 0, 0, v8.1.2.1, []), ()), ()))
 else
 none
 else
 some (((v8.1.1, (v8.1.2.2.1, 0, 0, v8.1.2.1, []), ()), ()))
 else
 none
 else
 none
 else
 none
def R.qaL (K : Nat) (p0 : R.T12 × R.T8) (p1 : Int) (p2 : (List (Int)) × (List ((List UInt8) × (Int)))) : Option R.T54 :=
 bif (↑(List.length p0.1) : Int) == 60 then
 some (((p0, (7, 0, 0, [], []), ()), ()))
 else
 bif decide (0 ≤ p1) && decide (p1 < (↑(List.length p0.2) : Int)) then
 bif Prod.fst (Prod.snd (Prod.snd (List.getD p0.2 (Int.toNat p1) ([], 0, 0, false)))) == 1000000 then
 some (((p0, (7, 0, 0, [], []), ()), ()))
 else
 obind (
 Fw.alt (
 Fw.dup (
 bif Nat.ble (0 + List.length p0.1) 268435456 then
 bif Nat.ble (List.length p0.1 + 1) 268435456 then
 some ((p1, IntKind.i64.wrap ((↑(List.length p0.1) : Int) + 1), p0.1, p0.2, 0, 0, 0, p0.1 ++ [p2], [], [], [], [], ()))
 else
 none
 else
 none
 )
 ) (
 bif Nat.ble (0 + List.length p0.1) 268435456 then
 bif Nat.ble (List.length p0.1 + 1) 268435456 then
 some ((p1, IntKind.i64.wrap ((↑(List.length p0.1) : Int) + 1), p0.1, p0.2, 0, 0, 0, p0.1 ++ [p2], [], [], [], [], ()))
 else
 none
 else
 none
 )
 ) fun (v5 : Int × Int × List (List Int × List (List UInt8 × Int)) × List (List UInt8 × Int × Int × Bool) × Int × Int × Int × List (List Int × List (List UInt8 × Int)) × List (List Int × List (List UInt8 × Int)) × List (List UInt8 × Int × Int × Bool) × List (List UInt8) × List (List UInt8 × Int) × PUnit) =>
 obind (R.qcl K v5.2.2.2.1 v5.1 v5.2.1 false) fun v6 =>
 some ((((v5.2.2.2.2.2.2.2.1, v6.1.1), (0, v5.2.1, 0, [], []), ()), ()))
 else
 none
def R.qbg (K : Nat) (p0 : R.T12 × R.T8) (p1 : Int) (p2 : (Int) × R.T37) : Option R.T54 :=
 bif decide (0 ≤ p1) && decide (p1 < (↑(List.length p0.2) : Int)) then
 bif p2.2.1 == 0 then
 obind (R.qbN K p0.1 (Prod.fst (Prod.snd (List.getD p0.2 (Int.toNat p1) ([], 0, 0, false)))) (Prod.fst (Prod.snd (List.getD p0.2 (Int.toNat p1) ([], 0, 0, false)))) p2.2.2.2.2) fun v4 =>
 bif v4.1.2.1.1 != 0 then
 some (((p0, v4.1.2.1, ()), ()))
 else
 obind (R.qaL K p0 p1 ([Prod.fst (Prod.snd (List.getD p0.2 (Int.toNat p1) ([], 0, 0, false)))], v4.1.1)) fun v6 =>
 some (((v6.1.1, v6.1.2.1, ()), ()))
 else
 obind (R.qbN K p0.1 p2.2.1 (Prod.fst (Prod.snd (List.getD p0.2 (Int.toNat p1) ([], 0, 0, false)))) p2.2.2.2.2) fun v4 =>
 bif v4.1.2.1.1 != 0 then
 some (((p0, v4.1.2.1, ()), ()))
 else
 obind (R.qaL K p0 p1 ([Prod.fst (Prod.snd (List.getD p0.2 (Int.toNat p1) ([], 0, 0, false)))], v4.1.1)) fun v6 =>
 some (((v6.1.1, v6.1.2.1, ()), ()))
 else
 none
def R.L_qbE_1 (K : Nat) : Nat → (R.T12 × ((Int) × ((Int) × ((Int) × ((Bool) × ((Int) × ((Int) × ((Bool) × R.T11)))))))) → Option ((R.T12 × ((Int) × ((Int) × ((Int) × ((Bool) × ((Int) × ((Int) × ((Bool) × ((Bool) × ((Int) × (R.T12 × ((Int) × ((Int) × (R.T5 × (R.T5 × ((List (Int)) × ((Int) × R.T11))))))))))))))))) ⊕ Unit)
 | 0, _ => none
 | n + 1, (q0, (q1, (q2, (q3, (q4, (q5, (q6, (q7, (q8, (q9, (q10, ()))))))))))) =>
 bif decide (0 ≤ IntKind.i64.wrap (q1 - 1)) && decide (IntKind.i64.wrap (q1 - 1) < (↑(List.length q0) : Int)) then
 bif decide (q2 < (↑(List.length (Prod.fst (List.getD q0 (Int.toNat (IntKind.i64.wrap (q1 - 1))) ([], [])))) : Int)) then
 bif decide (0 ≤ IntKind.i64.wrap (q1 - 1)) && decide (IntKind.i64.wrap (q1 - 1) < (↑(List.length q0) : Int)) then
 bif decide (0 ≤ q2) && decide (q2 < (↑(List.length (Prod.fst (List.getD q0 (Int.toNat (IntKind.i64.wrap (q1 - 1))) ([], [])))) : Int)) then
 bif decide (0 ≤ List.getD (Prod.fst (List.getD q0 (Int.toNat (IntKind.i64.wrap (q1 - 1))) ([], []))) (Int.toNat q2) 0) && decide (List.getD (Prod.fst (List.getD q0 (Int.toNat (IntKind.i64.wrap (q1 - 1))) ([], []))) (Int.toNat q2) 0 < (↑(List.length q10) : Int)) then
 R.L_qbE_1 K n (q0, q1, IntKind.i64.wrap (q2 + 1), q3, q4, q5, (↑(Int.toNat q6) : Int), q7, q8, q9, List.set q10 (Int.toNat (List.getD (Prod.fst (List.getD q0 (Int.toNat (IntKind.i64.wrap (q1 - 1))) ([], []))) (Int.toNat q2) 0)) true, ())
 else
 none
 else
 none
 else
 none
 else
 some (Sum.inl (q0, q1, q2, q3, q4, q5, (↑(Int.toNat q6) : Int), q7, q8, q2, q0, q1, IntKind.i64.wrap (q1 - 1), List.getD q0 (Int.toNat (IntKind.i64.wrap (q1 - 1))) ([], []), List.getD q0 (Int.toNat (IntKind.i64.wrap (q1 - 1))) ([], []), Prod.fst (List.getD q0 (Int.toNat (IntKind.i64.wrap (q1 - 1))) ([], [])), (↑(List.length (Prod.fst (List.getD q0 (Int.toNat (IntKind.i64.wrap (q1 - 1))) ([], [])))) : Int), decide (q2 < (↑(List.length (Prod.fst (List.getD q0 (Int.toNat (IntKind.i64.wrap (q1 - 1))) ([], [])))) : Int)), q9, q10, ()))
 else
 none
def R.L_qbE_0 (K : Nat) : Nat → (R.T12 × R.T9) → Option (R.T1 ⊕ Unit)
 | 0, _ => none
 | n + 1, (q0, (q1, (q2, (q3, ())))) =>
 bif decide (q1 > 0) then
 bif decide (0 ≤ q1) && decide (q1 < (↑(List.length q3) : Int)) then
 bif !List.getD q3 (Int.toNat q1) false then
 R.L_qbE_0 K n (q0, IntKind.i64.wrap (q1 - 1), q2, q3, ())
 else
 obind (R.L_qbE_1 K K (q0, q1, 0, q1, decide (q1 > 0), q1, (↑(Int.toNat q1) : Int), List.getD q3 (Int.toNat q1) false, !List.getD q3 (Int.toNat q1) false, q2, q3, ())) fun v7 =>
 (match v7 with
 | .inl v8 =>
 R.L_qbE_0 K n (v8.1, IntKind.i64.wrap (v8.2.1 - 1), v8.2.2.2.2.2.2.2.2.2.2.2.2.2.2.2.2.2.2.1, v8.2.2.2.2.2.2.2.2.2.2.2.2.2.2.2.2.2.2.2.1, ())
 | .inr v8 =>
 some (Sum.inr ())
 )
 else
 none
 else
 some (Sum.inl (q2, q3, ()))
def R.qbE (K : Nat) (p0 : List R.T5) (p1 : Int) : Option (((List (Bool)) × Unit) × Unit) :=
 bif decide (0 ≤ IntKind.i64.wrap ((↑(List.length p0) : Int) + 1)) && decide (IntKind.i64.wrap ((↑(List.length p0) : Int) + 1) ≤ IntKind.i64.wrap ((↑(List.length p0) : Int) + 1)) && decide (IntKind.i64.wrap ((↑(List.length p0) : Int) + 1) ≤ (↑268435456 : Int)) then
 bif decide (0 ≤ p1) && decide (p1 < (↑(List.length (List.replicate (Int.toNat (IntKind.i64.wrap ((↑(List.length p0) : Int) + 1))) false)) : Int)) then
 obind (R.L_qbE_0 K K (p0, p1, [], List.set (List.replicate (Int.toNat (IntKind.i64.wrap ((↑(List.length p0) : Int) + 1))) false) (Int.toNat p1) true, ())) fun v4 =>
 (match v4 with
 | .inl v5 =>
 some (((v5.2.1, ()), ()))
 | .inr v5 =>
 none
 )
 else
 none
 else
 none
def R.L_qbI_0 (K : Nat) : Nat → R.T20 → Option (((Int) × ((Int) × Unit)) ⊕ Unit)
 | 0, _ => none
 | n + 1, (q0, (q1, (q2, (q3, ())))) =>
 bif decide (0 ≤ q1) && decide (q1 < (↑(List.length q2) : Int)) then
 bif !List.getD q2 (Int.toNat q1) false then
 R.L_qbI_0 K n (q0, IntKind.i64.wrap (q1 - 1), q2, q3, ())
 else
 bif decide (0 ≤ q1) && decide (q1 < (↑(List.length q3) : Int)) then
 bif !List.getD q3 (Int.toNat q1) false then
 R.L_qbI_0 K n (q0, IntKind.i64.wrap (q1 - 1), q2, q3, ())
 else
 some (Sum.inl (q0, q1, ()))
 else
 none
 else
 none
def R.qbI (K : Nat) (p0 : List R.T5) (p1 : Int) (p2 : Int) : Option (((Int) × Unit) × Unit) :=
 obind (R.qbE K p0 p1) fun v2 =>
 obind (R.qbE K p0 p2) fun v3 =>
 obind (R.L_qbI_0 K K (0, bif decide (p2 < p1) then p2 else p1, v2.1.1, v3.1.1, ())) fun v4 =>
 (match v4 with
 | .inl v5 =>
 some (((v5.2.1, ()), ()))
 | .inr v5 =>
 none
 )
def R.qbT (K : Nat) (p0 : List R.T5) (p1 : Int) (p2 : Int) : Option (((Bool) × ((List ((List UInt8) × (Int))) × R.T39)) × Unit) :=
 obind (R.qbI K p0 p1 p2) fun v2 =>
 bif v2.1.1 == p2 then
 some (((false, [], (18, 0, 0, [], []), ()), ()))
 else
 bif v2.1.1 == p1 then
 some (((true, [], (0, 0, 0, [], []), ()), ()))
 else
 bif decide (0 ≤ IntKind.i64.wrap (v2.1.1 - 1)) && decide (IntKind.i64.wrap (v2.1.1 - 1) < (↑(List.length p0) : Int)) then
 bif decide (0 ≤ IntKind.i64.wrap (p1 - 1)) && decide (IntKind.i64.wrap (p1 - 1) < (↑(List.length p0) : Int)) then
 bif decide (0 ≤ IntKind.i64.wrap (p2 - 1)) && decide (IntKind.i64.wrap (p2 - 1) < (↑(List.length p0) : Int)) then
 obind (R.qbA K (Prod.snd (List.getD p0 (Int.toNat (IntKind.i64.wrap (v2.1.1 - 1))) ([], []))) (Prod.snd (List.getD p0 (Int.toNat (IntKind.i64.wrap (p1 - 1))) ([], []))) (Prod.snd (List.getD p0 (Int.toNat (IntKind.i64.wrap (p2 - 1))) ([], [])))) fun v8 =>
 obind (R.qcd K v8.1.1 v8.1.2.1) fun v9 =>
 some (((false, v9.1.1, (v9.1.2.2.1, 0, 0, v9.1.2.1, []), ()), ()))
 else
 none
 else
 none
 else
 none
def R.qbx (K : Nat) (p0 : R.T12 × R.T8) (p1 : Int) (p2 : (Int) × R.T37) : Option R.T54 :=
 bif decide (0 ≤ p1) && decide (p1 < (↑(List.length p0.2) : Int)) then
 obind (R.qbT K p0.1 (Prod.fst (Prod.snd (List.getD p0.2 (Int.toNat p1) ([], 0, 0, false)))) p2.2.1) fun v3 =>
 bif v3.1.2.2.1.1 != 0 then
 some (((p0, v3.1.2.2.1, ()), ()))
 else
 bif !v3.1.1 then
 obind (R.qaL K p0 p1 ([Prod.fst (Prod.snd (List.getD p0.2 (Int.toNat p1) ([], 0, 0, false))), p2.2.1], v3.1.2.1)) fun v6 =>
 some (((v6.1.1, v6.1.2.1, ()), ()))
 else
 bif decide (0 ≤ p1) && decide (p1 < (↑(List.length p0.2) : Int)) then
 bif Prod.fst (Prod.snd (Prod.snd (List.getD p0.2 (Int.toNat p1) ([], 0, 0, false)))) == 1000000 then
 some (((p0, (7, 0, 0, [], []), ()), ()))
 else
 obind (R.qcl K p0.2 p1 p2.2.1 false) fun v8 =>
 some ((((p0.1, v8.1.1), (0, p2.2.1, 0, [], []), ()), ()))
 else
 none
 else
 none
def R.qcx (K : Nat) (p0 : List ((List UInt8) × (Int))) (p1 : List UInt8) : Option (((Int) × Unit) × Unit) :=
 bif decide ((↑(List.length p0) : Int) > 4096) then
 some (((2, ()), ()))
 else
 bif decide ((↑(List.length p1) : Int) > 65536) then
 some (((2, ()), ()))
 else
 obind (R.qcW K p0) fun v4 =>
 bif !v4.1.1 then
 some (((1, ()), ()))
 else
 obind (R.qcc K p1) fun v6 =>
 bif !v6.1.1 then
 some (((1, ()), ()))
 else
 some (((0, ()), ()))
def R.L_qcN_0 (K : Nat) : Nat → ((List ((List UInt8) × (Int))) × ((List UInt8) × ((Int) × ((Int) × Unit)))) → Option (((Int) × Unit) ⊕ ((Int) × Unit))
 | 0, _ => none
 | n + 1, (q0, (q1, (q2, (q3, ())))) =>
 bif decide (q3 < (↑(List.length q0) : Int)) then
 bif decide (0 ≤ q3) && decide (q3 < (↑(List.length q0) : Int)) then
 bif Prod.fst (List.getD q0 (Int.toNat q3) ([], 0)) == q1 then
 some (Sum.inr (q3, ()))
 else
 R.L_qcN_0 K n (q0, q1, q2, IntKind.i64.wrap (q3 + 1), ())
 else
 none
 else
 some (Sum.inl (q2, ()))
def R.qcN (K : Nat) (p0 : List ((List UInt8) × (Int))) (p1 : List UInt8) : Option (((Int) × Unit) × Unit) :=
 obind (R.L_qcN_0 K K (p0, p1, 0, 0, ())) fun v2 =>
 (match v2 with
 | .inl v3 =>
 some (((-1, ()), ()))
 | .inr v3 =>
 some (((v3.1, ()), ()))
 )
def R.qdi (K : Nat) (p0 : List ((List UInt8) × (Int))) (p1 : List UInt8) : Option (((Int) × ((Int) × Unit)) × Unit) :=
 bif decide ((↑(List.length p0) : Int) > 4096) then
 some (((0, 2, ()), ()))
 else
 bif decide ((↑(List.length p1) : Int) > 65536) then
 some (((0, 2, ()), ()))
 else
 obind (R.qcx K p0 p1) fun v4 =>
 bif v4.1.1 != 0 then
 some (((0, v4.1.1, ()), ()))
 else
 obind (R.qcN K p0 p1) fun v6 =>
 bif decide (v6.1.1 < 0) then
 some (((0, 5, ()), ()))
 else
 bif decide (0 ≤ v6.1.1) && decide (v6.1.1 < (↑(List.length p0) : Int)) then
 some (((Prod.snd (List.getD p0 (Int.toNat v6.1.1) ([], 0)), 0, ()), ()))
 else
 none
def R.qcT (K : Nat) (p0 : R.T12 × R.T8) (p1 : (Int) × R.T37) : Option R.T54 :=
 bif p1.1 == 1 then
 bif decide (p1.2.1 > (↑(List.length p0.1) : Int)) then
 some (((p0, (5, 0, 0, [], []), ()), ()))
 else
 bif p1.1 == 1 then
 obind (R.qaZ K p0.2 p1.2.2.1 p1.2.1) fun v5 =>
 bif v5.1.2.1 != 0 then
 some (((p0, (v5.1.2.1, 0, 0, [], []), ()), ()))
 else
 some ((((p0.1, v5.1.1), (0, p1.2.1, 0, [], []), ()), ()))
 else
 obind (R.qbS K p0.2 p1.2.2.1) fun v5 =>
 bif decide (v5.1.1 < 0) then
 some (((p0, (10, 0, 0, [], []), ()), ()))
 else
 bif decide (0 ≤ v5.1.1) && decide (v5.1.1 < (↑(List.length p0.2) : Int)) then
 bif p1.1 == 2 then
 obind (R.qaY K p0.2 p1.2.2.1) fun v9 =>
 bif v9.1.2.1 != 0 then
 some (((p0, (v9.1.2.1, 0, 0, [], []), ()), ()))
 else
 some ((((p0.1, v9.1.1), (0, Prod.fst (Prod.snd (List.getD p0.2 (Int.toNat v5.1.1) ([], 0, 0, false))), 0, [], []), ()), ()))
 else
 bif p1.1 == 3 then
 obind (R.qbg K p0 v5.1.1 p1) fun v10 =>
 some (((v10.1.1, v10.1.2.1, ()), ()))
 else
 bif p1.1 == 4 then
 obind (R.qbx K p0 v5.1.1 p1) fun v11 =>
 some (((v11.1.1, v11.1.2.1, ()), ()))
 else
 bif p1.1 == 5 then
 bif decide (0 ≤ IntKind.i64.wrap (Prod.fst (Prod.snd (List.getD p0.2 (Int.toNat v5.1.1) ([], 0, 0, false))) - 1)) && decide (IntKind.i64.wrap (Prod.fst (Prod.snd (List.getD p0.2 (Int.toNat v5.1.1) ([], 0, 0, false))) - 1) < (↑(List.length p0.1) : Int)) then
 obind (R.qdi K (Prod.snd (List.getD p0.1 (Int.toNat (IntKind.i64.wrap (Prod.fst (Prod.snd (List.getD p0.2 (Int.toNat v5.1.1) ([], 0, 0, false))) - 1))) ([], []))) p1.2.2.2.1) fun v13 =>
 bif v13.1.2.1 != 0 then
 some (((p0, (v13.1.2.1, 0, 0, [], []), ()), ()))
 else
 some (((p0, (0, Prod.fst (Prod.snd (List.getD p0.2 (Int.toNat v5.1.1) ([], 0, 0, false))), v13.1.1, [], []), ()), ()))
 else
 none
 else
 bif decide (0 ≤ IntKind.i64.wrap (Prod.fst (Prod.snd (List.getD p0.2 (Int.toNat v5.1.1) ([], 0, 0, false))) - 1)) && decide (IntKind.i64.wrap (Prod.fst (Prod.snd (List.getD p0.2 (Int.toNat v5.1.1) ([], 0, 0, false))) - 1) < (↑(List.length p0.1) : Int)) then
 some (((p0, (0, Prod.fst (Prod.snd (List.getD p0.2 (Int.toNat v5.1.1) ([], 0, 0, false))), 0, [], Prod.snd (List.getD p0.1 (Int.toNat (IntKind.i64.wrap (Prod.fst (Prod.snd (List.getD p0.2 (Int.toNat v5.1.1) ([], 0, 0, false))) - 1))) ([], []))), ()), ()))
 else
 none
 else
 none
 else
 bif p1.1 == 4 then
 bif decide (p1.2.1 > (↑(List.length p0.1) : Int)) then
 some (((p0, (5, 0, 0, [], []), ()), ()))
 else
 bif p1.1 == 1 then
 obind (R.qaZ K p0.2 p1.2.2.1 p1.2.1) fun v6 =>
 bif v6.1.2.1 != 0 then
 some (((p0, (v6.1.2.1, 0, 0, [], []), ()), ()))
 else
 some ((((p0.1, v6.1.1), (0, p1.2.1, 0, [], []), ()), ()))
 else
 obind (R.qbS K p0.2 p1.2.2.1) fun v6 =>
 bif decide (v6.1.1 < 0) then
 some (((p0, (10, 0, 0, [], []), ()), ()))
 else
 bif decide (0 ≤ v6.1.1) && decide (v6.1.1 < (↑(List.length p0.2) : Int)) then
 bif p1.1 == 2 then
 obind (R.qaY K p0.2 p1.2.2.1) fun v10 =>
 bif v10.1.2.1 != 0 then
 some (((p0, (v10.1.2.1, 0, 0, [], []), ()), ()))
 else
 some ((((p0.1, v10.1.1), (0, Prod.fst (Prod.snd (List.getD p0.2 (Int.toNat v6.1.1) ([], 0, 0, false))), 0, [], []), ()), ()))
 else
 bif p1.1 == 3 then
 obind (R.qbg K p0 v6.1.1 p1) fun v11 =>
 some (((v11.1.1, v11.1.2.1, ()), ()))
 else
 bif p1.1 == 4 then
 obind (R.qbx K p0 v6.1.1 p1) fun v12 =>
 some (((v12.1.1, v12.1.2.1, ()), ()))
 else
 bif p1.1 == 5 then
 bif decide (0 ≤ IntKind.i64.wrap (Prod.fst (Prod.snd (List.getD p0.2 (Int.toNat v6.1.1) ([], 0, 0, false))) - 1)) && decide (IntKind.i64.wrap (Prod.fst (Prod.snd (List.getD p0.2 (Int.toNat v6.1.1) ([], 0, 0, false))) - 1) < (↑(List.length p0.1) : Int)) then
 obind (R.qdi K (Prod.snd (List.getD p0.1 (Int.toNat (IntKind.i64.wrap (Prod.fst (Prod.snd (List.getD p0.2 (Int.toNat v6.1.1) ([], 0, 0, false))) - 1))) ([], []))) p1.2.2.2.1) fun v14 =>
 bif v14.1.2.1 != 0 then
 some (((p0, (v14.1.2.1, 0, 0, [], []), ()), ()))
 else
 some (((p0, (0, Prod.fst (Prod.snd (List.getD p0.2 (Int.toNat v6.1.1) ([], 0, 0, false))), v14.1.1, [], []), ()), ()))
 else
 none
 else
 bif decide (0 ≤ IntKind.i64.wrap (Prod.fst (Prod.snd (List.getD p0.2 (Int.toNat v6.1.1) ([], 0, 0, false))) - 1)) && decide (IntKind.i64.wrap (Prod.fst (Prod.snd (List.getD p0.2 (Int.toNat v6.1.1) ([], 0, 0, false))) - 1) < (↑(List.length p0.1) : Int)) then
 some (((p0, (0, Prod.fst (Prod.snd (List.getD p0.2 (Int.toNat v6.1.1) ([], 0, 0, false))), 0, [], Prod.snd (List.getD p0.1 (Int.toNat (IntKind.i64.wrap (Prod.fst (Prod.snd (List.getD p0.2 (Int.toNat v6.1.1) ([], 0, 0, false))) - 1))) ([], []))), ()), ()))
 else
 none
 else
 none
 else
 bif p1.1 == 3 then
 bif decide (p1.2.1 > (↑(List.length p0.1) : Int)) then
 some (((p0, (5, 0, 0, [], []), ()), ()))
 else
 bif p1.1 == 1 then
 obind (R.qaZ K p0.2 p1.2.2.1 p1.2.1) fun v7 =>
 bif v7.1.2.1 != 0 then
 some (((p0, (v7.1.2.1, 0, 0, [], []), ()), ()))
 else
 some ((((p0.1, v7.1.1), (0, p1.2.1, 0, [], []), ()), ()))
 else
 obind (R.qbS K p0.2 p1.2.2.1) fun v7 =>
 bif decide (v7.1.1 < 0) then
 some (((p0, (10, 0, 0, [], []), ()), ()))
 else
 bif decide (0 ≤ v7.1.1) && decide (v7.1.1 < (↑(List.length p0.2) : Int)) then
 bif p1.1 == 2 then
 obind (R.qaY K p0.2 p1.2.2.1) fun v11 =>
 bif v11.1.2.1 != 0 then
 some (((p0, (v11.1.2.1, 0, 0, [], []), ()), ()))
 else
 some ((((p0.1, v11.1.1), (0, Prod.fst (Prod.snd (List.getD p0.2 (Int.toNat v7.1.1) ([], 0, 0, false))), 0, [], []), ()), ()))
 else
 bif p1.1 == 3 then
 obind (R.qbg K p0 v7.1.1 p1) fun v12 =>
 some (((v12.1.1, v12.1.2.1, ()), ()))
 else
 bif p1.1 == 4 then
 obind (R.qbx K p0 v7.1.1 p1) fun v13 =>
 some (((v13.1.1, v13.1.2.1, ()), ()))
 else
 bif p1.1 == 5 then
 bif decide (0 ≤ IntKind.i64.wrap (Prod.fst (Prod.snd (List.getD p0.2 (Int.toNat v7.1.1) ([], 0, 0, false))) - 1)) && decide (IntKind.i64.wrap (Prod.fst (Prod.snd (List.getD p0.2 (Int.toNat v7.1.1) ([], 0, 0, false))) - 1) < (↑(List.length p0.1) : Int)) then
 obind (R.qdi K (Prod.snd (List.getD p0.1 (Int.toNat (IntKind.i64.wrap (Prod.fst (Prod.snd (List.getD p0.2 (Int.toNat v7.1.1) ([], 0, 0, false))) - 1))) ([], []))) p1.2.2.2.1) fun v15 =>
 bif v15.1.2.1 != 0 then
 some (((p0, (v15.1.2.1, 0, 0, [], []), ()), ()))
 else
 some (((p0, (0, Prod.fst (Prod.snd (List.getD p0.2 (Int.toNat v7.1.1) ([], 0, 0, false))), v15.1.1, [], []), ()), ()))
 else
 none
 else
 bif decide (0 ≤ IntKind.i64.wrap (Prod.fst (Prod.snd (List.getD p0.2 (Int.toNat v7.1.1) ([], 0, 0, false))) - 1)) && decide (IntKind.i64.wrap (Prod.fst (Prod.snd (List.getD p0.2 (Int.toNat v7.1.1) ([], 0, 0, false))) - 1) < (↑(List.length p0.1) : Int)) then
 some (((p0, (0, Prod.fst (Prod.snd (List.getD p0.2 (Int.toNat v7.1.1) ([], 0, 0, false))), 0, [], Prod.snd (List.getD p0.1 (Int.toNat (IntKind.i64.wrap (Prod.fst (Prod.snd (List.getD p0.2 (Int.toNat v7.1.1) ([], 0, 0, false))) - 1))) ([], []))), ()), ()))
 else
 none
 else
 none
 else
 bif p1.1 == 1 then
 obind (R.qaZ K p0.2 p1.2.2.1 p1.2.1) fun v6 =>
 bif v6.1.2.1 != 0 then
 some (((p0, (v6.1.2.1, 0, 0, [], []), ()), ()))
 else
 some ((((p0.1, v6.1.1), (0, p1.2.1, 0, [], []), ()), ()))
 else
 obind (R.qbS K p0.2 p1.2.2.1) fun v6 =>
 bif decide (v6.1.1 < 0) then
 some (((p0, (10, 0, 0, [], []), ()), ()))
 else
 bif decide (0 ≤ v6.1.1) && decide (v6.1.1 < (↑(List.length p0.2) : Int)) then
 bif p1.1 == 2 then
 obind (R.qaY K p0.2 p1.2.2.1) fun v10 =>
 bif v10.1.2.1 != 0 then
 some (((p0, (v10.1.2.1, 0, 0, [], []), ()), ()))
 else
 some ((((p0.1, v10.1.1), (0, Prod.fst (Prod.snd (List.getD p0.2 (Int.toNat v6.1.1) ([], 0, 0, false))), 0, [], []), ()), ()))
 else
 bif p1.1 == 3 then
 obind (R.qbg K p0 v6.1.1 p1) fun v11 =>
 some (((v11.1.1, v11.1.2.1, ()), ()))
 else
 bif p1.1 == 4 then
 obind (R.qbx K p0 v6.1.1 p1) fun v12 =>
 some (((v12.1.1, v12.1.2.1, ()), ()))
 else
 bif p1.1 == 5 then
 bif decide (0 ≤ IntKind.i64.wrap (Prod.fst (Prod.snd (List.getD p0.2 (Int.toNat v6.1.1) ([], 0, 0, false))) - 1)) && decide (IntKind.i64.wrap (Prod.fst (Prod.snd (List.getD p0.2 (Int.toNat v6.1.1) ([], 0, 0, false))) - 1) < (↑(List.length p0.1) : Int)) then
 obind (R.qdi K (Prod.snd (List.getD p0.1 (Int.toNat (IntKind.i64.wrap (Prod.fst (Prod.snd (List.getD p0.2 (Int.toNat v6.1.1) ([], 0, 0, false))) - 1))) ([], []))) p1.2.2.2.1) fun v14 =>
 bif v14.1.2.1 != 0 then
 some (((p0, (v14.1.2.1, 0, 0, [], []), ()), ()))
 else
 some (((p0, (0, Prod.fst (Prod.snd (List.getD p0.2 (Int.toNat v6.1.1) ([], 0, 0, false))), v14.1.1, [], []), ()), ()))
 else
 none
 else
 bif decide (0 ≤ IntKind.i64.wrap (Prod.fst (Prod.snd (List.getD p0.2 (Int.toNat v6.1.1) ([], 0, 0, false))) - 1)) && decide (IntKind.i64.wrap (Prod.fst (Prod.snd (List.getD p0.2 (Int.toNat v6.1.1) ([], 0, 0, false))) - 1) < (↑(List.length p0.1) : Int)) then
 some (((p0, (0, Prod.fst (Prod.snd (List.getD p0.2 (Int.toNat v6.1.1) ([], 0, 0, false))), 0, [], Prod.snd (List.getD p0.1 (Int.toNat (IntKind.i64.wrap (Prod.fst (Prod.snd (List.getD p0.2 (Int.toNat v6.1.1) ([], 0, 0, false))) - 1))) ([], []))), ()), ()))
 else
 none
 else
 none
def R.qck (K : Nat) (p0 : (List (Int)) × (List ((List UInt8) × (Int)))) : Option R.T23 :=
 obind (
 Fw.alt (
 Fw.dup (
 bif Nat.ble (0 + List.length p0.1) 268435456 then
 bif Nat.ble (0 + List.length p0.2) 268435456 then
 some ((p0.1, p0.2, ()))
 else
 none
 else
 none
 )
 ) (
 bif Nat.ble (0 + List.length p0.1) 268435456 then
 bif Nat.ble (0 + List.length p0.2) 268435456 then
 some ((p0.1, p0.2, ()))
 else
 none
 else
 none
 )
 ) fun (v2 : List Int × List (List UInt8 × Int) × PUnit) =>
 some ((((v2.1, v2.2.1), ()), ()))
def R.L_qbW_0 (K : Nat) : Nat → (R.T12 × R.T50) → Option R.T49
 | 0, _ => none
 | n + 1, (q0, (q1, (q2, (q3, ())))) =>
 bif decide (q1 < (↑(List.length q0) : Int)) then
 bif decide (0 ≤ q1) && decide (q1 < (↑(List.length q0) : Int)) then
 obind (R.qck K (List.getD q0 (Int.toNat q1) ([], []))) fun v6 =>
 bif Nat.ble (List.length q3 + 1) 268435456 then
 R.L_qbW_0 K n (q0, IntKind.i64.wrap (q1 + 1), q2, q3 ++ [v6.1.1], ())
 else
 none
 else
 none
 else
 some (Sum.inl (q2, q3, ()))
def R.qbW (K : Nat) (p0 : List R.T5) : Option R.T26 :=
 obind (R.L_qbW_0 K K (p0, 0, [], [], ())) fun v2 =>
 (match v2 with
 | .inl v3 =>
 some (((v3.2.1, ()), ()))
 | .inr v3 =>
 none
 )
def R.qcB (K : Nat) (p0 : R.T12 × R.T8) : Option R.T47 :=
 obind (
 Fw.dup (
 obind (R.qbW K p0.1) fun v5 =>
 bif Nat.ble (0 + List.length p0.2) 268435456 then
 some ((v5.1.1, p0.2, ()))
 else
 none
 )
 ) fun (v2 : List (List Int × List (List UInt8 × Int)) × List (List UInt8 × Int × Int × Bool) × PUnit) =>
 some ((((v2.1, v2.2.1), ()), ()))
def R.qaA (K : Nat) (p0 : (Int) × R.T29) : Option (R.T39 × Unit) :=
 bif Nat.ble (0 + List.length p0.2.2.2.1) 268435456 then
 bif Nat.ble (0 + List.length p0.2.2.2.2) 268435456 then
 some (((p0, ()), ()))
 else
 none
 else
 none
def R.qdf (K : Nat) (p0 : R.T12 × R.T8) (p1 : (Int) × R.T37) : Option ((R.T43 × (R.T36 × ((Int) × Unit))) × Unit) :=
 obind (R.qcQ K p0) fun v2 =>
 bif !v2.1.1 then
 some (((([], []), (0, 0, 0, [], []), 1, ()), ()))
 else
 obind (R.qcY K p1) fun v4 =>
 bif !v4.1.1 then
 some (((([], []), (0, 0, 0, [], []), 1, ()), ()))
 else
 obind (R.qcT K p0 p1) fun v6 =>
 obind (R.qcB K v6.1.1) fun v7 =>
 obind (R.qaA K v6.1.2.1) fun v8 =>
 some (((v7.1.1, v8.1.1, 0, ()), ()))
def R.qao (K : Nat) (p0 : List R.T5) : Option (((Bool) × Unit) × Unit) :=
 some (((decide ((↑(List.length p0) : Int) ≤ 4096), ()), ()))
def R.qcH (K : Nat) (p0 : Int) (p1 : Int) (p2 : Int) : Option (((Bool) × Unit) × Unit) :=
 bif decide (p1 ≤ p0) then
 some (((decide (p0 ≤ p2), ()), ()))
 else
 some (((false, ()), ()))
def R.qbi (K : Nat) (p0 : Int) : Option (((Bool) × Unit) × Unit) :=
 bif decide (p0 ≥ 97) then
 bif decide (p0 ≤ 122) then
 some (((true, ()), ()))
 else
 bif decide (p0 ≥ 65) then
 bif decide (p0 ≤ 90) then
 some (((true, ()), ()))
 else
 some (((p0 == 95, ()), ()))
 else
 some (((p0 == 95, ()), ()))
 else
 bif decide (p0 ≥ 65) then
 bif decide (p0 ≤ 90) then
 some (((true, ()), ()))
 else
 some (((p0 == 95, ()), ()))
 else
 some (((p0 == 95, ()), ()))
def R.qbX (K : Nat) (p0 : Int) : Option (((Bool) × Unit) × Unit) :=
 bif decide (p0 ≥ 48) then
 some (((decide (p0 ≤ 57), ()), ()))
 else
 some (((false, ()), ()))
def R.qbl (K : Nat) (p0 : Int) : Option (((Bool) × Unit) × Unit) :=
 obind (R.qbi K p0) fun v2 =>
 bif v2.1.1 then
 some (((true, ()), ()))
 else
 obind (R.qbX K p0) fun v4 =>
 some (((v4.1.1, ()), ()))
def R.L_qag_0 (K : Nat) : Nat → ((List (Int)) × ((Bool) × ((List (Int)) × ((List (Int)) × ((Bool) × ((List (Int)) × ((List (Int)) × ((Int) × ((Int) × ((Int) × Unit)))))))))) → Option (((List (Int)) × ((Bool) × ((List (Int)) × ((List (Int)) × ((Bool) × ((List (Int)) × ((Int) × Unit))))))) ⊕ ((List (Int)) × ((Bool) × ((List (Int)) × ((List (Int)) × ((Bool) × ((List (Int)) × ((Int) × Unit))))))))
 | 0, _ => none
 | n + 1, (q0, (q1, (q2, (q3, (q4, (q5, (q6, (q7, (q8, (q9, ())))))))))) =>
 bif decide (q9 < q8) then
 bif decide (0 ≤ q9) && decide (q9 < (↑(List.length q6) : Int)) then
 obind (R.qbl K (List.getD q6 (Int.toNat q9) 0)) fun v6 =>
 bif !v6.1.1 then
 some (Sum.inr (q0, q1, q2, q3, q4, q5, q9, ()))
 else
 R.L_qag_0 K n (q0, q1, q2, q3, q4, q5, q6, q7, q8, IntKind.i64.wrap (q9 + 1), ())
 else
 none
 else
 some (Sum.inl (q0, q1, q2, q3, q4, q5, q7, ()))
def R.qag (K : Nat) (p0 : List (Int)) : Option (((Bool) × Unit) × Unit) :=
 obind (R.L_qag_0 K K (p0, false, p0, p0, false, p0, p0, 0, (↑(List.length p0) : Int), 0, ())) fun v2 =>
 (match v2 with
 | .inl v3 =>
 some (((!decide (-1 ≥ 0), ()), ()))
 | .inr v3 =>
 some (((!decide (v3.2.2.2.2.2.2.1 ≥ 0), ()), ()))
 )
def R.qcz (K : Nat) (p0 : List UInt8) : Option (((Bool) × Unit) × Unit) :=
 obind (R.qcH K (↑(List.length p0) : Int) 1 12) fun v2 =>
 bif v2.1.1 then
 bif decide (0 ≤ 0) && decide (0 < (↑(List.length p0) : Int)) then
 obind (R.qbi K (↑(UInt8.toNat (List.getD p0 (Int.toNat 0) 0)) : Int)) fun v5 =>
 bif v5.1.1 then
 obind (R.qag K (Fw.bytesIn p0)) fun v7 =>
 some (((v7.1.1, ()), ()))
 else
 some (((false, ()), ()))
 else
 none
 else
 some (((false, ()), ()))
def R.qbZ (K : Nat) (p0 : Int) : Option (((Bool) × Unit) × Unit) :=
 obind (R.qcH K p0 (-1000000) 1000000) fun v2 =>
 some (((v2.1.1, ()), ()))
def R.L_qcS_0 (K : Nat) : Nat → ((List ((List UInt8) × (Int))) × ((Bool) × ((List ((List UInt8) × (Int))) × ((Int) × ((Int) × Unit))))) → Option (((List ((List UInt8) × (Int))) × ((Bool) × Unit)) ⊕ ((Bool) × Unit))
 | 0, _ => none
 | n + 1, (q0, (q1, (q2, (q3, (q4, ()))))) =>
 bif decide (q4 < q3) then
 bif decide (0 ≤ q4) && decide (q4 < (↑(List.length q2) : Int)) then
 obind (R.qcz K (Prod.fst (List.getD q2 (Int.toNat q4) ([], 0)))) fun v6 =>
 bif !v6.1.1 then
 some (Sum.inr (false, ()))
 else
 obind (R.qbZ K (Prod.snd (List.getD q2 (Int.toNat q4) ([], 0)))) fun v8 =>
 bif !v8.1.1 then
 some (Sum.inr (false, ()))
 else
 bif decide (q4 > 0) then
 bif decide (0 ≤ IntKind.i64.wrap (q4 - 1)) && decide (IntKind.i64.wrap (q4 - 1) < (↑(List.length q0) : Int)) then
 bif !Fw.sless (Prod.fst (List.getD q0 (Int.toNat (IntKind.i64.wrap (q4 - 1))) ([], 0))) (Prod.fst (List.getD q2 (Int.toNat q4) ([], 0))) then
 some (Sum.inr (false, ()))
 else
 R.L_qcS_0 K n (q0, q1, q2, q3, IntKind.i64.wrap (q4 + 1), ())
 else
 none
 else
 R.L_qcS_0 K n (q0, q1, q2, q3, IntKind.i64.wrap (q4 + 1), ())
 else
 none
 else
 some (Sum.inl (q0, q1, ()))
def R.qcS (K : Nat) (p0 : List ((List UInt8) × (Int))) : Option (((Bool) × Unit) × Unit) :=
 obind (R.L_qcS_0 K K (p0, false, p0, (↑(List.length p0) : Int), 0, ())) fun v2 =>
 (match v2 with
 | .inl v3 =>
 some (((decide ((↑(List.length v3.1) : Int) ≤ 12), ()), ()))
 | .inr v3 =>
 some (((v3.1, ()), ()))
 )
def R.L_qad_0 (K : Nat) : Nat → ((List (Int)) × ((Int) × ((Bool) × ((List (Int)) × ((List (Int)) × ((Bool) × ((List (Int)) × ((List (Int)) × ((Int) × ((Int) × ((Int) × ((Int) × Unit)))))))))))) → Option (((List (Int)) × ((Int) × ((Bool) × ((List (Int)) × ((List (Int)) × ((Bool) × ((List (Int)) × ((Int) × ((Int) × Unit))))))))) ⊕ ((List (Int)) × ((Int) × ((Bool) × ((List (Int)) × ((List (Int)) × ((Bool) × ((List (Int)) × ((Int) × ((Int) × Unit))))))))))
 | 0, _ => none
 | n + 1, (q0, (q1, (q2, (q3, (q4, (q5, (q6, (q7, (q8, (q9, (q10, (q11, ())))))))))))) =>
 bif decide (q10 < q9) then
 bif decide (0 ≤ q10) && decide (q10 < (↑(List.length q7) : Int)) then
 obind (R.qcH K (List.getD q7 (Int.toNat q10) 0) 1 (IntKind.i64.wrap (q11 - 1))) fun v6 =>
 bif !v6.1.1 then
 some (Sum.inr (q0, q1, q2, q3, q4, q5, q6, q10, q11, ()))
 else
 R.L_qad_0 K n (q0, q1, q2, q3, q4, q5, q6, q7, q8, q9, IntKind.i64.wrap (q10 + 1), q11, ())
 else
 none
 else
 some (Sum.inl (q0, q1, q2, q3, q4, q5, q6, q8, q11, ()))
def R.qad (K : Nat) (p0 : List (Int)) (p1_0 : Int) : Option (((Bool) × Unit) × Unit) :=
 obind (R.L_qad_0 K K (p0, p1_0, false, p0, p0, false, p0, p0, 0, (↑(List.length p0) : Int), 0, p1_0, ())) fun v2 =>
 (match v2 with
 | .inl v3 =>
 some (((!decide (-1 ≥ 0), ()), ()))
 | .inr v3 =>
 some (((!decide (v3.2.2.2.2.2.2.2.1 ≥ 0), ()), ()))
 )
def R.qaD (K : Nat) (p0 : (List (Int)) × (List ((List UInt8) × (Int)))) (p1 : Int) : Option (((Bool) × Unit) × Unit) :=
 obind (R.qcS K p0.2) fun v2 =>
 bif !v2.1.1 then
 some (((false, ()), ()))
 else
 bif decide ((↑(List.length p0.1) : Int) > 2) then
 some (((false, ()), ()))
 else
 bif !((↑(List.length p0.1) : Int) == 0) == (p1 == 1) then
 some (((false, ()), ()))
 else
 bif (↑(List.length p0.1) : Int) == 2 then
 bif decide (0 ≤ 0) && decide (0 < (↑(List.length p0.1) : Int)) then
 bif decide (0 ≤ 1) && decide (1 < (↑(List.length p0.1) : Int)) then
 bif List.getD p0.1 (Int.toNat 0) 0 == List.getD p0.1 (Int.toNat 1) 0 then
 some (((false, ()), ()))
 else
 obind (R.qad K p0.1 p1) fun v10 =>
 some (((v10.1.1, ()), ()))
 else
 none
 else
 none
 else
 obind (R.qad K p0.1 p1) fun v7 =>
 some (((v7.1.1, ()), ()))
def R.L_qaN_0 (K : Nat) : Nat → (R.T12 × ((Bool) × (R.T12 × ((Int) × ((Int) × Unit))))) → Option ((R.T12 × ((Bool) × Unit)) ⊕ ((Bool) × Unit))
 | 0, _ => none
 | n + 1, (q0, (q1, (q2, (q3, (q4, ()))))) =>
 bif decide (q4 < q3) then
 bif decide (0 ≤ q4) && decide (q4 < (↑(List.length q2) : Int)) then
 obind (R.qaD K (List.getD q2 (Int.toNat q4) ([], [])) (IntKind.i64.wrap (q4 + 1))) fun v6 =>
 bif !v6.1.1 then
 some (Sum.inr (false, ()))
 else
 R.L_qaN_0 K n (q0, q1, q2, q3, IntKind.i64.wrap (q4 + 1), ())
 else
 none
 else
 some (Sum.inl (q0, q1, ()))
def R.qaN (K : Nat) (p0 : List R.T5) : Option (((Bool) × Unit) × Unit) :=
 obind (R.L_qaN_0 K K (p0, false, p0, (↑(List.length p0) : Int), 0, ())) fun v2 =>
 (match v2 with
 | .inl v3 =>
 some (((decide ((↑(List.length v3.1) : Int) ≤ 60), ()), ()))
 | .inr v3 =>
 some (((v3.1, ()), ()))
 )
def R.qbO (K : Nat) (p0 : List R.T5) : Option (((Bool) × Unit) × Unit) :=
 bif decide ((↑(List.length p0) : Int) > 0) then
 bif decide ((↑(List.length p0) : Int) ≤ 4096) then
 obind (R.qaN K p0) fun v4 =>
 some (((v4.1.1, ()), ()))
 else
 some (((false, ()), ()))
 else
 some (((false, ()), ()))
def R.qcC (K : Nat) (p0 : Int) : Option (((Bool) × Unit) × Unit) :=
 obind (R.qcH K p0 1 60) fun v2 =>
 some (((v2.1.1, ()), ()))
def R.qcJ (K : Nat) (p0 : (List UInt8) × ((Int) × ((Int) × (Bool)))) : Option (((Bool) × Unit) × Unit) :=
 obind (R.qcz K p0.1) fun v2 =>
 bif v2.1.1 then
 obind (R.qcH K p0.2.2.1 1 1000000) fun v4 =>
 bif v4.1.1 then
 bif p0.2.2.2 then
 bif p0.2.1 == 0 then
 some (((true, ()), ()))
 else
 bif !p0.2.2.2 then
 obind (R.qcC K p0.2.1) fun v9 =>
 some (((v9.1.1, ()), ()))
 else
 some (((false, ()), ()))
 else
 bif !p0.2.2.2 then
 obind (R.qcC K p0.2.1) fun v8 =>
 some (((v8.1.1, ()), ()))
 else
 some (((false, ()), ()))
 else
 some (((false, ()), ()))
 else
 some (((false, ()), ()))
def R.L_qac_0 (K : Nat) : Nat → (R.T8 × ((List UInt8) × ((Int) × ((Int) × ((Int) × Unit))))) → Option (((Int) × Unit) ⊕ ((Int) × Unit))
 | 0, _ => none
 | n + 1, (q0, (q1, (q2, (q3, (q4, ()))))) =>
 bif decide (q4 < q3) then
 bif decide (0 ≤ q4) && decide (q4 < (↑(List.length q0) : Int)) then
 bif Prod.fst (List.getD q0 (Int.toNat q4) ([], 0, 0, false)) == q1 then
 some (Sum.inr (q4, ()))
 else
 R.L_qac_0 K n (q0, q1, q2, q3, IntKind.i64.wrap (q4 + 1), ())
 else
 none
 else
 some (Sum.inl (q2, ()))
def R.qac (K : Nat) (p0 : List R.T4) (p1_0 : List UInt8) : Option (((Int) × Unit) × Unit) :=
 obind (R.L_qac_0 K K (p0, p1_0, 0, (↑(List.length p0) : Int), 0, ())) fun v2 =>
 (match v2 with
 | .inl v3 =>
 some (((-1, ()), ()))
 | .inr v3 =>
 some (((v3.1, ()), ()))
 )
def R.qcK (K : Nat) (p0 : List R.T4) (p1 : List UInt8) : Option (((Int) × Unit) × Unit) :=
 obind (R.qac K p0 p1) fun v2 =>
 some (((v2.1.1, ()), ()))
def R.L_qaf_0 (K : Nat) : Nat → (R.T8 × ((Bool) × (R.T8 × (R.T8 × ((Bool) × (R.T8 × R.T38)))))) → Option ((R.T8 × ((Bool) × (R.T8 × (R.T8 × ((Bool) × R.T25))))) ⊕ (R.T8 × ((Bool) × (R.T8 × (R.T8 × ((Bool) × R.T25))))))
 | 0, _ => none
 | n + 1, (q0, (q1, (q2, (q3, (q4, (q5, (q6, (q7, (q8, (q9, ())))))))))) =>
 bif decide (q9 < q8) then
 bif decide (0 ≤ q9) && decide (q9 < (↑(List.length q6) : Int)) then
 obind (R.qcJ K (List.getD q6 (Int.toNat q9) ([], 0, 0, false))) fun v6 =>
 bif !v6.1.1 then
 some (Sum.inr (q0, q1, q2, q3, q4, q5, q9, ()))
 else
 R.L_qaf_0 K n (q0, q1, q2, q3, q4, q5, q6, q7, q8, IntKind.i64.wrap (q9 + 1), ())
 else
 none
 else
 some (Sum.inl (q0, q1, q2, q3, q4, q5, q7, ()))
def R.qaf (K : Nat) (p0 : List R.T4) : Option (((Bool) × Unit) × Unit) :=
 obind (R.L_qaf_0 K K (p0, false, p0, p0, false, p0, p0, 0, (↑(List.length p0) : Int), 0, ())) fun v2 =>
 (match v2 with
 | .inl v3 =>
 some (((!decide (-1 ≥ 0), ()), ()))
 | .inr v3 =>
 some (((!decide (v3.2.2.2.2.2.2.1 ≥ 0), ()), ()))
 )
def R.L_qcp_0 (K : Nat) : Nat → (R.T8 × ((Bool) × (R.T8 × ((Int) × ((Int) × Unit))))) → Option (((Bool) × Unit) ⊕ ((Bool) × Unit))
 | 0, _ => none
 | n + 1, (q0, (q1, (q2, (q3, (q4, ()))))) =>
 bif decide (q4 < q3) then
 bif decide (0 ≤ q4) && decide (q4 < (↑(List.length q2) : Int)) then
 bif decide (0 ≤ q4) && decide (q4 ≤ (↑(List.length q0) : Int)) then
 obind (R.qcK K (List.drop 0 (List.take (Int.toNat q4) q0)) (Prod.fst (List.getD q2 (Int.toNat q4) ([], 0, 0, false)))) fun v7 =>
 bif decide (v7.1.1 ≥ 0) then
 some (Sum.inr (false, ()))
 else
 R.L_qcp_0 K n (q0, q1, q2, q3, IntKind.i64.wrap (q4 + 1), ())
 else
 none
 else
 none
 else
 some (Sum.inl (q1, ()))
def R.qcp (K : Nat) (p0 : List R.T4) : Option (((Bool) × Unit) × Unit) :=
 bif decide ((↑(List.length p0) : Int) > 8) then
 some (((false, ()), ()))
 else
 obind (R.qaf K p0) fun v3 =>
 bif !v3.1.1 then
 some (((false, ()), ()))
 else
 obind (R.L_qcp_0 K K (p0, false, p0, (↑(List.length p0) : Int), 0, ())) fun v5 =>
 (match v5 with
 | .inl v6 =>
 some (((true, ()), ()))
 | .inr v6 =>
 some (((v6.1, ()), ()))
 )
def R.L_qae_0 (K : Nat) : Nat → (R.T8 × (R.T43 × ((Bool) × (R.T8 × (R.T8 × ((Bool) × (R.T8 × (R.T8 × ((Int) × ((Int) × R.T48)))))))))) → Option ((R.T8 × (R.T43 × ((Bool) × (R.T8 × (R.T8 × ((Bool) × (R.T8 × R.T48))))))) ⊕ (R.T8 × (R.T43 × ((Bool) × (R.T8 × (R.T8 × ((Bool) × (R.T8 × R.T48))))))))
 | 0, _ => none
 | n + 1, (q0, (q1, (q2, (q3, (q4, (q5, (q6, (q7, (q8, (q9, (q10, (q11, ())))))))))))) =>
 bif decide (q10 < q9) then
 bif decide (0 ≤ q10) && decide (q10 < (↑(List.length q7) : Int)) then
 bif !decide (Prod.fst (Prod.snd (List.getD q7 (Int.toNat q10) ([], 0, 0, false))) ≤ (↑(List.length q11.1) : Int)) then
 some (Sum.inr (q0, q1, q2, q3, q4, q5, q6, q10, q11, ()))
 else
 R.L_qae_0 K n (q0, q1, q2, q3, q4, q5, q6, q7, q8, q9, IntKind.i64.wrap (q10 + 1), q11, ())
 else
 none
 else
 some (Sum.inl (q0, q1, q2, q3, q4, q5, q6, q8, q11, ()))
def R.qae (K : Nat) (p0 : List R.T4) (p1_0 : R.T12 × R.T8) : Option (((Bool) × Unit) × Unit) :=
 obind (R.L_qae_0 K K (p0, p1_0, false, p0, p0, false, p0, p0, 0, (↑(List.length p0) : Int), 0, p1_0, ())) fun v2 =>
 (match v2 with
 | .inl v3 =>
 some (((!decide (-1 ≥ 0), ()), ()))
 | .inr v3 =>
 some (((!decide (v3.2.2.2.2.2.2.2.1 ≥ 0), ()), ()))
 )
def R.qci (K : Nat) (p0 : R.T12 × R.T8) : Option (((Bool) × Unit) × Unit) :=
 obind (R.qbO K p0.1) fun v2 =>
 bif v2.1.1 then
 obind (R.qcp K p0.2) fun v4 =>
 bif v4.1.1 then
 obind (R.qae K p0.2 p0) fun v6 =>
 some (((v6.1.1, ()), ()))
 else
 some (((false, ()), ()))
 else
 some (((false, ()), ()))
def R.L_qbH_0 (K : Nat) : Nat → (R.T0 × ((Bool) × (R.T0 × ((Int) × ((Int) × Unit))))) → Option ((R.T0 × ((Bool) × Unit)) ⊕ ((Bool) × Unit))
 | 0, _ => none
 | n + 1, (q0, (q1, (q2, (q3, (q4, ()))))) =>
 bif decide (q4 < q3) then
 bif decide (0 ≤ q4) && decide (q4 < (↑(List.length q2) : Int)) then
 obind (R.qcz K (Prod.fst (List.getD q2 (Int.toNat q4) ([], 0, false)))) fun v6 =>
 bif !v6.1.1 then
 some (Sum.inr (false, ()))
 else
 obind (R.qbZ K (Prod.fst (Prod.snd (List.getD q2 (Int.toNat q4) ([], 0, false))))) fun v8 =>
 bif !v8.1.1 then
 some (Sum.inr (false, ()))
 else
 bif Prod.snd (Prod.snd (List.getD q2 (Int.toNat q4) ([], 0, false))) then
 bif Prod.fst (Prod.snd (List.getD q2 (Int.toNat q4) ([], 0, false))) != 0 then
 some (Sum.inr (false, ()))
 else
 bif decide (q4 > 0) then
 bif decide (0 ≤ IntKind.i64.wrap (q4 - 1)) && decide (IntKind.i64.wrap (q4 - 1) < (↑(List.length q0) : Int)) then
 bif !Fw.sless (Prod.fst (List.getD q0 (Int.toNat (IntKind.i64.wrap (q4 - 1))) ([], 0, false))) (Prod.fst (List.getD q2 (Int.toNat q4) ([], 0, false))) then
 some (Sum.inr (false, ()))
 else
 R.L_qbH_0 K n (q0, q1, q2, q3, IntKind.i64.wrap (q4 + 1), ())
 else
 none
 else
 R.L_qbH_0 K n (q0, q1, q2, q3, IntKind.i64.wrap (q4 + 1), ())
 else
 bif decide (q4 > 0) then
 bif decide (0 ≤ IntKind.i64.wrap (q4 - 1)) && decide (IntKind.i64.wrap (q4 - 1) < (↑(List.length q0) : Int)) then
 bif !Fw.sless (Prod.fst (List.getD q0 (Int.toNat (IntKind.i64.wrap (q4 - 1))) ([], 0, false))) (Prod.fst (List.getD q2 (Int.toNat q4) ([], 0, false))) then
 some (Sum.inr (false, ()))
 else
 R.L_qbH_0 K n (q0, q1, q2, q3, IntKind.i64.wrap (q4 + 1), ())
 else
 none
 else
 R.L_qbH_0 K n (q0, q1, q2, q3, IntKind.i64.wrap (q4 + 1), ())
 else
 none
 else
 some (Sum.inl (q0, q1, ()))
def R.qbH (K : Nat) (p0 : List ((List UInt8) × ((Int) × (Bool)))) : Option (((Bool) × Unit) × Unit) :=
 obind (R.L_qbH_0 K K (p0, false, p0, (↑(List.length p0) : Int), 0, ())) fun v2 =>
 (match v2 with
 | .inl v3 =>
 some (((decide ((↑(List.length v3.1) : Int) ≤ 6), ()), ()))
 | .inr v3 =>
 some (((v3.1, ()), ()))
 )
def R.qde (K : Nat) (p0 : (Int) × R.T37) : Option (((Bool) × Unit) × Unit) :=
 obind (R.qcz K p0.2.2.1) fun v2 =>
 bif !v2.1.1 then
 some (((false, ()), ()))
 else
 bif p0.1 != 5 then
 bif !p0.2.2.2.1 == Array.toList (ByteArray.data (ByteArray.mk #[])) then
 some (((false, ()), ()))
 else
 bif p0.1 != 3 then
 bif decide ((↑(List.length p0.2.2.2.2) : Int) > 0) then
 some (((false, ()), ()))
 else
 bif p0.1 == 1 then
 bif p0.1 == 1 then
 obind (R.qcC K p0.2.1) fun v10 =>
 some (((v10.1.1, ()), ()))
 else
 bif p0.1 == 2 then
 bif p0.1 == 2 then
 some (((p0.2.1 == 0, ()), ()))
 else
 bif p0.1 == 3 then
 obind (R.qcH K p0.2.1 0 60) fun v13 =>
 bif v13.1.1 then
 obind (R.qbH K p0.2.2.2.2) fun v15 =>
 some (((v15.1.1, ()), ()))
 else
 some (((false, ()), ()))
 else
 bif p0.1 == 5 then
 bif p0.2.1 == 0 then
 obind (R.qcz K p0.2.2.2.1) fun v15 =>
 some (((v15.1.1, ()), ()))
 else
 some (((false, ()), ()))
 else
 some (((false, ()), ()))
 else
 bif p0.1 == 6 then
 some (((p0.2.1 == 0, ()), ()))
 else
 bif p0.1 == 3 then
 obind (R.qcH K p0.2.1 0 60) fun v13 =>
 bif v13.1.1 then
 obind (R.qbH K p0.2.2.2.2) fun v15 =>
 some (((v15.1.1, ()), ()))
 else
 some (((false, ()), ()))
 else
 bif p0.1 == 5 then
 bif p0.2.1 == 0 then
 obind (R.qcz K p0.2.2.2.1) fun v15 =>
 some (((v15.1.1, ()), ()))
 else
 some (((false, ()), ()))
 else
 some (((false, ()), ()))
 else
 bif p0.1 == 4 then
 obind (R.qcC K p0.2.1) fun v10 =>
 some (((v10.1.1, ()), ()))
 else
 bif p0.1 == 2 then
 bif p0.1 == 2 then
 some (((p0.2.1 == 0, ()), ()))
 else
 bif p0.1 == 3 then
 obind (R.qcH K p0.2.1 0 60) fun v13 =>
 bif v13.1.1 then
 obind (R.qbH K p0.2.2.2.2) fun v15 =>
 some (((v15.1.1, ()), ()))
 else
 some (((false, ()), ()))
 else
 bif p0.1 == 5 then
 bif p0.2.1 == 0 then
 obind (R.qcz K p0.2.2.2.1) fun v15 =>
 some (((v15.1.1, ()), ()))
 else
 some (((false, ()), ()))
 else
 some (((false, ()), ()))
 else
 bif p0.1 == 6 then
 some (((p0.2.1 == 0, ()), ()))
 else
 bif p0.1 == 3 then
 obind (R.qcH K p0.2.1 0 60) fun v13 =>
 bif v13.1.1 then
 obind (R.qbH K p0.2.2.2.2) fun v15 =>
 some (((v15.1.1, ()), ()))
 else
 some (((false, ()), ()))
 else
 bif p0.1 == 5 then
 bif p0.2.1 == 0 then
 obind (R.qcz K p0.2.2.2.1) fun v15 =>
 some (((v15.1.1, ()), ()))
 else
 some (((false, ()), ()))
 else
 some (((false, ()), ()))
 else
 bif p0.1 == 1 then
 bif p0.1 == 1 then
 obind (R.qcC K p0.2.1) fun v9 =>
 some (((v9.1.1, ()), ()))
 else
 bif p0.1 == 2 then
 bif p0.1 == 2 then
 some (((p0.2.1 == 0, ()), ()))
 else
 bif p0.1 == 3 then
 obind (R.qcH K p0.2.1 0 60) fun v12 =>
 bif v12.1.1 then
 obind (R.qbH K p0.2.2.2.2) fun v14 =>
 some (((v14.1.1, ()), ()))
 else
 some (((false, ()), ()))
 else
 bif p0.1 == 5 then
 bif p0.2.1 == 0 then
 obind (R.qcz K p0.2.2.2.1) fun v14 =>
 some (((v14.1.1, ()), ()))
 else
 some (((false, ()), ()))
 else
 some (((false, ()), ()))
 else
 bif p0.1 == 6 then
 some (((p0.2.1 == 0, ()), ()))
 else
 bif p0.1 == 3 then
 obind (R.qcH K p0.2.1 0 60) fun v12 =>
 bif v12.1.1 then
 obind (R.qbH K p0.2.2.2.2) fun v14 =>
 some (((v14.1.1, ()), ()))
 else
 some (((false, ()), ()))
 else
 bif p0.1 == 5 then
 bif p0.2.1 == 0 then
 obind (R.qcz K p0.2.2.2.1) fun v14 =>
 some (((v14.1.1, ()), ()))
 else
 some (((false, ()), ()))
 else
 some (((false, ()), ()))
 else
 bif p0.1 == 4 then
 obind (R.qcC K p0.2.1) fun v9 =>
 some (((v9.1.1, ()), ()))
 else
 bif p0.1 == 2 then
 bif p0.1 == 2 then
 some (((p0.2.1 == 0, ()), ()))
 else
 bif p0.1 == 3 then
 obind (R.qcH K p0.2.1 0 60) fun v12 =>
 bif v12.1.1 then
 obind (R.qbH K p0.2.2.2.2) fun v14 =>
 some (((v14.1.1, ()), ()))
 else
 some (((false, ()), ()))
 else
 bif p0.1 == 5 then
 bif p0.2.1 == 0 then
 obind (R.qcz K p0.2.2.2.1) fun v14 =>
 some (((v14.1.1, ()), ()))
 else
 some (((false, ()), ()))
 else
 some (((false, ()), ()))
 else
 bif p0.1 == 6 then
 some (((p0.2.1 == 0, ()), ()))
 else
 bif p0.1 == 3 then
 obind (R.qcH K p0.2.1 0 60) fun v12 =>
 bif v12.1.1 then
 obind (R.qbH K p0.2.2.2.2) fun v14 =>
 some (((v14.1.1, ()), ()))
 else
 some (((false, ()), ()))
 else
 bif p0.1 == 5 then
 bif p0.2.1 == 0 then
 obind (R.qcz K p0.2.2.2.1) fun v14 =>
 some (((v14.1.1, ()), ()))
 else
 some (((false, ()), ()))
 else
 some (((false, ()), ()))
 else
 bif p0.1 != 3 then
 bif decide ((↑(List.length p0.2.2.2.2) : Int) > 0) then
 some (((false, ()), ()))
 else
 bif p0.1 == 1 then
 bif p0.1 == 1 then
 obind (R.qcC K p0.2.1) fun v9 =>
 some (((v9.1.1, ()), ()))
 else
 bif p0.1 == 2 then
 bif p0.1 == 2 then
 some (((p0.2.1 == 0, ()), ()))
 else
 bif p0.1 == 3 then
 obind (R.qcH K p0.2.1 0 60) fun v12 =>
 bif v12.1.1 then
 obind (R.qbH K p0.2.2.2.2) fun v14 =>
 some (((v14.1.1, ()), ()))
 else
 some (((false, ()), ()))
 else
 bif p0.1 == 5 then
 bif p0.2.1 == 0 then
 obind (R.qcz K p0.2.2.2.1) fun v14 =>
 some (((v14.1.1, ()), ()))
 else
 some (((false, ()), ()))
 else
 some (((false, ()), ()))
 else
 bif p0.1 == 6 then
 some (((p0.2.1 == 0, ()), ()))
 else
 bif p0.1 == 3 then
 obind (R.qcH K p0.2.1 0 60) fun v12 =>
 bif v12.1.1 then
 obind (R.qbH K p0.2.2.2.2) fun v14 =>
 some (((v14.1.1, ()), ()))
 else
 some (((false, ()), ()))
 else
 bif p0.1 == 5 then
 bif p0.2.1 == 0 then
 obind (R.qcz K p0.2.2.2.1) fun v14 =>
 some (((v14.1.1, ()), ()))
 else
 some (((false, ()), ()))
 else
 some (((false, ()), ()))
 else
 bif p0.1 == 4 then
 obind (R.qcC K p0.2.1) fun v9 =>
 some (((v9.1.1, ()), ()))
 else
 bif p0.1 == 2 then
 bif p0.1 == 2 then
 some (((p0.2.1 == 0, ()), ()))
 else
 bif p0.1 == 3 then
 obind (R.qcH K p0.2.1 0 60) fun v12 =>
 bif v12.1.1 then
 obind (R.qbH K p0.2.2.2.2) fun v14 =>
 some (((v14.1.1, ()), ()))
 else
 some (((false, ()), ()))
 else
 bif p0.1 == 5 then
 bif p0.2.1 == 0 then
 obind (R.qcz K p0.2.2.2.1) fun v14 =>
 some (((v14.1.1, ()), ()))
 else
 some (((false, ()), ()))
 else
 some (((false, ()), ()))
 else
 bif p0.1 == 6 then
 some (((p0.2.1 == 0, ()), ()))
 else
 bif p0.1 == 3 then
 obind (R.qcH K p0.2.1 0 60) fun v12 =>
 bif v12.1.1 then
 obind (R.qbH K p0.2.2.2.2) fun v14 =>
 some (((v14.1.1, ()), ()))
 else
 some (((false, ()), ()))
 else
 bif p0.1 == 5 then
 bif p0.2.1 == 0 then
 obind (R.qcz K p0.2.2.2.1) fun v14 =>
 some (((v14.1.1, ()), ()))
 else
 some (((false, ()), ()))
 else
 some (((false, ()), ()))
 else
 bif p0.1 == 1 then
 bif p0.1 == 1 then
 obind (R.qcC K p0.2.1) fun v8 =>
 some (((v8.1.1, ()), ()))
 else
 bif p0.1 == 2 then
 bif p0.1 == 2 then
 some (((p0.2.1 == 0, ()), ()))
 else
 bif p0.1 == 3 then
 obind (R.qcH K p0.2.1 0 60) fun v11 =>
 bif v11.1.1 then
 obind (R.qbH K p0.2.2.2.2) fun v13 =>
 some (((v13.1.1, ()), ()))
 else
 some (((false, ()), ()))
 else
 bif p0.1 == 5 then
 bif p0.2.1 == 0 then
 obind (R.qcz K p0.2.2.2.1) fun v13 =>
 some (((v13.1.1, ()), ()))
 else
 some (((false, ()), ()))
 else
 some (((false, ()), ()))
 else
 bif p0.1 == 6 then
 some (((p0.2.1 == 0, ()), ()))
 else
 bif p0.1 == 3 then
 obind (R.qcH K p0.2.1 0 60) fun v11 =>
 bif v11.1.1 then
 obind (R.qbH K p0.2.2.2.2) fun v13 =>
 some (((v13.1.1, ()), ()))
 else
 some (((false, ()), ()))
 else
 bif p0.1 == 5 then
 bif p0.2.1 == 0 then
 obind (R.qcz K p0.2.2.2.1) fun v13 =>
 some (((v13.1.1, ()), ()))
 else
 some (((false, ()), ()))
 else
 some (((false, ()), ()))
 else
 bif p0.1 == 4 then
 obind (R.qcC K p0.2.1) fun v8 =>
 some (((v8.1.1, ()), ()))
 else
 bif p0.1 == 2 then
 bif p0.1 == 2 then
 some (((p0.2.1 == 0, ()), ()))
 else
 bif p0.1 == 3 then
 obind (R.qcH K p0.2.1 0 60) fun v11 =>
 bif v11.1.1 then
 obind (R.qbH K p0.2.2.2.2) fun v13 =>
 some (((v13.1.1, ()), ()))
 else
 some (((false, ()), ()))
 else
 bif p0.1 == 5 then
 bif p0.2.1 == 0 then
 obind (R.qcz K p0.2.2.2.1) fun v13 =>
 some (((v13.1.1, ()), ()))
 else
 some (((false, ()), ()))
 else
 some (((false, ()), ()))
 else
 bif p0.1 == 6 then
 some (((p0.2.1 == 0, ()), ()))
 else
 bif p0.1 == 3 then
 obind (R.qcH K p0.2.1 0 60) fun v11 =>
 bif v11.1.1 then
 obind (R.qbH K p0.2.2.2.2) fun v13 =>
 some (((v13.1.1, ()), ()))
 else
 some (((false, ()), ()))
 else
 bif p0.1 == 5 then
 bif p0.2.1 == 0 then
 obind (R.qcz K p0.2.2.2.1) fun v13 =>
 some (((v13.1.1, ()), ()))
 else
 some (((false, ()), ()))
 else
 some (((false, ()), ()))
def R.qda (K : Nat) (p0 : List R.T4) (p1 : List UInt8) : Option (((Int) × ((Bool) × Unit)) × Unit) :=
 obind (R.qcK K p0 p1) fun v2 =>
 bif decide (v2.1.1 ≥ 0) then
 bif decide (0 ≤ v2.1.1) && decide (v2.1.1 < (↑(List.length p0) : Int)) then
 some (((v2.1.1, !Prod.snd (Prod.snd (Prod.snd (List.getD p0 (Int.toNat v2.1.1) ([], 0, 0, false)))), ()), ()))
 else
 none
 else
 some (((v2.1.1, false, ()), ()))
def R.qas (K : Nat) (p0 : List R.T4) : Option R.T24 :=
 bif List.isEmpty p0 then
 Fw.alt (
 some ((([], ()), ()))
 ) (
 bif Nat.ble (0 + List.length p0) 268435456 then
 some (((p0, ()), ()))
 else
 none
 )
 else
 bif Nat.ble (0 + List.length p0) 268435456 then
 some (((p0, ()), ()))
 else
 none
def R.qcu (K : Nat) (p0 : List R.T4) (p1 : List UInt8) (p2 : Int) : Option R.T32 :=
 obind (R.qas K p0) fun v2 =>
 obind (R.qcK K p0 p1) fun v3 =>
 bif decide (v3.1.1 ≥ 0) then
 bif decide (0 ≤ v3.1.1) && decide (v3.1.1 < (↑(List.length p0) : Int)) then
 bif !Prod.snd (Prod.snd (Prod.snd (List.getD p0 (Int.toNat v3.1.1) ([], 0, 0, false)))) then
 some (((v2.1.1, 14, ()), ()))
 else
 bif decide (v3.1.1 ≥ 0) then
 bif decide (0 ≤ v3.1.1) && decide (v3.1.1 < (↑(List.length p0) : Int)) then
 bif Prod.fst (Prod.snd (Prod.snd (List.getD p0 (Int.toNat v3.1.1) ([], 0, 0, false)))) == 1000000 then
 some (((v2.1.1, 7, ()), ()))
 else
 bif decide (v3.1.1 < 0) then
 bif (↑(List.length p0) : Int) == 8 then
 some (((v2.1.1, 7, ()), ()))
 else
 bif decide (v3.1.1 < 0) then
 bif Nat.ble (List.length v2.1.1 + 1) 268435456 then
 some (((v2.1.1 ++ [(p1, p2, 1, false)], 0, ()), ()))
 else
 none
 else
 bif decide (0 ≤ v3.1.1) && decide (v3.1.1 < (↑(List.length p0) : Int)) then
 bif decide (0 ≤ v3.1.1) && decide (v3.1.1 < (↑(List.length v2.1.1) : Int)) then
 some (((List.set v2.1.1 (Int.toNat v3.1.1) (p1, p2, IntKind.i64.wrap (Prod.fst (Prod.snd (Prod.snd (List.getD p0 (Int.toNat v3.1.1) ([], 0, 0, false)))) + 1), false), 0, ()), ()))
 else
 none
 else
 none
 else
 bif decide (v3.1.1 < 0) then
 bif Nat.ble (List.length v2.1.1 + 1) 268435456 then
 some (((v2.1.1 ++ [(p1, p2, 1, false)], 0, ()), ()))
 else
 none
 else
 bif decide (0 ≤ v3.1.1) && decide (v3.1.1 < (↑(List.length p0) : Int)) then
 bif decide (0 ≤ v3.1.1) && decide (v3.1.1 < (↑(List.length v2.1.1) : Int)) then
 some (((List.set v2.1.1 (Int.toNat v3.1.1) (p1, p2, IntKind.i64.wrap (Prod.fst (Prod.snd (Prod.snd (List.getD p0 (Int.toNat v3.1.1) ([], 0, 0, false)))) + 1), false), 0, ()), ()))
 else
 none
 else
 none
 else
 none
 else
 bif decide (v3.1.1 < 0) then
 bif (↑(List.length p0) : Int) == 8 then
 some (((v2.1.1, 7, ()), ()))
 else
 bif decide (v3.1.1 < 0) then
 bif Nat.ble (List.length v2.1.1 + 1) 268435456 then
 some (((v2.1.1 ++ [(p1, p2, 1, false)], 0, ()), ()))
 else
 none
 else
 bif decide (0 ≤ v3.1.1) && decide (v3.1.1 < (↑(List.length p0) : Int)) then
 bif decide (0 ≤ v3.1.1) && decide (v3.1.1 < (↑(List.length v2.1.1) : Int)) then
 some (((List.set v2.1.1 (Int.toNat v3.1.1) (p1, p2, IntKind.i64.wrap (Prod.fst (Prod.snd (Prod.snd (List.getD p0 (Int.toNat v3.1.1) ([], 0, 0, false)))) + 1), false), 0, ()), ()))
 else
 none
 else
 none
 else
 bif decide (v3.1.1 < 0) then
 bif Nat.ble (List.length v2.1.1 + 1) 268435456 then
 some (((v2.1.1 ++ [(p1, p2, 1, false)], 0, ()), ()))
 else
 none
 else
 bif decide (0 ≤ v3.1.1) && decide (v3.1.1 < (↑(List.length p0) : Int)) then
 bif decide (0 ≤ v3.1.1) && decide (v3.1.1 < (↑(List.length v2.1.1) : Int)) then
 some (((List.set v2.1.1 (Int.toNat v3.1.1) (p1, p2, IntKind.i64.wrap (Prod.fst (Prod.snd (Prod.snd (List.getD p0 (Int.toNat v3.1.1) ([], 0, 0, false)))) + 1), false), 0, ()), ()))
 else
 none
 else
 none
 else
 none
 else
 bif decide (v3.1.1 ≥ 0) then
 bif decide (0 ≤ v3.1.1) && decide (v3.1.1 < (↑(List.length p0) : Int)) then
 bif Prod.fst (Prod.snd (Prod.snd (List.getD p0 (Int.toNat v3.1.1) ([], 0, 0, false)))) == 1000000 then
 some (((v2.1.1, 7, ()), ()))
 else
 bif decide (v3.1.1 < 0) then
 bif (↑(List.length p0) : Int) == 8 then
 some (((v2.1.1, 7, ()), ()))
 else
 bif decide (v3.1.1 < 0) then
 bif Nat.ble (List.length v2.1.1 + 1) 268435456 then
 some (((v2.1.1 ++ [(p1, p2, 1, false)], 0, ()), ()))
 else
 none
 else
 bif decide (0 ≤ v3.1.1) && decide (v3.1.1 < (↑(List.length p0) : Int)) then
 bif decide (0 ≤ v3.1.1) && decide (v3.1.1 < (↑(List.length v2.1.1) : Int)) then
 some (((List.set v2.1.1 (Int.toNat v3.1.1) (p1, p2, IntKind.i64.wrap (Prod.fst (Prod.snd (Prod.snd (List.getD p0 (Int.toNat v3.1.1) ([], 0, 0, false)))) + 1), false), 0, ()), ()))
 else
 none
 else
 none
 else
 bif decide (v3.1.1 < 0) then
 bif Nat.ble (List.length v2.1.1 + 1) 268435456 then
 some (((v2.1.1 ++ [(p1, p2, 1, false)], 0, ()), ()))
 else
 none
 else
 bif decide (0 ≤ v3.1.1) && decide (v3.1.1 < (↑(List.length p0) : Int)) then
 bif decide (0 ≤ v3.1.1) && decide (v3.1.1 < (↑(List.length v2.1.1) : Int)) then
 some (((List.set v2.1.1 (Int.toNat v3.1.1) (p1, p2, IntKind.i64.wrap (Prod.fst (Prod.snd (Prod.snd (List.getD p0 (Int.toNat v3.1.1) ([], 0, 0, false)))) + 1), false), 0, ()), ()))
 else
 none
 else
 none
 else
 none
 else
 bif decide (v3.1.1 < 0) then
 bif (↑(List.length p0) : Int) == 8 then
 some (((v2.1.1, 7, ()), ()))
 else
 bif decide (v3.1.1 < 0) then
 bif Nat.ble (List.length v2.1.1 + 1) 268435456 then
 some (((v2.1.1 ++ [(p1, p2, 1, false)], 0, ()), ()))
 else
 none
 else
 bif decide (0 ≤ v3.1.1) && decide (v3.1.1 < (↑(List.length p0) : Int)) then
 bif decide (0 ≤ v3.1.1) && decide (v3.1.1 < (↑(List.length v2.1.1) : Int)) then
 some (((List.set v2.1.1 (Int.toNat v3.1.1) (p1, p2, IntKind.i64.wrap (Prod.fst (Prod.snd (Prod.snd (List.getD p0 (Int.toNat v3.1.1) ([], 0, 0, false)))) + 1), false), 0, ()), ()))
 else
 none
 else
 none
 else
 bif decide (v3.1.1 < 0) then
 bif Nat.ble (List.length v2.1.1 + 1) 268435456 then
 some (((v2.1.1 ++ [(p1, p2, 1, false)], 0, ()), ()))
 else
 none
 else
 bif decide (0 ≤ v3.1.1) && decide (v3.1.1 < (↑(List.length p0) : Int)) then
 bif decide (0 ≤ v3.1.1) && decide (v3.1.1 < (↑(List.length v2.1.1) : Int)) then
 some (((List.set v2.1.1 (Int.toNat v3.1.1) (p1, p2, IntKind.i64.wrap (Prod.fst (Prod.snd (Prod.snd (List.getD p0 (Int.toNat v3.1.1) ([], 0, 0, false)))) + 1), false), 0, ()), ()))
 else
 none
 else
 none
def R.qbB (K : Nat) (p0 : R.T12 × R.T8) (p1 : List R.T4) (p2 : Int) (p3 : Int) : Option R.T54 :=
 bif p2 != 0 then
 some (((p0, (p2, 0, 0, [], []), ()), ()))
 else
 some ((((p0.1, p1), (0, p3, 0, [], []), ()), ()))
def R.qcU (K : Nat) (p0 : List R.T4) (p1 : Int) (p2 : Int) : Option R.T32 :=
 obind (R.qas K p0) fun v2 =>
 bif decide (0 ≤ p1) && decide (p1 < (↑(List.length p0) : Int)) then
 bif Prod.fst (Prod.snd (Prod.snd (List.getD p0 (Int.toNat p1) ([], 0, 0, false)))) == 1000000 then
 some (((v2.1.1, 7, ()), ()))
 else
 bif decide (0 ≤ p1) && decide (p1 < (↑(List.length p0) : Int)) then
 bif decide (0 ≤ p1) && decide (p1 < (↑(List.length p0) : Int)) then
 bif decide (0 ≤ p1) && decide (p1 < (↑(List.length v2.1.1) : Int)) then
 some (((List.set v2.1.1 (Int.toNat p1) (Prod.fst (List.getD p0 (Int.toNat p1) ([], 0, 0, false)), p2, IntKind.i64.wrap (Prod.fst (Prod.snd (Prod.snd (List.getD p0 (Int.toNat p1) ([], 0, 0, false)))) + 1), p2 == 0), 0, ()), ()))
 else
 none
 else
 none
 else
 none
 else
 none
def R.qaO (K : Nat) (p0 : List UInt8) (p1 : List UInt8) : Option (((Int) × Unit) × Unit) := Fw.cmpF p0 p1
def R.qcw (K : Nat) (p0 : (List UInt8) × (Int)) (p1 : List UInt8) : Option (((Int) × Unit) × Unit) :=
 some (((Go.Lib.compareBytes p0.1 p1, ()), ()))
def R.L_qaa_0 (K : Nat) : Nat → ((List ((List UInt8) × (Int))) × ((List UInt8) × ((Int) × ((Bool) × ((Int) × ((Int) × ((Int) × Unit))))))) → Option (((List ((List UInt8) × (Int))) × ((List UInt8) × ((Int) × ((Bool) × ((Int) × ((Int) × Unit)))))) ⊕ Unit)
 | 0, _ => none
 | n + 1, (q0, (q1, (q2, (q3, (q4, (q5, (q6, ()))))))) =>
 bif decide (q5 < q6) then
 bif decide (0 ≤ IntKind.i64.wrap (Fw.shrOf (Go.IntKind.wrap Go.IntKind.u64 (IntKind.i64.wrap (q5 + q6))) (Min.min (Int.toNat 1) (Go.IntKind.bits Go.IntKind.u64)))) && decide (IntKind.i64.wrap (Fw.shrOf (Go.IntKind.wrap Go.IntKind.u64 (IntKind.i64.wrap (q5 + q6))) (Min.min (Int.toNat 1) (Go.IntKind.bits Go.IntKind.u64))) < (↑(List.length q0) : Int)) then
 bif decide (Go.Lib.compareBytes (Prod.fst (List.getD q0 (Int.toNat (IntKind.i64.wrap (Fw.shrOf (Go.IntKind.wrap Go.IntKind.u64 (IntKind.i64.wrap (q5 + q6))) (Min.min (Int.toNat 1) (Go.IntKind.bits Go.IntKind.u64))))) ([], 0))) q1 < 0) then
 R.L_qaa_0 K n (q0, q1, q2, q3, q4, IntKind.i64.wrap (IntKind.i64.wrap (Fw.shrOf (Go.IntKind.wrap Go.IntKind.u64 (IntKind.i64.wrap (q5 + q6))) (Min.min (Int.toNat 1) (Go.IntKind.bits Go.IntKind.u64))) + 1), q6, ())
 else
 R.L_qaa_0 K n (q0, q1, q2, q3, q4, q5, IntKind.i64.wrap (Fw.shrOf (Go.IntKind.wrap Go.IntKind.u64 (IntKind.i64.wrap (q5 + q6))) (Min.min (Int.toNat 1) (Go.IntKind.bits Go.IntKind.u64))), ())
 else
 none
 else
 some (Sum.inl (q0, q1, q2, q3, q4, q5, ()))
def R.qaa (K : Nat) (p0 : List ((List UInt8) × (Int))) (p1 : List UInt8) : Option (((Int) × ((Bool) × Unit)) × Unit) :=
 obind (R.L_qaa_0 K K (p0, p1, 0, false, (↑(List.length p0) : Int), 0, (↑(List.length p0) : Int), ())) fun v2 =>
 (match v2 with
 | .inl v3 =>
 bif decide (v3.2.2.2.2.2.1 < v3.2.2.2.2.1) then
 bif decide (0 ≤ v3.2.2.2.2.2.1) && decide (v3.2.2.2.2.2.1 < (↑(List.length v3.1) : Int)) then
 some (((v3.2.2.2.2.2.1, Go.Lib.compareBytes (Prod.fst (List.getD v3.1 (Int.toNat v3.2.2.2.2.2.1) ([], 0))) v3.2.1 == 0, ()), ()))
 else
 none
 else
 some (((v3.2.2.2.2.2.1, false, ()), ()))
 | .inr v3 =>
 none
 )
def R.qdd (K : Nat) (p0 : List ((List UInt8) × (Int))) (p1 : List UInt8) : Option (((Int) × ((Bool) × Unit)) × Unit) :=
 obind (R.qaa K p0 p1) fun v2 =>
 some (((v2.1.1, v2.1.2.1, ()), ()))
def R.qaq (K : Nat) (p0 : List ((List UInt8) × (Int))) : Option R.T6 :=
 bif List.isEmpty p0 then
 Fw.alt (
 some ((([], ()), ()))
 ) (
 bif Nat.ble (0 + List.length p0) 268435456 then
 some (((p0, ()), ()))
 else
 none
 )
 else
 bif Nat.ble (0 + List.length p0) 268435456 then
 some (((p0, ()), ()))
 else
 none
def R.qal (K : Nat) (p0 : List ((List UInt8) × (Int))) (p1 : Int) (p2 : Int) : Option R.T6 := Fw.delF p0 p1 p2
def R.qak (K : Nat) (p0 : List ((List UInt8) × (Int))) (p1 : Int) (p2 : List ((List UInt8) × (Int))) : Option R.T6 := Fw.insF p0 p1 p2
def R.L_qct_0 (K : Nat) : Nat → (R.T0 × ((Int) × R.T35)) → Option R.T33
 | 0, _ => none
 | n + 1, (q0, (q1, (q2, (q3, (q4, ()))))) =>
 bif decide (q2 < q1) then
 bif decide (0 ≤ q2) && decide (q2 < (↑(List.length q0) : Int)) then
 obind (R.qdd K q4 (Prod.fst (List.getD q0 (Int.toNat q2) ([], 0, false)))) fun v6 =>
 bif v6.1.2.1 then
 obind (R.qal K q4 v6.1.1 (IntKind.i64.wrap (v6.1.1 + 1))) fun v8 =>
 bif !Prod.snd (Prod.snd (List.getD q0 (Int.toNat q2) ([], 0, false))) then
 obind (R.qak K v8.1.1 v6.1.1 [(Prod.fst (List.getD q0 (Int.toNat q2) ([], 0, false)), Prod.fst (Prod.snd (List.getD q0 (Int.toNat q2) ([], 0, false))))]) fun v10 =>
 R.L_qct_0 K n (q0, q1, IntKind.i64.wrap (q2 + 1), q3, v10.1.1, ())
 else
 R.L_qct_0 K n (q0, q1, IntKind.i64.wrap (q2 + 1), q3, v8.1.1, ())
 else
 bif !Prod.snd (Prod.snd (List.getD q0 (Int.toNat q2) ([], 0, false))) then
 obind (R.qak K q4 v6.1.1 [(Prod.fst (List.getD q0 (Int.toNat q2) ([], 0, false)), Prod.fst (Prod.snd (List.getD q0 (Int.toNat q2) ([], 0, false))))]) fun v9 =>
 R.L_qct_0 K n (q0, q1, IntKind.i64.wrap (q2 + 1), q3, v9.1.1, ())
 else
 R.L_qct_0 K n (q0, q1, IntKind.i64.wrap (q2 + 1), q3, q4, ())
 else
 none
 else
 some (Sum.inl (q3, q4, ()))
def R.qct (K : Nat) (p0 : List ((List UInt8) × (Int))) (p1 : List ((List UInt8) × ((Int) × (Bool)))) : Option R.T6 :=
 obind (R.qaq K p0) fun v2 =>
 obind (R.L_qct_0 K K (p1, (↑(List.length p1) : Int), 0, [], v2.1.1, ())) fun v3 =>
 (match v3 with
 | .inl v4 =>
 some (((v4.2.1, ()), ()))
 | .inr v4 =>
 none
 )
def R.qaj (K : Nat) (p0 : List ((List UInt8) × ((Int) × (Bool)))) : Option (Unit × R.T7) := Fw.sortF Fw.keyCmp p0
def R.qcs (K : Nat) (p0 : (List UInt8) × ((Int) × (Bool))) (p1 : (List UInt8) × ((Int) × (Bool))) : Option (((Int) × Unit) × Unit) :=
 some (((Go.Lib.compareBytes p0.1 p1.1, ()), ()))
def R.L_qdb_0 (K : Nat) : Nat → ((List ((List UInt8) × (Int))) × R.T52) → Option (((List ((List UInt8) × (Int))) × ((List ((List UInt8) × (Int))) × R.T40)) ⊕ Unit)
 | 0, _ => none
 | n + 1, (q0, (q1, (q2, (q3, (q4, (q5, (q6, ()))))))) =>
 bif decide (q4 < q3) then
 bif decide (0 ≤ q4) && decide (q4 < (↑(List.length q2) : Int)) then
 obind (R.qdd K q0 (Prod.fst (List.getD q2 (Int.toNat q4) ([], 0)))) fun v6 =>
 bif !v6.1.2.1 then
 bif Nat.ble (List.length q6 + 1) 268435456 then
 R.L_qdb_0 K n (q0, q1, q2, q3, IntKind.i64.wrap (q4 + 1), q5, q6 ++ [(Prod.fst (List.getD q2 (Int.toNat q4) ([], 0)), Prod.snd (List.getD q2 (Int.toNat q4) ([], 0)), false)], ())
 else
 none
 else
 bif decide (0 ≤ v6.1.1) && decide (v6.1.1 < (↑(List.length q0) : Int)) then
 bif Prod.snd (List.getD q0 (Int.toNat v6.1.1) ([], 0)) != Prod.snd (List.getD q2 (Int.toNat q4) ([], 0)) then
 bif Nat.ble (List.length q6 + 1) 268435456 then
 R.L_qdb_0 K n (q0, q1, q2, q3, IntKind.i64.wrap (q4 + 1), q5, q6 ++ [(Prod.fst (List.getD q2 (Int.toNat q4) ([], 0)), Prod.snd (List.getD q2 (Int.toNat q4) ([], 0)), false)], ())
 else
 none
 else
 R.L_qdb_0 K n (q0, q1, q2, q3, IntKind.i64.wrap (q4 + 1), q5, q6, ())
 else
 none
 else
 none
 else
 some (Sum.inl (q0, q1, q5, q6, ()))
def R.L_qcs (K : Nat) : Nat → R.T52 → Option R.T41
 | 0, _ => none
 | n + 1, (q0, (q1, (q2, (q3, (q4, (q5, ())))))) =>
 bif decide (q3 < q2) then
 bif decide (0 ≤ q3) && decide (q3 < (↑(List.length q1) : Int)) then
 obind (R.qdd K q0 (Prod.fst (List.getD q1 (Int.toNat q3) ([], 0)))) fun v6 =>
 bif !v6.1.2.1 then
 bif Nat.ble (List.length q5 + 1) 268435456 then
 R.L_qcs K n (q0, q1, q2, IntKind.i64.wrap (q3 + 1), q4, q5 ++ [(Prod.fst (List.getD q1 (Int.toNat q3) ([], 0)), 0, true)], ())
 else
 none
 else
 R.L_qcs K n (q0, q1, q2, IntKind.i64.wrap (q3 + 1), q4, q5, ())
 else
 none
 else
 some (Sum.inl (q4, q5, ()))
def R.qdb (K : Nat) (p0 : List ((List UInt8) × (Int))) (p1 : List ((List UInt8) × (Int))) : Option R.T17 :=
 obind (R.L_qdb_0 K K (p0, p1, p1, (↑(List.length p1) : Int), 0, [], [], ())) fun v2 =>
 (match v2 with
 | .inl v3 =>
 obind (R.L_qcs K K (v3.2.1, v3.1, (↑(List.length v3.1) : Int), 0, v3.2.2.1, v3.2.2.2.1, ())) fun v4 =>
 (match v4 with
 | .inl v5 =>
 obind (R.qaj K v5.2.1) fun v6 =>
 some (((v6.2.1, ()), ()))
 | .inr v5 =>
 none
 )
 | .inr v3 =>
 none
 )
def R.L_qcO_0 (K : Nat) : Nat → ((List ((List UInt8) × (Int))) × ((List ((List UInt8) × (Int))) × ((List ((List UInt8) × (Int))) × ((Int) × ((Int) × ((Int) × ((List ((List UInt8) × (Int))) × ((List (List UInt8)) × (R.T16 × R.T7))))))))) → Option (((List ((List UInt8) × (Int))) × ((List ((List UInt8) × (Int))) × ((List ((List UInt8) × (Int))) × ((Int) × ((List ((List UInt8) × (Int))) × ((List (List UInt8)) × (R.T16 × Unit))))))) ⊕ Unit)
 | 0, _ => none
 | n + 1, (q0, (q1, (q2, (q3, (q4, (q5, (q6, (q7, (q8, (q9, ())))))))))) =>
 bif decide (q5 < q4) then
 bif decide (0 ≤ q5) && decide (q5 < (↑(List.length q9) : Int)) then
 R.L_qcO_0 K n (q0, q1, q2, q3, q4, IntKind.i64.wrap (q5 + 1), q6, q7, Fw.putM q8 (Prod.fst (List.getD q9 (Int.toNat q5) ([], 0, false))) (List.getD q9 (Int.toNat q5) ([], 0, false)), q9, ())
 else
 none
 else
 some (Sum.inl (q0, q1, q2, q3, q6, q7, q8, ()))
def R.L_qcO_1 (K : Nat) : Nat → ((List ((List UInt8) × (Int))) × ((Int) × ((Int) × ((Int) × ((List ((List UInt8) × (Int))) × ((List (List UInt8)) × (R.T16 × (R.T0 × R.T30)))))))) → Option (((List ((List UInt8) × (Int))) × ((Int) × ((List ((List UInt8) × (Int))) × ((List (List UInt8)) × (R.T0 × ((List (List UInt8)) × Unit)))))) ⊕ Unit)
 | 0, _ => none
 | n + 1, (q0, (q1, (q2, (q3, (q4, (q5, (q6, (q7, (q8, (q9, ())))))))))) =>
 bif decide (q3 < q2) then
 bif decide (0 ≤ q3) && decide (q3 < (↑(List.length q9) : Int)) then
 bif !Fw.hasM q6 (Prod.fst (List.getD q9 (Int.toNat q3) ([], 0, false))) then
 bif Nat.ble (List.length q7 + 1) 268435456 then
 R.L_qcO_1 K n (q0, q1, q2, IntKind.i64.wrap (q3 + 1), q4, q5, q6, q7 ++ [List.getD q9 (Int.toNat q3) ([], 0, false)], q8, q9, ())
 else
 none
 else
 bif !(Prod.fst (Fw.getM ([], 0, false) q6 (Prod.fst (List.getD q9 (Int.toNat q3) ([], 0, false)))) == Prod.fst (List.getD q9 (Int.toNat q3) ([], 0, false)) && (Prod.fst (Prod.snd (Fw.getM ([], 0, false) q6 (Prod.fst (List.getD q9 (Int.toNat q3) ([], 0, false))))) == Prod.fst (Prod.snd (List.getD q9 (Int.toNat q3) ([], 0, false))) && Prod.snd (Prod.snd (Fw.getM ([], 0, false) q6 (Prod.fst (List.getD q9 (Int.toNat q3) ([], 0, false))))) == Prod.snd (Prod.snd (List.getD q9 (Int.toNat q3) ([], 0, false))))) then
 bif Nat.ble (List.length q8 + 1) 268435456 then
 R.L_qcO_1 K n (q0, q1, q2, IntKind.i64.wrap (q3 + 1), q4, q5, q6, q7, q8 ++ [Prod.fst (List.getD q9 (Int.toNat q3) ([], 0, false))], q9, ())
 else
 none
 else
 R.L_qcO_1 K n (q0, q1, q2, IntKind.i64.wrap (q3 + 1), q4, q5, q6, q7, q8, q9, ())
 else
 none
 else
 some (Sum.inl (q0, q1, q4, q5, q7, q8, ()))
def R.qcO (K : Nat) (p0 : List ((List UInt8) × (Int))) (p1 : List ((List UInt8) × (Int))) (p2 : List ((List UInt8) × (Int))) : Option R.T34 :=
 obind (R.qdb K p0 p1) fun v2 =>
 obind (R.L_qcO_0 K K (p0, p1, p2, 0, (↑(List.length v2.1.1) : Int), 0, [], [], [], v2.1.1, ())) fun v3 =>
 (match v3 with
 | .inl v4 =>
 obind (R.qdb K v4.1 v4.2.2.1) fun v5 =>
 obind (R.L_qcO_1 K K (v4.2.1, v4.2.2.2.1, (↑(List.length v5.1.1) : Int), 0, v4.2.2.2.2.1, v4.2.2.2.2.2.1, v4.2.2.2.2.2.2.1, [], [], v5.1.1, ())) fun v6 =>
 (match v6 with
 | .inl v7 =>
 bif decide ((↑(List.length v7.2.2.2.2.2.1) : Int) > 0) then
 some ((([], v7.2.2.2.2.2.1, 11, ()), ()))
 else
 obind (R.qct K v7.1 v7.2.2.2.2.1) fun v9 =>
 bif decide ((↑(List.length v9.1.1) : Int) > 12) then
 some ((([], [], 7, ()), ()))
 else
 some (((v9.1.1, [], 0, ()), ()))
 | .inr v7 =>
 none
 )
 | .inr v4 =>
 none
 )
def R.L_qan_0 (K : Nat) : Nat → ((List ((List UInt8) × (Int))) × ((List ((List UInt8) × (Int))) × ((Bool) × ((Int) × ((Int) × Unit))))) → Option (((Bool) × Unit) ⊕ ((Bool) × Unit))
 | 0, _ => none
 | n + 1, (q0, (q1, (q2, (q3, (q4, ()))))) =>
 bif decide (q4 < q3) then
 bif decide (0 ≤ q4) && decide (q4 < (↑(List.length q0) : Int)) then
 bif decide (0 ≤ q4) && decide (q4 < (↑(List.length q1) : Int)) then
 bif !(Prod.fst (List.getD q0 (Int.toNat q4) ([], 0)) == Prod.fst (List.getD q1 (Int.toNat q4) ([], 0)) && Prod.snd (List.getD q0 (Int.toNat q4) ([], 0)) == Prod.snd (List.getD q1 (Int.toNat q4) ([], 0))) then
 some (Sum.inr (false, ()))
 else
 R.L_qan_0 K n (q0, q1, q2, q3, IntKind.i64.wrap (q4 + 1), ())
 else
 none
 else
 none
 else
 some (Sum.inl (q2, ()))
def R.qan (K : Nat) (p0 : List ((List UInt8) × (Int))) (p1 : List ((List UInt8) × (Int))) : Option (((Bool) × Unit) × Unit) :=
 bif (↑(List.length p0) : Int) != (↑(List.length p1) : Int) then
 some (((false, ()), ()))
 else
 obind (R.L_qan_0 K K (p0, p1, false, (↑(List.length p0) : Int), 0, ())) fun v3 =>
 (match v3 with
 | .inl v4 =>
 some (((true, ()), ()))
 | .inr v4 =>
 some (((v4.1, ()), ()))
 )
def R.qay (K : Nat) (p0 : R.T12 × R.T8) (p1 : (Int) × R.T37) (p2 : Int) : Option ((((Bool) × ((List ((List UInt8) × (Int))) × ((List (Int)) × ((List (List UInt8)) × (Int))))) × Unit) × Unit) :=
 bif p1.2.1 == 0 then
 bif decide (0 ≤ IntKind.i64.wrap (p2 - 1)) && decide (IntKind.i64.wrap (p2 - 1) < (↑(List.length p0.1) : Int)) then
 obind (R.qct K (Prod.snd (List.getD p0.1 (Int.toNat (IntKind.i64.wrap (p2 - 1))) ([], []))) p1.2.2.2.2) fun v4 =>
 bif decide ((↑(List.length v4.1.1) : Int) > 12) then
 some ((((false, [], [], [], 7), ()), ()))
 else
 bif decide (0 ≤ IntKind.i64.wrap (p2 - 1)) && decide (IntKind.i64.wrap (p2 - 1) < (↑(List.length p0.1) : Int)) then
 obind (R.qcO K (Prod.snd (List.getD p0.1 (Int.toNat (IntKind.i64.wrap (p2 - 1))) ([], []))) v4.1.1 (Prod.snd (List.getD p0.1 (Int.toNat (IntKind.i64.wrap (p2 - 1))) ([], [])))) fun v7 =>
 bif v7.1.2.2.1 == 0 then
 obind (R.qan K v7.1.1 (Prod.snd (List.getD p0.1 (Int.toNat (IntKind.i64.wrap (p2 - 1))) ([], [])))) fun v9 =>
 bif v9.1.1 then
 some ((((false, [], [], v7.1.2.1, 18), ()), ()))
 else
 bif v7.1.2.2.1 != 0 then
 some ((((false, [], [], v7.1.2.1, v7.1.2.2.1), ()), ()))
 else
 some ((((false, v7.1.1, [p2], [], 0), ()), ()))
 else
 bif v7.1.2.2.1 != 0 then
 some ((((false, [], [], v7.1.2.1, v7.1.2.2.1), ()), ()))
 else
 some ((((false, v7.1.1, [p2], [], 0), ()), ()))
 else
 none
 else
 none
 else
 bif decide (0 ≤ IntKind.i64.wrap (p1.2.1 - 1)) && decide (IntKind.i64.wrap (p1.2.1 - 1) < (↑(List.length p0.1) : Int)) then
 obind (R.qct K (Prod.snd (List.getD p0.1 (Int.toNat (IntKind.i64.wrap (p1.2.1 - 1))) ([], []))) p1.2.2.2.2) fun v4 =>
 bif decide ((↑(List.length v4.1.1) : Int) > 12) then
 some ((((false, [], [], [], 7), ()), ()))
 else
 bif decide (0 ≤ IntKind.i64.wrap (p2 - 1)) && decide (IntKind.i64.wrap (p2 - 1) < (↑(List.length p0.1) : Int)) then
 obind (R.qcO K (Prod.snd (List.getD p0.1 (Int.toNat (IntKind.i64.wrap (p1.2.1 - 1))) ([], []))) v4.1.1 (Prod.snd (List.getD p0.1 (Int.toNat (IntKind.i64.wrap (p2 - 1))) ([], [])))) fun v7 =>
 bif v7.1.2.2.1 == 0 then
 obind (R.qan K v7.1.1 (Prod.snd (List.getD p0.1 (Int.toNat (IntKind.i64.wrap (p2 - 1))) ([], [])))) fun v9 =>
 bif v9.1.1 then
 some ((((false, [], [], v7.1.2.1, 18), ()), ()))
 else
 bif v7.1.2.2.1 != 0 then
 some ((((false, [], [], v7.1.2.1, v7.1.2.2.1), ()), ()))
 else
 some ((((false, v7.1.1, [p2], [], 0), ()), ()))
 else
 bif v7.1.2.2.1 != 0 then
 some ((((false, [], [], v7.1.2.1, v7.1.2.2.1), ()), ()))
 else
 some ((((false, v7.1.1, [p2], [], 0), ()), ()))
 else
 none
 else
 none
def R.L_qbe_1 (K : Nat) : Nat → (R.T12 × ((Int) × ((Int) × ((Bool) × ((Int) × ((Int) × ((Bool) × (R.T12 × ((Int) × ((Int) × (R.T5 × (R.T5 × ((List (Int)) × R.T20))))))))))))) → Option ((R.T12 × ((Int) × ((Int) × ((Bool) × ((Int) × ((Int) × ((Bool) × (R.T12 × ((Int) × ((Int) × (R.T5 × (R.T5 × ((List (Int)) × ((Int) × ((Int) × R.T11))))))))))))))) ⊕ Unit)
 | 0, _ => none
 | n + 1, (q0, (q1, (q2, (q3, (q4, (q5, (q6, (q7, (q8, (q9, (q10, (q11, (q12, (q13, (q14, (q15, (q16, ()))))))))))))))))) =>
 bif decide (q14 < q13) then
 bif decide (0 ≤ q14) && decide (q14 < (↑(List.length q12) : Int)) then
 bif decide (0 ≤ List.getD q12 (Int.toNat q14) 0) && decide (List.getD q12 (Int.toNat q14) 0 < (↑(List.length q16) : Int)) then
 R.L_qbe_1 K n (q0, q1, q2, q3, q4, (↑(Int.toNat q5) : Int), q6, q7, q8, q9, q10, q11, q12, q13, IntKind.i64.wrap (q14 + 1), q15, List.set q16 (Int.toNat (List.getD q12 (Int.toNat q14) 0)) true, ())
 else
 none
 else
 none
 else
 some (Sum.inl (q0, q1, q2, q3, q4, (↑(Int.toNat q5) : Int), q6, q7, q8, q9, q10, q11, q12, q13, q14, decide (q14 < q13), q15, q16, ()))
def R.L_qbe_0 (K : Nat) : Nat → (R.T12 × R.T9) → Option (R.T1 ⊕ Unit)
 | 0, _ => none
 | n + 1, (q0, (q1, (q2, (q3, ())))) =>
 bif decide (q1 > 0) then
 bif decide (0 ≤ q1) && decide (q1 < (↑(List.length q3) : Int)) then
 bif List.getD q3 (Int.toNat q1) false then
 bif decide (0 ≤ IntKind.i64.wrap (q1 - 1)) && decide (IntKind.i64.wrap (q1 - 1) < (↑(List.length q0) : Int)) then
 obind (R.L_qbe_1 K K (q0, q1, q1, decide (q1 > 0), q1, (↑(Int.toNat q1) : Int), List.getD q3 (Int.toNat q1) false, q0, q1, IntKind.i64.wrap (q1 - 1), List.getD q0 (Int.toNat (IntKind.i64.wrap (q1 - 1))) ([], []), List.getD q0 (Int.toNat (IntKind.i64.wrap (q1 - 1))) ([], []), Prod.fst (List.getD q0 (Int.toNat (IntKind.i64.wrap (q1 - 1))) ([], [])), (↑(List.length (Prod.fst (List.getD q0 (Int.toNat (IntKind.i64.wrap (q1 - 1))) ([], [])))) : Int), 0, q2, q3, ())) fun v8 =>
 (match v8 with
 | .inl v9 =>
 R.L_qbe_0 K n (v9.1, IntKind.i64.wrap (v9.2.1 - 1), v9.2.2.2.2.2.2.2.2.2.2.2.2.2.2.2.2.1, v9.2.2.2.2.2.2.2.2.2.2.2.2.2.2.2.2.2.1, ())
 | .inr v9 =>
 some (Sum.inr ())
 )
 else
 none
 else
 R.L_qbe_0 K n (q0, IntKind.i64.wrap (q1 - 1), q2, q3, ())
 else
 none
 else
 some (Sum.inl (q2, q3, ()))
def R.qbe (K : Nat) (p0 : List R.T5) (p1 : Int) : Option (((List (Bool)) × Unit) × Unit) :=
 bif decide (0 ≤ IntKind.i64.wrap ((↑(List.length p0) : Int) + 1)) && decide (IntKind.i64.wrap ((↑(List.length p0) : Int) + 1) ≤ IntKind.i64.wrap ((↑(List.length p0) : Int) + 1)) && decide (IntKind.i64.wrap ((↑(List.length p0) : Int) + 1) ≤ (↑268435456 : Int)) then
 bif decide (0 ≤ p1) && decide (p1 < (↑(List.length (List.replicate (Int.toNat (IntKind.i64.wrap ((↑(List.length p0) : Int) + 1))) false)) : Int)) then
 obind (R.L_qbe_0 K K (p0, p1, [], List.set (List.replicate (Int.toNat (IntKind.i64.wrap ((↑(List.length p0) : Int) + 1))) false) (Int.toNat p1) true, ())) fun v4 =>
 (match v4 with
 | .inl v5 =>
 some (((v5.2.1, ()), ()))
 | .inr v5 =>
 none
 )
 else
 none
 else
 none
def R.L_qcD_0 (K : Nat) : Nat → R.T20 → Option (((Int) × ((Int) × Unit)) ⊕ Unit)
 | 0, _ => none
 | n + 1, (q0, (q1, (q2, (q3, ())))) =>
 bif decide (0 ≤ q1) && decide (q1 < (↑(List.length q2) : Int)) then
 bif !List.getD q2 (Int.toNat q1) false then
 R.L_qcD_0 K n (q0, IntKind.i64.wrap (q1 - 1), q2, q3, ())
 else
 bif decide (0 ≤ q1) && decide (q1 < (↑(List.length q3) : Int)) then
 bif !List.getD q3 (Int.toNat q1) false then
 R.L_qcD_0 K n (q0, IntKind.i64.wrap (q1 - 1), q2, q3, ())
 else
 some (Sum.inl (q0, q1, ()))
 else
 none
 else
 none
def R.qcD (K : Nat) (p0 : List R.T5) (p1 : Int) (p2 : Int) : Option (((Int) × Unit) × Unit) :=
 obind (R.qbe K p0 p1) fun v2 =>
 obind (R.qbe K p0 p2) fun v3 =>
 obind (R.L_qcD_0 K K (0, bif decide (p2 < p1) then p2 else p1, v2.1.1, v3.1.1, ())) fun v4 =>
 (match v4 with
 | .inl v5 =>
 some (((v5.2.1, ()), ()))
 | .inr v5 =>
 none
 )
def R.qaz (K : Nat) (p0 : List R.T5) (p1 : Int) (p2 : Int) : Option R.T34 :=
 obind (R.qcD K p0 p1 p2) fun v2 =>
 bif decide (0 ≤ IntKind.i64.wrap (v2.1.1 - 1)) && decide (IntKind.i64.wrap (v2.1.1 - 1) < (↑(List.length p0) : Int)) then
 bif decide (0 ≤ IntKind.i64.wrap (p1 - 1)) && decide (IntKind.i64.wrap (p1 - 1) < (↑(List.length p0) : Int)) then
 bif decide (0 ≤ IntKind.i64.wrap (p2 - 1)) && decide (IntKind.i64.wrap (p2 - 1) < (↑(List.length p0) : Int)) then
 obind (R.qcO K (Prod.snd (List.getD p0 (Int.toNat (IntKind.i64.wrap (v2.1.1 - 1))) ([], []))) (Prod.snd (List.getD p0 (Int.toNat (IntKind.i64.wrap (p1 - 1))) ([], []))) (Prod.snd (List.getD p0 (Int.toNat (IntKind.i64.wrap (p2 - 1))) ([], [])))) fun v6 =>
 some (((v6.1.1, v6.1.2.1, v6.1.2.2.1, ()), ()))
 else
 none
 else
 none
 else
 none
def R.qaH (K : Nat) (p0 : R.T12 × R.T8) (p1 : (Int) × R.T37) (p2 : Int) : Option ((((Bool) × ((List ((List UInt8) × (Int))) × ((List (Int)) × ((List (List UInt8)) × (Int))))) × Unit) × Unit) :=
 bif p1.1 == 3 then
 obind (R.qay K p0 p1 p2) fun v3 =>
 some (((v3.1.1, ()), ()))
 else
 obind (R.qcD K p0.1 p2 p1.2.1) fun v3 =>
 bif v3.1.1 == p1.2.1 then
 some ((((false, [], [], [], 18), ()), ()))
 else
 bif v3.1.1 == p2 then
 some ((((true, [], [], [], 0), ()), ()))
 else
 obind (R.qaz K p0.1 p2 p1.2.1) fun v6 =>
 bif v6.1.2.2.1 != 0 then
 some ((((false, [], [], v6.1.2.1, v6.1.2.2.1), ()), ()))
 else
 some ((((false, v6.1.1, [p2, p1.2.1], [], 0), ()), ()))
def R.qaC (K : Nat) (p0 : List (Int)) : Option (((List (Int)) × Unit) × Unit) :=
 bif List.isEmpty p0 then
 Fw.alt (
 some ((([], ()), ()))
 ) (
 bif Nat.ble (0 + List.length p0) 268435456 then
 some (((p0, ()), ()))
 else
 none
 )
 else
 bif Nat.ble (0 + List.length p0) 268435456 then
 some (((p0, ()), ()))
 else
 none
def R.qaM (K : Nat) (p0 : (List (Int)) × (List ((List UInt8) × (Int)))) : Option R.T23 :=
 obind (R.qaC K p0.1) fun v2 =>
 obind (R.qaq K p0.2) fun v3 =>
 some ((((v2.1.1, v3.1.1), ()), ()))
def R.L_qbG_0 (K : Nat) : Nat → (R.T12 × ((Int) × R.T50)) → Option R.T49
 | 0, _ => none
 | n + 1, (q0, (q1, (q2, (q3, (q4, ()))))) =>
 bif decide (q2 < q1) then
 bif decide (0 ≤ q2) && decide (q2 < (↑(List.length q0) : Int)) then
 obind (R.qaM K (List.getD q0 (Int.toNat q2) ([], []))) fun v6 =>
 bif Nat.ble (List.length q4 + 1) 268435456 then
 R.L_qbG_0 K n (q0, q1, IntKind.i64.wrap (q2 + 1), q3, q4 ++ [v6.1.1], ())
 else
 none
 else
 none
 else
 some (Sum.inl (q3, q4, ()))
def R.qbG (K : Nat) (p0 : List R.T5) : Option R.T26 :=
 obind (R.L_qbG_0 K K (p0, (↑(List.length p0) : Int), 0, [], [], ())) fun v2 =>
 (match v2 with
 | .inl v3 =>
 some (((v3.2.1, ()), ()))
 | .inr v3 =>
 none
 )
def R.qbh (K : Nat) (p0 : R.T12 × R.T8) : Option R.T47 :=
 obind (R.qbG K p0.1) fun v2 =>
 obind (R.qas K p0.2) fun v3 =>
 some ((((v2.1.1, v3.1.1), ()), ()))
def R.qaU (K : Nat) (p0 : R.T12 × R.T8) (p1 : (Int) × R.T37) (p2 : Int) : Option R.T54 :=
 obind (
 bif decide (0 ≤ p2) && decide (p2 < (↑(List.length p0.2) : Int)) then
 Fw.dup (
 obind (R.qaH K p0 p1 (Prod.fst (Prod.snd (List.getD p0.2 (Int.toNat p2) ([], 0, 0, false))))) fun v6 =>
 some ((p2, p0.1, p0.2, p1.1, p1.2.1, p1.2.2.1, p1.2.2.2.1, p1.2.2.2.2, 0, 0, 0, v6.1.1.1, v6.1.1.2.2.2.2, [], [], [], [], v6.1.1.2.1, v6.1.1.2.2.1, v6.1.1.2.2.2.1, ()))
 )
 else
 none
 ) fun (v2 : Int × List (List Int × List (List UInt8 × Int)) × List (List UInt8 × Int × Int × Bool) × Int × Int × List UInt8 × List UInt8 × List (List UInt8 × Int × Bool) × Int × Int × Int × Bool × Int × List (List Int × List (List UInt8 × Int)) × List (List UInt8 × Int × Int × Bool) × List (List UInt8) × List (List UInt8 × Int) × List (List UInt8 × Int) × List Int × List (List UInt8) × PUnit) =>
 bif v2.2.2.2.2.2.2.2.2.2.2.2.2.1 != 0 then
 some ((((v2.2.1, v2.2.2.1), (v2.2.2.2.2.2.2.2.2.2.2.2.2.1, 0, 0, v2.2.2.2.2.2.2.2.2.2.2.2.2.2.2.2.2.2.2.2.1, []), ()), ()))
 else
 obind (R.qbh K (v2.2.1, v2.2.2.1)) fun v4 =>
 bif !v2.2.2.2.2.2.2.2.2.2.2.2.1 then
 bif (↑(List.length v2.2.1) : Int) == 60 then
 some ((((v2.2.1, v2.2.2.1), (7, 0, 0, [], []), ()), ()))
 else
 bif Nat.ble (List.length v4.1.1.1 + 1) 268435456 then
 obind (R.qcU K v2.2.2.1 v2.1 (↑(List.length (v4.1.1.1 ++ [(v2.2.2.2.2.2.2.2.2.2.2.2.2.2.2.2.2.2.2.1, v2.2.2.2.2.2.2.2.2.2.2.2.2.2.2.2.2.2.1)])) : Int)) fun v8 =>
 bif v8.1.2.1 != 0 then
 some ((((v2.2.1, v2.2.2.1), (v8.1.2.1, 0, 0, [], []), ()), ()))
 else
 some ((((v4.1.1.1 ++ [(v2.2.2.2.2.2.2.2.2.2.2.2.2.2.2.2.2.2.2.1, v2.2.2.2.2.2.2.2.2.2.2.2.2.2.2.2.2.2.1)], v8.1.1), (0, (↑(List.length (v4.1.1.1 ++ [(v2.2.2.2.2.2.2.2.2.2.2.2.2.2.2.2.2.2.2.1, v2.2.2.2.2.2.2.2.2.2.2.2.2.2.2.2.2.2.1)])) : Int), 0, [], []), ()), ()))
 else
 none
 else
 obind (R.qcU K v2.2.2.1 v2.1 v2.2.2.2.2.1) fun v6 =>
 bif v6.1.2.1 != 0 then
 some ((((v2.2.1, v2.2.2.1), (v6.1.2.1, 0, 0, [], []), ()), ()))
 else
 some ((((v4.1.1.1, v6.1.1), (0, v2.2.2.2.2.1, 0, [], []), ()), ()))
def R.qcb (K : Nat) (p0 : R.T12 × R.T8) (p1 : (Int) × R.T37) : Option R.T54 :=
 obind (R.qda K p0.2 p1.2.2.1) fun v2 =>
 bif decide (p1.2.1 > (↑(List.length p0.1) : Int)) then
 some (((p0, (5, 0, 0, [], []), ()), ()))
 else
 bif p1.1 == 1 then
 obind (R.qcu K p0.2 p1.2.2.1 p1.2.1) fun v5 =>
 obind (R.qbB K p0 v5.1.1 v5.1.2.1 p1.2.1) fun v6 =>
 some (((v6.1.1, v6.1.2.1, ()), ()))
 else
 bif !v2.1.2.1 then
 some (((p0, (10, 0, 0, [], []), ()), ()))
 else
 bif decide (0 ≤ v2.1.1) && decide (v2.1.1 < (↑(List.length p0.2) : Int)) then
 bif decide (0 ≤ IntKind.i64.wrap (Prod.fst (Prod.snd (List.getD p0.2 (Int.toNat v2.1.1) ([], 0, 0, false))) - 1)) && decide (IntKind.i64.wrap (Prod.fst (Prod.snd (List.getD p0.2 (Int.toNat v2.1.1) ([], 0, 0, false))) - 1) < (↑(List.length p0.1) : Int)) then
 bif p1.1 == 2 then
 obind (R.qcU K p0.2 v2.1.1 0) fun v9 =>
 obind (R.qbB K p0 v9.1.1 v9.1.2.1 (Prod.fst (Prod.snd (List.getD p0.2 (Int.toNat v2.1.1) ([], 0, 0, false))))) fun v10 =>
 some (((v10.1.1, v10.1.2.1, ()), ()))
 else
 bif p1.1 == 5 then
 obind (R.qdd K (Prod.snd (List.getD p0.1 (Int.toNat (IntKind.i64.wrap (Prod.fst (Prod.snd (List.getD p0.2 (Int.toNat v2.1.1) ([], 0, 0, false))) - 1))) ([], []))) p1.2.2.2.1) fun v10 =>
 bif !v10.1.2.1 then
 some (((p0, (5, 0, 0, [], []), ()), ()))
 else
 bif decide (0 ≤ v10.1.1) && decide (v10.1.1 < (↑(List.length (Prod.snd (List.getD p0.1 (Int.toNat (IntKind.i64.wrap (Prod.fst (Prod.snd (List.getD p0.2 (Int.toNat v2.1.1) ([], 0, 0, false))) - 1))) ([], [])))) : Int)) then
 some (((p0, (0, Prod.fst (Prod.snd (List.getD p0.2 (Int.toNat v2.1.1) ([], 0, 0, false))), Prod.snd (List.getD (Prod.snd (List.getD p0.1 (Int.toNat (IntKind.i64.wrap (Prod.fst (Prod.snd (List.getD p0.2 (Int.toNat v2.1.1) ([], 0, 0, false))) - 1))) ([], []))) (Int.toNat v10.1.1) ([], 0)), [], []), ()), ()))
 else
 none
 else
 bif p1.1 == 6 then
 obind (R.qaq K (Prod.snd (List.getD p0.1 (Int.toNat (IntKind.i64.wrap (Prod.fst (Prod.snd (List.getD p0.2 (Int.toNat v2.1.1) ([], 0, 0, false))) - 1))) ([], [])))) fun v11 =>
 some (((p0, (0, Prod.fst (Prod.snd (List.getD p0.2 (Int.toNat v2.1.1) ([], 0, 0, false))), 0, [], v11.1.1), ()), ()))
 else
 obind (R.qaU K p0 p1 v2.1.1) fun v11 =>
 some (((v11.1.1, v11.1.2.1, ()), ()))
 else
 none
 else
 none
def R.qdc (K : Nat) (p0 : R.T12 × R.T8) (p1 : (Int) × R.T37) : Option ((R.T43 × (R.T36 × ((Int) × Unit))) × Unit) :=
 obind (R.qci K p0) fun v2 =>
 bif !v2.1.1 then
 some (((([], []), (0, 0, 0, [], []), 1, ()), ()))
 else
 obind (R.qde K p1) fun v4 =>
 bif !v4.1.1 then
 some (((([], []), (0, 0, 0, [], []), 1, ()), ()))
 else
 obind (R.qcb K p0 p1) fun v6 =>
 obind (R.qbh K v6.1.1) fun v7 =>
 some (((v7.1.1, v6.1.2.1, 0, ()), ()))
def R.L_qcg_0 (K : Nat) : Nat → ((List (Int)) × ((List (Int)) × ((Bool) × ((Int) × Unit)))) → Option (((Bool) × Unit) ⊕ ((Bool) × Unit))
 | 0, _ => none
 | n + 1, (q0, (q1, (q2, (q3, ())))) =>
 bif decide (q3 < (↑(List.length q0) : Int)) then
 bif decide (0 ≤ q3) && decide (q3 < (↑(List.length q0) : Int)) then
 bif decide (0 ≤ q3) && decide (q3 < (↑(List.length q1) : Int)) then
 bif List.getD q0 (Int.toNat q3) 0 != List.getD q1 (Int.toNat q3) 0 then
 some (Sum.inr (false, ()))
 else
 R.L_qcg_0 K n (q0, q1, q2, IntKind.i64.wrap (q3 + 1), ())
 else
 none
 else
 none
 else
 some (Sum.inl (q2, ()))
def R.qcg (K : Nat) (p0 : List (Int)) (p1 : List (Int)) : Option (((Bool) × Unit) × Unit) :=
 bif (↑(List.length p0) : Int) != (↑(List.length p1) : Int) then
 some (((false, ()), ()))
 else
 obind (R.L_qcg_0 K K (p0, p1, false, 0, ())) fun v3 =>
 (match v3 with
 | .inl v4 =>
 some (((true, ()), ()))
 | .inr v4 =>
 some (((v4.1, ()), ()))
 )
def R.qbQ (K : Nat) (p0 : (List UInt8) × (Int)) (p1 : (List UInt8) × (Int)) : Option (((Bool) × Unit) × Unit) :=
 bif !p0.1 == p1.1 then
 some (((false, ()), ()))
 else
 bif p0.2 != p1.2 then
 some (((false, ()), ()))
 else
 some (((true, ()), ()))
def R.L_qbn_0 (K : Nat) : Nat → ((List ((List UInt8) × (Int))) × R.T19) → Option (((Bool) × Unit) ⊕ ((Bool) × Unit))
 | 0, _ => none
 | n + 1, (q0, (q1, (q2, (q3, ())))) =>
 bif decide (q3 < (↑(List.length q0) : Int)) then
 bif decide (0 ≤ q3) && decide (q3 < (↑(List.length q0) : Int)) then
 bif decide (0 ≤ q3) && decide (q3 < (↑(List.length q1) : Int)) then
 obind (R.qbQ K (List.getD q0 (Int.toNat q3) ([], 0)) (List.getD q1 (Int.toNat q3) ([], 0))) fun v7 =>
 bif !v7.1.1 then
 some (Sum.inr (false, ()))
 else
 R.L_qbn_0 K n (q0, q1, q2, IntKind.i64.wrap (q3 + 1), ())
 else
 none
 else
 none
 else
 some (Sum.inl (q2, ()))
def R.qbn (K : Nat) (p0 : List ((List UInt8) × (Int))) (p1 : List ((List UInt8) × (Int))) : Option (((Bool) × Unit) × Unit) :=
 bif (↑(List.length p0) : Int) != (↑(List.length p1) : Int) then
 some (((false, ()), ()))
 else
 obind (R.L_qbn_0 K K (p0, p1, false, 0, ())) fun v3 =>
 (match v3 with
 | .inl v4 =>
 some (((true, ()), ()))
 | .inr v4 =>
 some (((v4.1, ()), ()))
 )
def R.qbw (K : Nat) (p0 : (List (Int)) × (List ((List UInt8) × (Int)))) (p1 : (List (Int)) × (List ((List UInt8) × (Int)))) : Option (((Bool) × Unit) × Unit) :=
 obind (R.qcg K p0.1 p1.1) fun v2 =>
 bif !v2.1.1 then
 some (((false, ()), ()))
 else
 obind (R.qbn K p0.2 p1.2) fun v4 =>
 bif !v4.1.1 then
 some (((false, ()), ()))
 else
 some (((true, ()), ()))
def R.L_qbc_0 (K : Nat) : Nat → (R.T12 × (R.T12 × ((Bool) × ((Int) × Unit)))) → Option (((Bool) × Unit) ⊕ ((Bool) × Unit))
 | 0, _ => none
 | n + 1, (q0, (q1, (q2, (q3, ())))) =>
 bif decide (q3 < (↑(List.length q0) : Int)) then
 bif decide (0 ≤ q3) && decide (q3 < (↑(List.length q0) : Int)) then
 bif decide (0 ≤ q3) && decide (q3 < (↑(List.length q1) : Int)) then
 obind (R.qbw K (List.getD q0 (Int.toNat q3) ([], [])) (List.getD q1 (Int.toNat q3) ([], []))) fun v7 =>
 bif !v7.1.1 then
 some (Sum.inr (false, ()))
 else
 R.L_qbc_0 K n (q0, q1, q2, IntKind.i64.wrap (q3 + 1), ())
 else
 none
 else
 none
 else
 some (Sum.inl (q2, ()))
def R.qbc (K : Nat) (p0 : List R.T5) (p1 : List R.T5) : Option (((Bool) × Unit) × Unit) :=
 bif (↑(List.length p0) : Int) != (↑(List.length p1) : Int) then
 some (((false, ()), ()))
 else
 obind (R.L_qbc_0 K K (p0, p1, false, 0, ())) fun v3 =>
 (match v3 with
 | .inl v4 =>
 some (((true, ()), ()))
 | .inr v4 =>
 some (((v4.1, ()), ()))
 )
def R.qcP (K : Nat) (p0 : (List UInt8) × ((Int) × ((Int) × (Bool)))) (p1 : (List UInt8) × ((Int) × ((Int) × (Bool)))) : Option (((Bool) × Unit) × Unit) :=
 bif !p0.1 == p1.1 then
 some (((false, ()), ()))
 else
 bif p0.2.1 != p1.2.1 then
 some (((false, ()), ()))
 else
 bif p0.2.2.1 != p1.2.2.1 then
 some (((false, ()), ()))
 else
 bif !p0.2.2.2 == p1.2.2.2 then
 some (((false, ()), ()))
 else
 some (((true, ()), ()))
def R.L_qcF_0 (K : Nat) : Nat → (R.T8 × (R.T8 × ((Bool) × ((Int) × Unit)))) → Option (((Bool) × Unit) ⊕ ((Bool) × Unit))
 | 0, _ => none
 | n + 1, (q0, (q1, (q2, (q3, ())))) =>
 bif decide (q3 < (↑(List.length q0) : Int)) then
 bif decide (0 ≤ q3) && decide (q3 < (↑(List.length q0) : Int)) then
 bif decide (0 ≤ q3) && decide (q3 < (↑(List.length q1) : Int)) then
 obind (R.qcP K (List.getD q0 (Int.toNat q3) ([], 0, 0, false)) (List.getD q1 (Int.toNat q3) ([], 0, 0, false))) fun v7 =>
 bif !v7.1.1 then
 some (Sum.inr (false, ()))
 else
 R.L_qcF_0 K n (q0, q1, q2, IntKind.i64.wrap (q3 + 1), ())
 else
 none
 else
 none
 else
 some (Sum.inl (q2, ()))
def R.qcF (K : Nat) (p0 : List R.T4) (p1 : List R.T4) : Option (((Bool) × Unit) × Unit) :=
 bif (↑(List.length p0) : Int) != (↑(List.length p1) : Int) then
 some (((false, ()), ()))
 else
 obind (R.L_qcF_0 K K (p0, p1, false, 0, ())) fun v3 =>
 (match v3 with
 | .inl v4 =>
 some (((true, ()), ()))
 | .inr v4 =>
 some (((v4.1, ()), ()))
 )
def R.qcA (K : Nat) (p0 : R.T12 × R.T8) (p1 : R.T12 × R.T8) : Option (((Bool) × Unit) × Unit) :=
 obind (R.qbc K p0.1 p1.1) fun v2 =>
 bif !v2.1.1 then
 some (((false, ()), ()))
 else
 obind (R.qcF K p0.2 p1.2) fun v4 =>
 bif !v4.1.1 then
 some (((false, ()), ()))
 else
 some (((true, ()), ()))
def R.L_qba_0 (K : Nat) : Nat → ((List (List UInt8)) × ((List (List UInt8)) × ((Bool) × ((Int) × Unit)))) → Option (((Bool) × Unit) ⊕ ((Bool) × Unit))
 | 0, _ => none
 | n + 1, (q0, (q1, (q2, (q3, ())))) =>
 bif decide (q3 < (↑(List.length q0) : Int)) then
 bif decide (0 ≤ q3) && decide (q3 < (↑(List.length q0) : Int)) then
 bif decide (0 ≤ q3) && decide (q3 < (↑(List.length q1) : Int)) then
 bif !List.getD q0 (Int.toNat q3) [] == List.getD q1 (Int.toNat q3) [] then
 some (Sum.inr (false, ()))
 else
 R.L_qba_0 K n (q0, q1, q2, IntKind.i64.wrap (q3 + 1), ())
 else
 none
 else
 none
 else
 some (Sum.inl (q2, ()))
def R.qba (K : Nat) (p0 : List (List UInt8)) (p1 : List (List UInt8)) : Option (((Bool) × Unit) × Unit) :=
 bif (↑(List.length p0) : Int) != (↑(List.length p1) : Int) then
 some (((false, ()), ()))
 else
 obind (R.L_qba_0 K K (p0, p1, false, 0, ())) fun v3 =>
 (match v3 with
 | .inl v4 =>
 some (((true, ()), ()))
 | .inr v4 =>
 some (((v4.1, ()), ()))
 )
def R.qbs (K : Nat) (p0 : (Int) × R.T29) (p1 : (Int) × R.T29) : Option (((Bool) × Unit) × Unit) :=
 bif p0.1 != p1.1 then
 some (((false, ()), ()))
 else
 bif p0.2.1 != p1.2.1 then
 some (((false, ()), ()))
 else
 bif p0.2.2.1 != p1.2.2.1 then
 some (((false, ()), ()))
 else
 obind (R.qba K p0.2.2.2.1 p1.2.2.2.1) fun v5 =>
 bif !v5.1.1 then
 some (((false, ()), ()))
 else
 obind (R.qbn K p0.2.2.2.2 p1.2.2.2.2) fun v7 =>
 bif !v7.1.1 then
 some (((false, ()), ()))
 else
 some (((true, ()), ()))
def R.qcn (K : Nat) (p0 : (List UInt8) × ((Int) × (Bool))) (p1 : (List UInt8) × ((Int) × (Bool))) : Option (((Bool) × Unit) × Unit) :=
 bif !p0.1 == p1.1 then
 some (((false, ()), ()))
 else
 bif p0.2.1 != p1.2.1 then
 some (((false, ()), ()))
 else
 bif !p0.2.2 == p1.2.2 then
 some (((false, ()), ()))
 else
 some (((true, ()), ()))
def R.L_qbL_0 (K : Nat) : Nat → (R.T0 × (R.T0 × ((Bool) × ((Int) × Unit)))) → Option (((Bool) × Unit) ⊕ ((Bool) × Unit))
 | 0, _ => none
 | n + 1, (q0, (q1, (q2, (q3, ())))) =>
 bif decide (q3 < (↑(List.length q0) : Int)) then
 bif decide (0 ≤ q3) && decide (q3 < (↑(List.length q0) : Int)) then
 bif decide (0 ≤ q3) && decide (q3 < (↑(List.length q1) : Int)) then
 obind (R.qcn K (List.getD q0 (Int.toNat q3) ([], 0, false)) (List.getD q1 (Int.toNat q3) ([], 0, false))) fun v7 =>
 bif !v7.1.1 then
 some (Sum.inr (false, ()))
 else
 R.L_qbL_0 K n (q0, q1, q2, IntKind.i64.wrap (q3 + 1), ())
 else
 none
 else
 none
 else
 some (Sum.inl (q2, ()))
def R.qbL (K : Nat) (p0 : List ((List UInt8) × ((Int) × (Bool)))) (p1 : List ((List UInt8) × ((Int) × (Bool)))) : Option (((Bool) × Unit) × Unit) :=
 bif (↑(List.length p0) : Int) != (↑(List.length p1) : Int) then
 some (((false, ()), ()))
 else
 obind (R.L_qbL_0 K K (p0, p1, false, 0, ())) fun v3 =>
 (match v3 with
 | .inl v4 =>
 some (((true, ()), ()))
 | .inr v4 =>
 some (((v4.1, ()), ()))
 )
def R.qcZ (K : Nat) (p0 : (Int) × R.T37) (p1 : (Int) × R.T37) : Option (((Bool) × Unit) × Unit) :=
 bif p0.1 != p1.1 then
 some (((false, ()), ()))
 else
 bif p0.2.1 != p1.2.1 then
 some (((false, ()), ()))
 else
 bif !p0.2.2.1 == p1.2.2.1 then
 some (((false, ()), ()))
 else
 bif !p0.2.2.2.1 == p1.2.2.2.1 then
 some (((false, ()), ()))
 else
 obind (R.qbL K p0.2.2.2.2 p1.2.2.2.2) fun v6 =>
 bif !v6.1.1 then
 some (((false, ()), ()))
 else
 some (((true, ()), ()))
def R.L_qbj_0 (K : Nat) : Nat → ((Int) × ((Int) × ((Int) × ((List (Int)) × Unit)))) → Option (((Int) × ((Int) × ((List (Int)) × Unit))) ⊕ Unit)
 | 0, _ => none
 | n + 1, (q0, (q1, (q2, (q3, ())))) =>
 bif decide (q2 < (↑(List.length q3) : Int)) then
 bif decide (0 ≤ q2) && decide (q2 < (↑(List.length q3) : Int)) then
 R.L_qbj_0 K n (IntKind.i64.wrap (q0 + 1), q1, IntKind.i64.wrap (q2 + 1), List.set q3 (Int.toNat q2) q0, ())
 else
 none
 else
 some (Sum.inl (q0, q1, q3, ()))
def R.qbj (K : Nat) (p0 : List (Int)) (p1 : Int) : Option (((Int) × Unit) × ((List (Int)) × Unit)) :=
 obind (R.L_qbj_0 K K (p1, 0, 0, p0, ())) fun v2 =>
 (match v2 with
 | .inl v3 =>
 some (((v3.1, ()), v3.2.2.1, ()))
 | .inr v3 =>
 none
 )
def R.L_qbv_0 (K : Nat) : Nat → ((Int) × ((List UInt8) × ((List UInt8) × Unit))) → Option (((List UInt8) × ((List UInt8) × Unit)) ⊕ Unit)
 | 0, _ => none
 | n + 1, (q0, (q1, (q2, ()))) =>
 bif decide (q0 > 0) then
 bif Nat.ble (List.length (Fw.bytesOut [Go.IntKind.wrap Go.IntKind.u8 (IntKind.i64.wrap (48 + Int.tmod q0 10))]) + List.length q2) 268435456 then
 R.L_qbv_0 K n (IntKind.i64.wrap (Int.tdiv q0 10), q1, Fw.bytesOut [Go.IntKind.wrap Go.IntKind.u8 (IntKind.i64.wrap (48 + Int.tmod q0 10))] ++ q2, ())
 else
 none
 else
 some (Sum.inl (q1, q2, ()))
def R.qbv (K : Nat) (p0 : Int) : Option (((List UInt8) × Unit) × Unit) :=
 bif decide (p0 ≤ 0) then
 some (((Array.toList (ByteArray.data (ByteArray.mk #[109, 48])), ()), ()))
 else
 obind (R.L_qbv_0 K K (p0, Array.toList (ByteArray.data (ByteArray.mk #[])), Array.toList (ByteArray.data (ByteArray.mk #[])), ())) fun v3 =>
 (match v3 with
 | .inl v4 =>
 bif Nat.ble (List.length (Array.toList (ByteArray.data (ByteArray.mk #[109]))) + List.length v4.2.1) 268435456 then
 some (((Array.toList (ByteArray.data (ByteArray.mk #[109])) ++ v4.2.1, ()), ()))
 else
 none
 | .inr v4 =>
 none
 )
def R.L_qaR_0 (K : Nat) : Nat → ((Int) × ((Int) × ((Int) × ((List ((List UInt8) × (Int))) × Unit)))) → Option (((Int) × ((Int) × ((List ((List UInt8) × (Int))) × Unit))) ⊕ Unit)
 | 0, _ => none
 | n + 1, (q0, (q1, (q2, (q3, ())))) =>
 bif decide (q2 < (↑(List.length q3) : Int)) then
 obind (R.qbv K q0) fun v5 =>
 bif decide (0 ≤ q2) && decide (q2 < (↑(List.length q3) : Int)) then
 bif decide (0 ≤ q2) && decide (q2 < (↑(List.length q3) : Int)) then
 bif Nat.ble (0 + 1 + 1) (1 + 1) && Nat.beq (Int.toNat q2) (Int.toNat q2) then
 R.L_qaR_0 K n (IntKind.i64.wrap (IntKind.i64.wrap (q0 + 1) + 1), q1, IntKind.i64.wrap (q2 + 1), List.set q3 (Int.toNat q2) (v5.1.1, IntKind.i64.wrap (q0 + 1)), ())
 else
 none
 else
 none
 else
 none
 else
 some (Sum.inl (q0, q1, q3, ()))
def R.qaR (K : Nat) (p0 : List ((List UInt8) × (Int))) (p1 : Int) : Option (((Int) × Unit) × ((List ((List UInt8) × (Int))) × Unit)) :=
 obind (R.L_qaR_0 K K (p1, 0, 0, p0, ())) fun v2 =>
 (match v2 with
 | .inl v3 =>
 some (((v3.1, ()), v3.2.2.1, ()))
 | .inr v3 =>
 none
 )
def R.L_qaK_0 (K : Nat) : Nat → ((Int) × ((Int) × ((Int) × R.T21))) → Option (((Int) × ((Int) × R.T21)) ⊕ Unit)
 | 0, _ => none
 | n + 1, (q0, (q1, (q2, (q3, ())))) =>
 bif decide (q2 < (↑(List.length q3) : Int)) then
 bif decide (0 ≤ q2) && decide (q2 < (↑(List.length q3) : Int)) then
 obind (R.qbj K (Prod.fst (List.getD q3 (Int.toNat q2) ([], []))) q0) fun v6 =>
 bif decide (0 ≤ q2) && decide (q2 < (↑(List.length q3) : Int)) then
 bif Nat.beq (Int.toNat q2) (Int.toNat q2) then
 obind (R.qaR K (Prod.snd (List.getD q3 (Int.toNat q2) ([], []))) v6.1.1) fun v9 =>
 R.L_qaK_0 K n (v9.1.1, q1, IntKind.i64.wrap (q2 + 1), List.set q3 (Int.toNat q2) (v6.2.1, v9.2.1), ())
 else
 none
 else
 none
 else
 none
 else
 some (Sum.inl (q0, q1, q3, ()))
def R.qaK (K : Nat) (p0 : List R.T5) (p1 : Int) : Option (((Int) × Unit) × R.T21) :=
 obind (R.L_qaK_0 K K (p1, 0, 0, p0, ())) fun v2 =>
 (match v2 with
 | .inl v3 =>
 some (((v3.1, ()), v3.2.2.1, ()))
 | .inr v3 =>
 none
 )
def R.L_qbz_0 (K : Nat) : Nat → ((Int) × ((Int) × ((Int) × R.T18))) → Option (((Int) × ((Int) × R.T18)) ⊕ Unit)
 | 0, _ => none
 | n + 1, (q0, (q1, (q2, (q3, ())))) =>
 bif decide (q2 < (↑(List.length q3) : Int)) then
 obind (R.qbv K q0) fun v5 =>
 bif decide (0 ≤ q2) && decide (q2 < (↑(List.length q3) : Int)) then
 bif decide (0 ≤ q2) && decide (q2 < (↑(List.length q3) : Int)) then
 bif Nat.ble (0 + 1 + 1) (1 + (1 + (1 + 1))) && Nat.beq (Int.toNat q2) (Int.toNat q2) then
 bif decide (0 ≤ q2) && decide (q2 < (↑(List.length q3) : Int)) then
 bif Nat.ble (0 + 2 + 1) (1 + (1 + (1 + 1))) && Nat.beq (Int.toNat q2) (Int.toNat q2) then
 bif decide (0 ≤ q2) && decide (q2 < (↑(List.length q3) : Int)) then
 bif Nat.ble (0 + 3 + 1) (1 + (1 + (1 + 1))) && Nat.beq (Int.toNat q2) (Int.toNat q2) then
 R.L_qbz_0 K n (IntKind.i64.wrap (IntKind.i64.wrap (IntKind.i64.wrap (IntKind.i64.wrap (q0 + 1) + 1) + 1) + 1), q1, IntKind.i64.wrap (q2 + 1), List.set q3 (Int.toNat q2) (v5.1.1, IntKind.i64.wrap (q0 + 1), IntKind.i64.wrap (IntKind.i64.wrap (q0 + 1) + 1), Int.tmod (IntKind.i64.wrap (IntKind.i64.wrap (IntKind.i64.wrap (q0 + 1) + 1) + 1)) 3 == 0), ())
 else
 none
 else
 none
 else
 none
 else
 none
 else
 none
 else
 none
 else
 none
 else
 some (Sum.inl (q0, q1, q3, ()))
def R.qbz (K : Nat) (p0 : List R.T4) (p1 : Int) : Option (((Int) × Unit) × R.T18) :=
 obind (R.L_qbz_0 K K (p1, 0, 0, p0, ())) fun v2 =>
 (match v2 with
 | .inl v3 =>
 some (((v3.1, ()), v3.2.2.1, ()))
 | .inr v3 =>
 none
 )
def R.qbm (K : Nat) (p0 : R.T12 × R.T8) (p1 : Int) : Option (((Int) × Unit) × R.T45) :=
 obind (R.qaK K p0.1 p1) fun v2 =>
 obind (R.qbz K p0.2 v2.1.1) fun v3 =>
 some (((v3.1.1, ()), (v2.2.1, v3.2.1), ()))
def R.L_qbd_0 (K : Nat) : Nat → ((Int) × ((Int) × ((Int) × R.T7))) → Option (((Int) × ((Int) × R.T7)) ⊕ Unit)
 | 0, _ => none
 | n + 1, (q0, (q1, (q2, (q3, ())))) =>
 bif decide (q2 < (↑(List.length q3) : Int)) then
 obind (R.qbv K q0) fun v5 =>
 bif decide (0 ≤ q2) && decide (q2 < (↑(List.length q3) : Int)) then
 bif decide (0 ≤ q2) && decide (q2 < (↑(List.length q3) : Int)) then
 bif Nat.ble (0 + 1 + 1) (1 + (1 + 1)) && Nat.beq (Int.toNat q2) (Int.toNat q2) then
 bif decide (0 ≤ q2) && decide (q2 < (↑(List.length q3) : Int)) then
 bif Nat.ble (0 + 2 + 1) (1 + (1 + 1)) && Nat.beq (Int.toNat q2) (Int.toNat q2) then
 R.L_qbd_0 K n (IntKind.i64.wrap (IntKind.i64.wrap (IntKind.i64.wrap (q0 + 1) + 1) + 1), q1, IntKind.i64.wrap (q2 + 1), List.set q3 (Int.toNat q2) (v5.1.1, IntKind.i64.wrap (q0 + 1), Int.tmod (IntKind.i64.wrap (IntKind.i64.wrap (q0 + 1) + 1)) 3 == 0), ())
 else
 none
 else
 none
 else
 none
 else
 none
 else
 none
 else
 some (Sum.inl (q0, q1, q3, ()))
def R.qbd (K : Nat) (p0 : List ((List UInt8) × ((Int) × (Bool)))) (p1 : Int) : Option (((Int) × Unit) × R.T7) :=
 obind (R.L_qbd_0 K K (p1, 0, 0, p0, ())) fun v2 =>
 (match v2 with
 | .inl v3 =>
 some (((v3.1, ()), v3.2.2.1, ()))
 | .inr v3 =>
 none
 )
def R.qcm (K : Nat) (p0 : (Int) × R.T37) (p1 : Int) : Option (((Int) × Unit) × (((Int) × R.T37) × Unit)) :=
 obind (R.qbd K p0.2.2.2.2 p1) fun v2 =>
 some (((v2.1.1, ()), (p0.1, p0.2.1, p0.2.2.1, p0.2.2.2.1, v2.2.1), ()))
def R.L_qaE_0 (K : Nat) : Nat → ((Int) × ((Int) × ((Int) × ((List (List UInt8)) × Unit)))) → Option (((Int) × ((Int) × ((List (List UInt8)) × Unit))) ⊕ Unit)
 | 0, _ => none
 | n + 1, (q0, (q1, (q2, (q3, ())))) =>
 bif decide (q2 < (↑(List.length q3) : Int)) then
 obind (R.qbv K q0) fun v5 =>
 bif decide (0 ≤ q2) && decide (q2 < (↑(List.length q3) : Int)) then
 R.L_qaE_0 K n (IntKind.i64.wrap (q0 + 1), q1, IntKind.i64.wrap (q2 + 1), List.set q3 (Int.toNat q2) v5.1.1, ())
 else
 none
 else
 some (Sum.inl (q0, q1, q3, ()))
def R.qaE (K : Nat) (p0 : List (List UInt8)) (p1 : Int) : Option (((Int) × Unit) × ((List (List UInt8)) × Unit)) :=
 obind (R.L_qaE_0 K K (p1, 0, 0, p0, ())) fun v2 =>
 (match v2 with
 | .inl v3 =>
 some (((v3.1, ()), v3.2.2.1, ()))
 | .inr v3 =>
 none
 )
def R.qaQ (K : Nat) (p0 : (Int) × R.T29) (p1 : Int) : Option (((Int) × Unit) × R.T39) :=
 obind (R.qaE K p0.2.2.2.1 p1) fun v2 =>
 obind (R.qaR K p0.2.2.2.2 v2.1.1) fun v3 =>
 some (((v3.1.1, ()), (p0.1, p0.2.1, p0.2.2.1, v2.2.1, v3.2.1), ()))
def R.L_qbr_0 (K : Nat) : Nat → ((List (Int)) × ((Int) × ((Int) × ((Int) × Unit)))) → Option R.T3
 | 0, _ => none
 | n + 1, (q0, (q1, (q2, (q3, ())))) =>
 bif decide (q3 < (↑(List.length q0) : Int)) then
 bif decide (0 ≤ q3) && decide (q3 < (↑(List.length q0) : Int)) then
 bif List.getD q0 (Int.toNat q3) 0 != q1 then
 some (Sum.inr (-1, ()))
 else
 R.L_qbr_0 K n (q0, IntKind.i64.wrap (q1 + 1), q2, IntKind.i64.wrap (q3 + 1), ())
 else
 none
 else
 some (Sum.inl (q1, q2, ()))
def R.qbr (K : Nat) (p0 : List (Int)) (p1 : Int) : Option (((Int) × Unit) × Unit) :=
 obind (R.L_qbr_0 K K (p0, p1, 0, 0, ())) fun v2 =>
 (match v2 with
 | .inl v3 =>
 some (((v3.1, ()), ()))
 | .inr v3 =>
 some (((v3.1, ()), ()))
 )
def R.L_qaS_0 (K : Nat) : Nat → ((List ((List UInt8) × (Int))) × ((Int) × ((Int) × ((Int) × Unit)))) → Option R.T3
 | 0, _ => none
 | n + 1, (q0, (q1, (q2, (q3, ())))) =>
 bif decide (q3 < (↑(List.length q0) : Int)) then
 bif decide (0 ≤ q3) && decide (q3 < (↑(List.length q0) : Int)) then
 obind (R.qbv K q1) fun v6 =>
 bif !Prod.fst (List.getD q0 (Int.toNat q3) ([], 0)) == v6.1.1 then
 some (Sum.inr (-1, ()))
 else
 bif decide (0 ≤ q3) && decide (q3 < (↑(List.length q0) : Int)) then
 bif Prod.snd (List.getD q0 (Int.toNat q3) ([], 0)) != IntKind.i64.wrap (q1 + 1) then
 some (Sum.inr (-1, ()))
 else
 R.L_qaS_0 K n (q0, IntKind.i64.wrap (IntKind.i64.wrap (q1 + 1) + 1), q2, IntKind.i64.wrap (q3 + 1), ())
 else
 none
 else
 none
 else
 some (Sum.inl (q1, q2, ()))
def R.qaS (K : Nat) (p0 : List ((List UInt8) × (Int))) (p1 : Int) : Option (((Int) × Unit) × Unit) :=
 obind (R.L_qaS_0 K K (p0, p1, 0, 0, ())) fun v2 =>
 (match v2 with
 | .inl v3 =>
 some (((v3.1, ()), ()))
 | .inr v3 =>
 some (((v3.1, ()), ()))
 )
def R.L_qaI_0 (K : Nat) : Nat → (R.T12 × ((Int) × ((Int) × ((Int) × Unit)))) → Option R.T3
 | 0, _ => none
 | n + 1, (q0, (q1, (q2, (q3, ())))) =>
 bif decide (q3 < (↑(List.length q0) : Int)) then
 bif decide (0 ≤ q3) && decide (q3 < (↑(List.length q0) : Int)) then
 obind (R.qbr K (Prod.fst (List.getD q0 (Int.toNat q3) ([], []))) q1) fun v6 =>
 bif decide (v6.1.1 < 0) then
 some (Sum.inr (-1, ()))
 else
 bif decide (0 ≤ q3) && decide (q3 < (↑(List.length q0) : Int)) then
 obind (R.qaS K (Prod.snd (List.getD q0 (Int.toNat q3) ([], []))) v6.1.1) fun v9 =>
 bif decide (v9.1.1 < 0) then
 some (Sum.inr (-1, ()))
 else
 R.L_qaI_0 K n (q0, v9.1.1, q2, IntKind.i64.wrap (q3 + 1), ())
 else
 none
 else
 none
 else
 some (Sum.inl (q1, q2, ()))
def R.qaI (K : Nat) (p0 : List R.T5) (p1 : Int) : Option (((Int) × Unit) × Unit) :=
 obind (R.L_qaI_0 K K (p0, p1, 0, 0, ())) fun v2 =>
 (match v2 with
 | .inl v3 =>
 some (((v3.1, ()), ()))
 | .inr v3 =>
 some (((v3.1, ()), ()))
 )
def R.L_qbo_0 (K : Nat) : Nat → R.T38 → Option R.T3
 | 0, _ => none
 | n + 1, (q0, (q1, (q2, (q3, ())))) =>
 bif decide (q3 < (↑(List.length q0) : Int)) then
 bif decide (0 ≤ q3) && decide (q3 < (↑(List.length q0) : Int)) then
 obind (R.qbv K q1) fun v6 =>
 bif !Prod.fst (List.getD q0 (Int.toNat q3) ([], 0, 0, false)) == v6.1.1 then
 some (Sum.inr (-1, ()))
 else
 bif decide (0 ≤ q3) && decide (q3 < (↑(List.length q0) : Int)) then
 bif Prod.fst (Prod.snd (List.getD q0 (Int.toNat q3) ([], 0, 0, false))) != IntKind.i64.wrap (q1 + 1) then
 some (Sum.inr (-1, ()))
 else
 bif decide (0 ≤ q3) && decide (q3 < (↑(List.length q0) : Int)) then
 bif Prod.fst (Prod.snd (Prod.snd (List.getD q0 (Int.toNat q3) ([], 0, 0, false)))) != IntKind.i64.wrap (IntKind.i64.wrap (q1 + 1) + 1) then
 some (Sum.inr (-1, ()))
 else
 bif decide (0 ≤ q3) && decide (q3 < (↑(List.length q0) : Int)) then
 bif !Prod.snd (Prod.snd (Prod.snd (List.getD q0 (Int.toNat q3) ([], 0, 0, false)))) == (Int.tmod (IntKind.i64.wrap (IntKind.i64.wrap (IntKind.i64.wrap (q1 + 1) + 1) + 1)) 3 == 0) then
 some (Sum.inr (-1, ()))
 else
 R.L_qbo_0 K n (q0, IntKind.i64.wrap (IntKind.i64.wrap (IntKind.i64.wrap (IntKind.i64.wrap (q1 + 1) + 1) + 1) + 1), q2, IntKind.i64.wrap (q3 + 1), ())
 else
 none
 else
 none
 else
 none
 else
 none
 else
 some (Sum.inl (q1, q2, ()))
def R.qbo (K : Nat) (p0 : List R.T4) (p1 : Int) : Option (((Int) × Unit) × Unit) :=
 obind (R.L_qbo_0 K K (p0, p1, 0, 0, ())) fun v2 =>
 (match v2 with
 | .inl v3 =>
 some (((v3.1, ()), ()))
 | .inr v3 =>
 some (((v3.1, ()), ()))
 )
def R.qby (K : Nat) (p0 : R.T12 × R.T8) (p1 : Int) : Option (((Int) × Unit) × Unit) :=
 obind (R.qaI K p0.1 p1) fun v2 =>
 bif decide (v2.1.1 < 0) then
 some (((-1, ()), ()))
 else
 obind (R.qbo K p0.2 v2.1.1) fun v4 =>
 bif decide (v4.1.1 < 0) then
 some (((-1, ()), ()))
 else
 some (((v4.1.1, ()), ()))
def R.L_qaF_0 (K : Nat) : Nat → ((List (List UInt8)) × ((Int) × ((Int) × ((Int) × Unit)))) → Option R.T3
 | 0, _ => none
 | n + 1, (q0, (q1, (q2, (q3, ())))) =>
 bif decide (q3 < (↑(List.length q0) : Int)) then
 bif decide (0 ≤ q3) && decide (q3 < (↑(List.length q0) : Int)) then
 obind (R.qbv K q1) fun v6 =>
 bif !List.getD q0 (Int.toNat q3) [] == v6.1.1 then
 some (Sum.inr (-1, ()))
 else
 R.L_qaF_0 K n (q0, IntKind.i64.wrap (q1 + 1), q2, IntKind.i64.wrap (q3 + 1), ())
 else
 none
 else
 some (Sum.inl (q1, q2, ()))
def R.qaF (K : Nat) (p0 : List (List UInt8)) (p1 : Int) : Option (((Int) × Unit) × Unit) :=
 obind (R.L_qaF_0 K K (p0, p1, 0, 0, ())) fun v2 =>
 (match v2 with
 | .inl v3 =>
 some (((v3.1, ()), ()))
 | .inr v3 =>
 some (((v3.1, ()), ()))
 )
def R.qaT (K : Nat) (p0 : (Int) × R.T29) (p1 : Int) : Option (((Int) × Unit) × Unit) :=
 obind (R.qaF K p0.2.2.2.1 p1) fun v2 =>
 bif decide (v2.1.1 < 0) then
 some (((-1, ()), ()))
 else
 obind (R.qaS K p0.2.2.2.2 v2.1.1) fun v4 =>
 bif decide (v4.1.1 < 0) then
 some (((-1, ()), ()))
 else
 some (((v4.1.1, ()), ()))
def R.laws_FnExactDoOp (K : Nat) (p0 : R.T12 × R.T8) (p1 : (Int) × R.T37) : Option (((Bool) × Unit) × Unit) :=
 obind (R.qcj K p0 1048576) fun v2 =>
 bif decide (v2.1.1 < 0) then
 some (((true, ()), ()))
 else
 obind (R.qdh K p1 v2.1.1) fun v4 =>
 bif decide (v4.1.1 < 0) then
 some (((true, ()), ()))
 else
 obind (
 Fw.alt (
 obind (R.qco K p0) fun v9 =>
 Fw.alt (
 obind (R.qdg K p1) fun v11 =>
 Fw.alt (
 obind (R.qdf K v9.1.1 v11.1.1) fun v13 =>
 Fw.dup (
 some ((false, v13.1.2.2.1, p0.1, p0.2, p1.1, p1.2.1, p1.2.2.1, p1.2.2.2.1, p1.2.2.2.2, v13.1.2.1.1, v13.1.2.1.2.1, v13.1.2.1.2.2.1, v13.1.1.1, v13.1.1.2, v13.1.2.1.2.2.2.1, v13.1.2.1.2.2.2.2, ()))
 )
 ) (
 Fw.dup (
 Fw.dup (
 obind (R.qdf K v9.1.1 v11.1.1) fun v15 =>
 some ((false, v15.1.2.2.1, p0.1, p0.2, p1.1, p1.2.1, p1.2.2.1, p1.2.2.2.1, p1.2.2.2.2, v15.1.2.1.1, v15.1.2.1.2.1, v15.1.2.1.2.2.1, v15.1.1.1, v15.1.1.2, v15.1.2.1.2.2.2.1, v15.1.2.1.2.2.2.2, ()))
 )
 )
 )
 ) (
 Fw.dup (
 Fw.alt (
 obind (R.qdg K p1) fun v13 =>
 Fw.dup (
 obind (R.qdf K v9.1.1 v13.1.1) fun v15 =>
 some ((false, v15.1.2.2.1, p0.1, p0.2, p1.1, p1.2.1, p1.2.2.1, p1.2.2.2.1, p1.2.2.2.2, v15.1.2.1.1, v15.1.2.1.2.1, v15.1.2.1.2.2.1, v15.1.1.1, v15.1.1.2, v15.1.2.1.2.2.2.1, v15.1.2.1.2.2.2.2, ()))
 )
 ) (
 obind (R.qdg K p1) fun v13 =>
 obind (R.qdf K v9.1.1 v13.1.1) fun v14 =>
 some ((false, v14.1.2.2.1, p0.1, p0.2, p1.1, p1.2.1, p1.2.2.1, p1.2.2.2.1, p1.2.2.2.2, v14.1.2.1.1, v14.1.2.1.2.1, v14.1.2.1.2.2.1, v14.1.1.1, v14.1.1.2, v14.1.2.1.2.2.2.1, v14.1.2.1.2.2.2.2, ()))
 )
 )
 )
 ) (
 Fw.dup (
 Fw.alt (
 obind (R.qco K p0) fun v11 =>
 Fw.alt (
 obind (R.qdg K p1) fun v13 =>
 Fw.dup (
 obind (R.qdf K v11.1.1 v13.1.1) fun v15 =>
 some ((false, v15.1.2.2.1, p0.1, p0.2, p1.1, p1.2.1, p1.2.2.1, p1.2.2.2.1, p1.2.2.2.2, v15.1.2.1.1, v15.1.2.1.2.1, v15.1.2.1.2.2.1, v15.1.1.1, v15.1.1.2, v15.1.2.1.2.2.2.1, v15.1.2.1.2.2.2.2, ()))
 )
 ) (
 obind (R.qdg K p1) fun v13 =>
 obind (R.qdf K v11.1.1 v13.1.1) fun v14 =>
 some ((false, v14.1.2.2.1, p0.1, p0.2, p1.1, p1.2.1, p1.2.2.1, p1.2.2.2.1, p1.2.2.2.2, v14.1.2.1.1, v14.1.2.1.2.1, v14.1.2.1.2.2.1, v14.1.1.1, v14.1.1.2, v14.1.2.1.2.2.2.1, v14.1.2.1.2.2.2.2, ()))
 )
 ) (
 obind (R.qco K p0) fun v11 =>
 obind (R.qdg K p1) fun v12 =>
 obind (R.qdf K v11.1.1 v12.1.1) fun v13 =>
 some ((false, v13.1.2.2.1, p0.1, p0.2, p1.1, p1.2.1, p1.2.2.1, p1.2.2.2.1, p1.2.2.2.2, v13.1.2.1.1, v13.1.2.1.2.1, v13.1.2.1.2.2.1, v13.1.1.1, v13.1.1.2, v13.1.2.1.2.2.2.1, v13.1.2.1.2.2.2.2, ()))
 )
 )
 )
 ) fun (v6 : Bool × Int × List (List Int × List (List UInt8 × Int)) × List (List UInt8 × Int × Int × Bool) × Int × Int × List UInt8 × List UInt8 × List (List UInt8 × Int × Bool) × Int × Int × Int × List (List Int × List (List UInt8 × Int)) × List (List UInt8 × Int × Int × Bool) × List (List UInt8) × List (List UInt8 × Int) × PUnit) =>
 obind (R.qco K (v6.2.2.1, v6.2.2.2.1)) fun v7 =>
 obind (R.qdg K (v6.2.2.2.2.1, v6.2.2.2.2.2.1, v6.2.2.2.2.2.2.1, v6.2.2.2.2.2.2.2.1, v6.2.2.2.2.2.2.2.2.1)) fun v8 =>
 obind (R.qdc K v7.1.1 v8.1.1) fun v9 =>
 obind (R.qcA K v9.1.1 (v6.2.2.2.2.2.2.2.2.2.2.2.2.1, v6.2.2.2.2.2.2.2.2.2.2.2.2.2.1)) fun v10 =>
 bif !v10.1.1 then
 some (((false, ()), ()))
 else
 obind (R.qbs K v9.1.2.1 (v6.2.2.2.2.2.2.2.2.2.1, v6.2.2.2.2.2.2.2.2.2.2.1, v6.2.2.2.2.2.2.2.2.2.2.2.1, v6.2.2.2.2.2.2.2.2.2.2.2.2.2.2.1, v6.2.2.2.2.2.2.2.2.2.2.2.2.2.2.2.1)) fun v12 =>
 bif !v12.1.1 then
 some (((false, ()), ()))
 else
 bif v9.1.2.2.1 != v6.2.1 then
 some (((false, ()), ()))
 else
 obind (R.qco K (v6.2.2.1, v6.2.2.2.1)) fun v15 =>
 obind (R.qcA K v7.1.1 v15.1.1) fun v16 =>
 bif !v16.1.1 then
 some (((false, ()), ()))
 else
 obind (R.qdg K (v6.2.2.2.2.1, v6.2.2.2.2.2.1, v6.2.2.2.2.2.2.1, v6.2.2.2.2.2.2.2.1, v6.2.2.2.2.2.2.2.2.1)) fun v18 =>
 obind (R.qcZ K v8.1.1 v18.1.1) fun v19 =>
 bif !v19.1.1 then
 some (((false, ()), ()))
 else
 obind (R.qbm K v7.1.1 1) fun v21 =>
 obind (R.qcm K v8.1.1 v21.1.1) fun v22 =>
 bif decide (v22.1.1 < 0) then
 some (((false, ()), ()))
 else
 obind (R.qcA K v9.1.1 (v6.2.2.2.2.2.2.2.2.2.2.2.2.1, v6.2.2.2.2.2.2.2.2.2.2.2.2.2.1)) fun v24 =>
 bif !v24.1.1 then
 some (((false, ()), ()))
 else
 obind (R.qbs K v9.1.2.1 (v6.2.2.2.2.2.2.2.2.2.1, v6.2.2.2.2.2.2.2.2.2.2.1, v6.2.2.2.2.2.2.2.2.2.2.2.1, v6.2.2.2.2.2.2.2.2.2.2.2.2.2.2.1, v6.2.2.2.2.2.2.2.2.2.2.2.2.2.2.2.1)) fun v26 =>
 bif !v26.1.1 then
 some (((false, ()), ()))
 else
 bif v9.1.2.2.1 != v6.2.1 then
 some (((false, ()), ()))
 else
 obind (R.qbm K v9.1.1 1) fun v29 =>
 obind (R.qaQ K v9.1.2.1 v29.1.1) fun v30 =>
 obind (R.qby K v29.2.1 1) fun v31 =>
 bif decide (v31.1.1 < 0) then
 some (((false, ()), ()))
 else
 obind (R.qaT K (v9.1.2.1.1, v9.1.2.1.2.1, v9.1.2.1.2.2.1, v30.2.1.2.2.2) v31.1.1) fun v33 =>
 bif decide (v33.1.1 < 0) then
 some (((false, ()), ()))
 else
 bif v33.1.1 != v30.1.1 then
 some (((false, ()), ()))
 else
 obind (
 Fw.alt (
 obind (R.qco K (v6.2.2.1, v6.2.2.2.1)) fun v39 =>
 Fw.alt (
 obind (R.qdg K (v6.2.2.2.2.1, v6.2.2.2.2.2.1, v6.2.2.2.2.2.2.1, v6.2.2.2.2.2.2.2.1, v6.2.2.2.2.2.2.2.2.1)) fun v41 =>
 Fw.alt (
 obind (R.qdc K v39.1.1 v41.1.1) fun v43 =>
 Fw.dup (
 some ((v6.1, v6.2.1, v30.1.1, v43.1.2.2.1, v6.2.2.2.2.2.2.2.2.2.1, v6.2.2.2.2.2.2.2.2.2.2.1, v6.2.2.2.2.2.2.2.2.2.2.2.1, v9.1.2.1.1, v9.1.2.1.2.1, v9.1.2.1.2.2.1, v43.1.2.1.1, v43.1.2.1.2.1, v43.1.2.1.2.2.1, v6.2.2.2.2.2.2.2.2.2.2.2.2.1, v6.2.2.2.2.2.2.2.2.2.2.2.2.2.1, v6.2.2.2.2.2.2.2.2.2.2.2.2.2.2.1, v6.2.2.2.2.2.2.2.2.2.2.2.2.2.2.2.1, v29.2.1.1, v29.2.1.2, v30.2.1.2.2.2.1, v30.2.1.2.2.2.2, v43.1.1.1, v43.1.1.2, v43.1.2.1.2.2.2.1, v43.1.2.1.2.2.2.2, ()))
 )
 ) (
 Fw.dup (
 Fw.dup (
 obind (R.qdc K v39.1.1 v41.1.1) fun v45 =>
 some ((v6.1, v6.2.1, v30.1.1, v45.1.2.2.1, v6.2.2.2.2.2.2.2.2.2.1, v6.2.2.2.2.2.2.2.2.2.2.1, v6.2.2.2.2.2.2.2.2.2.2.2.1, v9.1.2.1.1, v9.1.2.1.2.1, v9.1.2.1.2.2.1, v45.1.2.1.1, v45.1.2.1.2.1, v45.1.2.1.2.2.1, v6.2.2.2.2.2.2.2.2.2.2.2.2.1, v6.2.2.2.2.2.2.2.2.2.2.2.2.2.1, v6.2.2.2.2.2.2.2.2.2.2.2.2.2.2.1, v6.2.2.2.2.2.2.2.2.2.2.2.2.2.2.2.1, v29.2.1.1, v29.2.1.2, v30.2.1.2.2.2.1, v30.2.1.2.2.2.2, v45.1.1.1, v45.1.1.2, v45.1.2.1.2.2.2.1, v45.1.2.1.2.2.2.2, ()))
 )
 )
 )
 ) (
 Fw.dup (
 Fw.alt (
 obind (R.qdg K (v6.2.2.2.2.1, v6.2.2.2.2.2.1, v6.2.2.2.2.2.2.1, v6.2.2.2.2.2.2.2.1, v6.2.2.2.2.2.2.2.2.1)) fun v43 =>
 Fw.dup (
 obind (R.qdc K v39.1.1 v43.1.1) fun v45 =>
 some ((v6.1, v6.2.1, v30.1.1, v45.1.2.2.1, v6.2.2.2.2.2.2.2.2.2.1, v6.2.2.2.2.2.2.2.2.2.2.1, v6.2.2.2.2.2.2.2.2.2.2.2.1, v9.1.2.1.1, v9.1.2.1.2.1, v9.1.2.1.2.2.1, v45.1.2.1.1, v45.1.2.1.2.1, v45.1.2.1.2.2.1, v6.2.2.2.2.2.2.2.2.2.2.2.2.1, v6.2.2.2.2.2.2.2.2.2.2.2.2.2.1, v6.2.2.2.2.2.2.2.2.2.2.2.2.2.2.1, v6.2.2.2.2.2.2.2.2.2.2.2.2.2.2.2.1, v29.2.1.1, v29.2.1.2, v30.2.1.2.2.2.1, v30.2.1.2.2.2.2, v45.1.1.1, v45.1.1.2, v45.1.2.1.2.2.2.1, v45.1.2.1.2.2.2.2, ()))
 )
 ) (
 obind (R.qdg K (v6.2.2.2.2.1, v6.2.2.2.2.2.1, v6.2.2.2.2.2.2.1, v6.2.2.2.2.2.2.2.1, v6.2.2.2.2.2.2.2.2.1)) fun v43 =>
 obind (R.qdc K v39.1.1 v43.1.1) fun v44 =>
 some ((v6.1, v6.2.1, v30.1.1, v44.1.2.2.1, v6.2.2.2.2.2.2.2.2.2.1, v6.2.2.2.2.2.2.2.2.2.2.1, v6.2.2.2.2.2.2.2.2.2.2.2.1, v9.1.2.1.1, v9.1.2.1.2.1, v9.1.2.1.2.2.1, v44.1.2.1.1, v44.1.2.1.2.1, v44.1.2.1.2.2.1, v6.2.2.2.2.2.2.2.2.2.2.2.2.1, v6.2.2.2.2.2.2.2.2.2.2.2.2.2.1, v6.2.2.2.2.2.2.2.2.2.2.2.2.2.2.1, v6.2.2.2.2.2.2.2.2.2.2.2.2.2.2.2.1, v29.2.1.1, v29.2.1.2, v30.2.1.2.2.2.1, v30.2.1.2.2.2.2, v44.1.1.1, v44.1.1.2, v44.1.2.1.2.2.2.1, v44.1.2.1.2.2.2.2, ()))
 )
 )
 )
 ) (
 Fw.dup (
 Fw.alt (
 obind (R.qco K (v6.2.2.1, v6.2.2.2.1)) fun v41 =>
 Fw.alt (
 obind (R.qdg K (v6.2.2.2.2.1, v6.2.2.2.2.2.1, v6.2.2.2.2.2.2.1, v6.2.2.2.2.2.2.2.1, v6.2.2.2.2.2.2.2.2.1)) fun v43 =>
 Fw.dup (
 obind (R.qdc K v41.1.1 v43.1.1) fun v45 =>
 some ((v6.1, v6.2.1, v30.1.1, v45.1.2.2.1, v6.2.2.2.2.2.2.2.2.2.1, v6.2.2.2.2.2.2.2.2.2.2.1, v6.2.2.2.2.2.2.2.2.2.2.2.1, v9.1.2.1.1, v9.1.2.1.2.1, v9.1.2.1.2.2.1, v45.1.2.1.1, v45.1.2.1.2.1, v45.1.2.1.2.2.1, v6.2.2.2.2.2.2.2.2.2.2.2.2.1, v6.2.2.2.2.2.2.2.2.2.2.2.2.2.1, v6.2.2.2.2.2.2.2.2.2.2.2.2.2.2.1, v6.2.2.2.2.2.2.2.2.2.2.2.2.2.2.2.1, v29.2.1.1, v29.2.1.2, v30.2.1.2.2.2.1, v30.2.1.2.2.2.2, v45.1.1.1, v45.1.1.2, v45.1.2.1.2.2.2.1, v45.1.2.1.2.2.2.2, ()))
 )
 ) (
 obind (R.qdg K (v6.2.2.2.2.1, v6.2.2.2.2.2.1, v6.2.2.2.2.2.2.1, v6.2.2.2.2.2.2.2.1, v6.2.2.2.2.2.2.2.2.1)) fun v43 =>
 obind (R.qdc K v41.1.1 v43.1.1) fun v44 =>
 some ((v6.1, v6.2.1, v30.1.1, v44.1.2.2.1, v6.2.2.2.2.2.2.2.2.2.1, v6.2.2.2.2.2.2.2.2.2.2.1, v6.2.2.2.2.2.2.2.2.2.2.2.1, v9.1.2.1.1, v9.1.2.1.2.1, v9.1.2.1.2.2.1, v44.1.2.1.1, v44.1.2.1.2.1, v44.1.2.1.2.2.1, v6.2.2.2.2.2.2.2.2.2.2.2.2.1, v6.2.2.2.2.2.2.2.2.2.2.2.2.2.1, v6.2.2.2.2.2.2.2.2.2.2.2.2.2.2.1, v6.2.2.2.2.2.2.2.2.2.2.2.2.2.2.2.1, v29.2.1.1, v29.2.1.2, v30.2.1.2.2.2.1, v30.2.1.2.2.2.2, v44.1.1.1, v44.1.1.2, v44.1.2.1.2.2.2.1, v44.1.2.1.2.2.2.2, ()))
 )
 ) (
 obind (R.qco K (v6.2.2.1, v6.2.2.2.1)) fun v41 =>
 obind (R.qdg K (v6.2.2.2.2.1, v6.2.2.2.2.2.1, v6.2.2.2.2.2.2.1, v6.2.2.2.2.2.2.2.1, v6.2.2.2.2.2.2.2.2.1)) fun v42 =>
 obind (R.qdc K v41.1.1 v42.1.1) fun v43 =>
 some ((v6.1, v6.2.1, v30.1.1, v43.1.2.2.1, v6.2.2.2.2.2.2.2.2.2.1, v6.2.2.2.2.2.2.2.2.2.2.1, v6.2.2.2.2.2.2.2.2.2.2.2.1, v9.1.2.1.1, v9.1.2.1.2.1, v9.1.2.1.2.2.1, v43.1.2.1.1, v43.1.2.1.2.1, v43.1.2.1.2.2.1, v6.2.2.2.2.2.2.2.2.2.2.2.2.1, v6.2.2.2.2.2.2.2.2.2.2.2.2.2.1, v6.2.2.2.2.2.2.2.2.2.2.2.2.2.2.1, v6.2.2.2.2.2.2.2.2.2.2.2.2.2.2.2.1, v29.2.1.1, v29.2.1.2, v30.2.1.2.2.2.1, v30.2.1.2.2.2.2, v43.1.1.1, v43.1.1.2, v43.1.2.1.2.2.2.1, v43.1.2.1.2.2.2.2, ()))
 )
 )
 )
 ) fun (v36 : Bool × Int × Int × Int × Int × Int × Int × Int × Int × Int × Int × Int × Int × List (List Int × List (List UInt8 × Int)) × List (List UInt8 × Int × Int × Bool) × List (List UInt8) × List (List UInt8 × Int) × List (List Int × List (List UInt8 × Int)) × List (List UInt8 × Int × Int × Bool) × List (List UInt8) × List (List UInt8 × Int) × List (List Int × List (List UInt8 × Int)) × List (List UInt8 × Int × Int × Bool) × List (List UInt8) × List (List UInt8 × Int) × PUnit) =>
 obind (R.qcA K (v36.2.2.2.2.2.2.2.2.2.2.2.2.2.2.2.2.2.2.2.2.2.1, v36.2.2.2.2.2.2.2.2.2.2.2.2.2.2.2.2.2.2.2.2.2.2.1) (v36.2.2.2.2.2.2.2.2.2.2.2.2.2.1, v36.2.2.2.2.2.2.2.2.2.2.2.2.2.2.1)) fun v37 =>
 bif !v37.1.1 then
 some (((false, ()), ()))
 else
 obind (R.qbs K (v36.2.2.2.2.2.2.2.2.2.2.1, v36.2.2.2.2.2.2.2.2.2.2.2.1, v36.2.2.2.2.2.2.2.2.2.2.2.2.1, v36.2.2.2.2.2.2.2.2.2.2.2.2.2.2.2.2.2.2.2.2.2.2.2.1, v36.2.2.2.2.2.2.2.2.2.2.2.2.2.2.2.2.2.2.2.2.2.2.2.2.1) (v36.2.2.2.2.1, v36.2.2.2.2.2.1, v36.2.2.2.2.2.2.1, v36.2.2.2.2.2.2.2.2.2.2.2.2.2.2.2.1, v36.2.2.2.2.2.2.2.2.2.2.2.2.2.2.2.2.1)) fun v39 =>
 bif !v39.1.1 then
 some (((false, ()), ()))
 else
 bif v36.2.2.2.1 != v36.2.1 then
 some (((false, ()), ()))
 else
 obind (R.qby K (v36.2.2.2.2.2.2.2.2.2.2.2.2.2.2.2.2.2.1, v36.2.2.2.2.2.2.2.2.2.2.2.2.2.2.2.2.2.2.1) 1) fun v42 =>
 bif decide (v42.1.1 < 0) then
 some (((false, ()), ()))
 else
 obind (R.qaT K (v36.2.2.2.2.2.2.2.1, v36.2.2.2.2.2.2.2.2.1, v36.2.2.2.2.2.2.2.2.2.1, v36.2.2.2.2.2.2.2.2.2.2.2.2.2.2.2.2.2.2.2.1, v36.2.2.2.2.2.2.2.2.2.2.2.2.2.2.2.2.2.2.2.2.1) v42.1.1) fun v44 =>
 bif decide (v44.1.1 < 0) then
 some (((false, ()), ()))
 else
 bif v44.1.1 != v36.2.2.1 then
 some (((false, ()), ()))
 else
 some (((true, ()), ()))

end
end Go.Proofs
