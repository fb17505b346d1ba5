/- Plain lemmas on what the functions come to. -/
import Derived.Test.YtfcldjomdbepjaaP02
namespace Go.Proofs.Pure
open Go Fw
set_option linter.all false
set_option maxRecDepth 100000
variable {K : Nat}

abbrev Rf := List UInt8 × Int × Int × Bool

def refGood (r : Rf) : Bool := wordM r.1 && (decide (1 ≤ r.2.2.1) && decide (r.2.2.1 ≤ 1000000)) && (bif r.2.2.2 then r.2.1 == 0 else decide (1 ≤ r.2.1) && decide (r.2.1 ≤ 60))

def refAt (xs : List Rf) (name : List UInt8) : Int := match (List.range' 0 xs.length).find? (fun i => (xs.getD i ([], 0, 0, false)).1 == name) with | some j => (j : Int) | none => -1

def refsM (xs : List Rf) : Bool := decide (xs.length ≤ 8) && (List.range' 0 xs.length).all fun i => refGood (xs.getD i ([], 0, 0, false)) && (refAt xs (xs.getD i ([], 0, 0, false)).1 == (i : Int))

theorem l04At_eq (hK : 9223372036854775807 < K) (xs : List Rf) (hx : xs.length ≤ 9223372036854775807) (s : List UInt8) : R.spec_l04At K xs s = some ((refAt xs s, ()), ()) := by
  have := find_ok (L := fun n i => R.L_spec_l04At_0 K n (xs, s, 0, (i : Nat), ())) (len := xs.length) (p := fun i => (xs.getD i ([], 0, 0, false)).1 == s) (t := Sum.inl (0, ())) (f := fun i => Sum.inr ((i : Int), ()))
    (fun n => by simp [R.L_spec_l04At_0]) (fun n i hi => by
      simp only [R.L_spec_l04At_0, wrap_succ hi hx, Int.toNat_natCast]
      cases (xs.getD i ([], 0, 0, false)).1 == s <;> simp [hi]) xs.length 0 K (by omega) (by omega)
  have this : R.L_spec_l04At_0 K K (xs, s, 0, 0, ()) = _ := this
  unfold R.spec_l04At refAt
  rw [this]
  cases (List.range' 0 xs.length).find? (fun i => (xs.getD i ([], 0, 0, false)).1 == s) <;> rfl

theorem l04OK_eq (hK : 9223372036854775807 < K) (xs : List Rf) : R.spec_l04OK K xs = some ((refsM xs, ()), ()) := by
  unfold R.spec_l04OK refsM
  by_cases h8 : xs.length ≤ 8
  · have := all_ok (L := fun n i => R.L_spec_l04OK_0 K n (xs, false, (i : Nat), ())) (len := xs.length) (p := fun i => refGood (xs.getD i ([], 0, 0, false)) && (refAt xs (xs.getD i ([], 0, 0, false)).1 == (i : Int))) (t := Sum.inl (false, ())) (f := Sum.inr (false, ()))
      (fun n => by simp [R.L_spec_l04OK_0]) (fun n i hi => by
        simp only [R.L_spec_l04OK_0, wrap_succ hi (by omega), Int.toNat_natCast, word_eq hK, in_eq, l04At_eq hK xs (by omega), obind_some, refGood]
        have g : ((i : Nat) : Int) < (xs.length : Int) := by omega
        have g' : (0 : Int) ≤ ((i : Nat) : Int) := by omega
        simp only [g, g', decide_true, Bool.and_self, cond_true]
        generalize xs.getD i ([], 0, 0, false) = x
        cases wordM x.1 <;> cases decide (1 ≤ x.2.2.1) && decide (x.2.2.1 ≤ 1000000) <;> try rfl
        simp only [bne]
        cases refAt xs x.1 == (i : Int) <;> cases x.2.2.2 <;> cases x.2.1 == 0 <;> cases decide (1 ≤ x.2.1) && decide (x.2.1 ≤ 60) <;> rfl) xs.length 0 K (by omega) (by omega)
    have this : R.L_spec_l04OK_0 K K (xs, false, 0, ()) = _ := this
    simp only [this, h8, show ¬ ((xs.length : Int) > 8) by omega, obind_some, decide_true, decide_false, cond_false, Bool.true_and]
    cases (List.range' 0 xs.length).all fun i => refGood (xs.getD i ([], 0, 0, false)) && (refAt xs (xs.getD i ([], 0, 0, false)).1 == (i : Int)) <;> rfl
  · simp [h8, show (xs.length : Int) > 8 by omega]

theorem isRef_eq (hK : 9223372036854775807 < K) (r : Rf) (h1 : r.1.length ≤ 9223372036854775807) : R.impl_isRef K r = some ((refGood r, ()), ()) := by
  unfold R.impl_isRef refGood R.impl_isHead
  simp only [NameOK_eq hK _, within_eq, obind_some]
  cases wordM r.1 <;> cases decide (1 ≤ r.2.2.1) && decide (r.2.2.1 ≤ 1000000) <;> try rfl
  cases r.2.2.2 <;> cases r.2.1 == 0 <;> cases decide (1 ≤ r.2.1) && decide (r.2.1 ≤ 60) <;> rfl
end Go.Proofs.Pure
