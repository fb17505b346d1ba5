/- Plain lemmas on what the functions come to. -/
import Derived.Test.YtilfjfappnpfoaaDoorP02
namespace Go.Proofs.Pure
open Go Fw
set_option linter.all false
set_option maxRecDepth 100000
variable {K : Nat}

theorem sless_tri : ∀ a b : List UInt8, (!sless a b) = (sless b a || b == a)
  | [], [] => rfl
  | [], _ :: _ => rfl
  | _ :: _, [] => rfl
  | a :: x, b :: y => by
    have ih := sless_tri x y
    show (!(decide (a < b) || (a == b && sless x y))) = ((decide (b < a) || (b == a && sless y x)) || (b :: y == a :: x))
    rw [List.cons_beq_cons]
    by_cases h : a = b
    · subst h
      have : ¬ a < a := UInt8.lt_irrefl a
      simp only [this, decide_false, beq_self_eq_true, Bool.true_and, Bool.false_or]
      exact ih
    · have h' : (a == b) = false := by simpa using h
      have h'' : (b == a) = false := by simpa using fun e => h e.symm
      simp only [h', h'', Bool.false_and, Bool.or_false]
      by_cases hl : a < b
      · have : ¬ b < a := UInt8.lt_asymm hl
        simp [hl, this]
      · have : b < a := by
          have h1 : ¬ a.toNat < b.toNat := hl
          have h2 : a.toNat ≠ b.toNat := fun e => h (UInt8.toNat_inj.1 e)
          show b.toNat < a.toNat
          omega
        simp [hl, this]

def inV (v : Int) : Bool := decide (-1000000 ≤ v) && decide (v ≤ 1000000)

theorem isValue_eq (v : Int) : R.impl_isValue K v = some ((inV v, ()), ()) := by
  unfold R.impl_isValue
  rw [within_eq]
  rfl

theorem int0 {n : Nat} : ((n : Int) == 0) = decide (n = 0) := by
  by_cases h : n = 0
  · simp [h]
  · have : (n : Int) ≠ 0 := by omega
    simp [h, this]
end Go.Proofs.Pure
