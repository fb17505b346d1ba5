/- Plain lemmas on what the functions come to. -/
import Derived.Test.YtilfjfappnpfoaaDoorP13
namespace Go.Proofs.Pure
open Go Fw
set_option linter.all false
set_option maxRecDepth 100000
variable {K : Nat}

theorem kinds {k : Int} (h1 : 1 ≤ k) (h2 : k ≤ 6) : k = 1 ∨ k = 2 ∨ k = 3 ∨ k = 4 ∨ k = 5 ∨ k = 6 := by omega

theorem gt0 {n : Nat} : decide ((n : Int) > 0) = !decide (n = 0) := by
  by_cases h : n = 0
  · simp [h]
  · have : (n : Int) > 0 := by omega
    simp [h]; omega

theorem ble_s {n : Nat} (h : n ≤ 268435456) : Nat.ble n 268435456 = true := Nat.ble_eq_true_of_le h

def kindW (k : Int) : List UInt8 := [[], [99, 114, 101, 97, 116, 101], [100, 101, 108, 101, 116, 101], [99, 111, 109, 109, 105, 116], [109, 101, 114, 103, 101], [103, 101, 116], [115, 99, 97, 110]].getD k.toNat []
end Go.Proofs.Pure
