/- Plain lemmas on what the functions come to. -/
import Derived.Test.YtpfkncmaeamacaaP12
namespace Go.Proofs.Pure
open Go Fw
set_option linter.all false
set_option maxRecDepth 100000
variable {K : Nat}

theorem gt0 {n : Nat} : decide ((n : Int) > 0) = !decide (n = 0) := by
  by_cases h : n = 0
  · simp [h]
  · have : (n : Int) > 0 := by omega
    simp [h]; omega
end Go.Proofs.Pure
