/- Plain lemmas on what the functions come to. -/
import Derived.Test.YtilfjfappnpfoaaGreatDoorP12
namespace Go.Proofs.Pure
open Go Fw
set_option linter.all false
set_option maxRecDepth 100000
variable {K : Nat}

theorem ble_s {n : Nat} (h : n ≤ 268435456) : Nat.ble n 268435456 = true := Nat.ble_eq_true_of_le h
end Go.Proofs.Pure
