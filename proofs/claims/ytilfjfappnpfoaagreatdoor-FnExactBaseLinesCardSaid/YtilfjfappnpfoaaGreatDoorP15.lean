/- Plain lemmas on what the functions come to. -/
import Derived.Test.YtilfjfappnpfoaaGreatDoorP14
namespace Go.Proofs.Pure
open Go Fw
set_option linter.all false
set_option maxRecDepth 100000
variable {K : Nat}

theorem mapTxt_len {m : List En} (hm : m.length ≤ 12) (he : ∀ e ∈ m, e.1.length ≤ 12 ∧ -1000000 ≤ e.2 ∧ e.2 ≤ 1000000) : (mapTxt m).length ≤ 400 := by
  have := wordsTxt_len (w := fun i => entTxt (m.getD i ([], 0))) (B := 24) (n := m.length) (fun i hi => entTxt_len _ (he _ (getD_mem _ hi)))
  unfold mapTxt
  omega

theorem ieq0 (n : Int) : (n == 0) = decide (n = 0) := by
  by_cases h : n = 0
  · simp [h]
  · simp [h]

theorem numbered_eq (w : List UInt8) (hw : w.length ≤ 100) (n : Int) (h1 : -1000000 ≤ n) (h2 : n ≤ 1000000) : R.impl_numbered K w n = some ((if n = 0 then [] else [32] ++ w ++ [32] ++ Lib.itoa n, ()), ()) := by
  have l := itoa_len n h1 h2
  unfold R.impl_numbered
  rw [ieq0]
  by_cases h : n = 0
  · simp [h]
  · simp (disch := omega) [h, ble_s, Itoa_eq n h1 h2, obind_some, List.append_assoc]
end Go.Proofs.Pure
