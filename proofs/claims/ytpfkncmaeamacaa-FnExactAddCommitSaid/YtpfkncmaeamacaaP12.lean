/- Plain lemmas on what the functions come to. -/
import Derived.Test.YtpfkncmaeamacaaP11
namespace Go.Proofs.Pure
open Go Fw
set_option linter.all false
set_option maxRecDepth 100000
variable {K : Nat}

/-- a loop that makes a list longer and longer -/
theorem app_ok {α τ : Type} {L : Nat → Nat → List α → Option τ} {len : Nat} {g : Nat → α} {fin : List α → τ} (h0 : ∀ n s, L (n + 1) len s = some (fin s))
    (h1 : ∀ n i s, i < len → s.length ≤ i → L (n + 1) i s = L n (i + 1) (s ++ [g i])) :
    ∀ (m i n : Nat) (s : List α), i + m = len → m < n → s.length ≤ i → L n i s = some (fin (s ++ (List.range' i m).map g))
  | 0, i, n + 1, s, hi, _, _ => by
    have : i = len := by omega
    subst this
    rw [h0]
    simp
  | m + 1, i, n + 1, s, hi, hn, hs => by
    rw [h1 n i s (by omega) hs, app_ok h0 h1 m (i + 1) n (s ++ [g i]) (by omega) (by omega) (by simp; omega), List.range'_succ, List.map_cons, List.append_assoc]
    rfl
end Go.Proofs.Pure
