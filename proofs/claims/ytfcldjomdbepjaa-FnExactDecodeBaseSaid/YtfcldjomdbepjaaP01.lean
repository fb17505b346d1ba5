/- Plain lemmas on what the functions come to. -/
import Derived.Test.YtfcldjomdbepjaaFwA
import Derived.Test.YtfcldjomdbepjaaAR
namespace Go.Proofs.Pure
open Go Fw
set_option linter.all false
set_option maxRecDepth 100000
variable {K : Nat}

theorem obind_some {α β : Type} (a : α) (f : α → Option β) : obind (some a) f = f a := rfl

theorem wrap_id {n : Int} (h1 : -9223372036854775808 ≤ n) (h2 : n ≤ 9223372036854775807) : IntKind.i64.wrap n = n := by
  show (if (true && decide (n % 18446744073709551616 ≥ 9223372036854775808)) = true then n % 18446744073709551616 - 18446744073709551616 else n % 18446744073709551616) = n
  rw [Bool.true_and]
  by_cases h : n % 18446744073709551616 ≥ 9223372036854775808
  · rw [if_pos (by simpa using h)]; omega
  · rw [if_neg (by simpa using h)]; omega

theorem wrap_succ {i n : Nat} (h : i < n) (hn : n ≤ 9223372036854775807) : IntKind.i64.wrap ((i : Int) + 1) = ((i + 1 : Nat) : Int) := by
  rw [wrap_id (by omega) (by omega)]
  omega

/-- a loop that looks whether all are so -/
theorem all_ok {τ : Type} {L : Nat → Nat → Option τ} {len : Nat} {p : Nat → Bool} {t f : τ} (h0 : ∀ n, L (n + 1) len = some t)
    (h1 : ∀ n i, i < len → L (n + 1) i = bif p i then L n (i + 1) else some f) :
    ∀ (m i n : Nat), i + m = len → m < n → L n i = some (bif (List.range' i m).all p then t else f)
  | 0, i, n + 1, hi, _ => by
    have : i = len := by omega
    subst this
    exact h0 n
  | m + 1, i, n + 1, hi, hn => by
    rw [h1 n i (by omega), List.range'_succ, List.all_cons]
    cases p i
    · rfl
    · simpa using all_ok h0 h1 m (i + 1) n (by omega) (by omega)

/-- the same, telling where -/
theorem all_okI {τ : Type} {L : Nat → Nat → Option τ} {len : Nat} {p : Nat → Bool} {t : τ} {f : Nat → τ} (h0 : ∀ n, L (n + 1) len = some t)
    (h1 : ∀ n i, i < len → L (n + 1) i = bif p i then L n (i + 1) else some (f i)) :
    ∀ (m i n : Nat), i + m = len → m < n → ∃ j, L n i = some (bif (List.range' i m).all p then t else f j)
  | 0, i, n + 1, hi, _ => by
    have : i = len := by omega
    subst this
    exact ⟨0, h0 n⟩
  | m + 1, i, n + 1, hi, hn => by
    rw [h1 n i (by omega), List.range'_succ, List.all_cons]
    cases e : p i
    · exact ⟨i, rfl⟩
    · simpa using all_okI h0 h1 m (i + 1) n (by omega) (by omega)

/-- a loop that looks for the first that is so -/
theorem find_ok {τ : Type} {L : Nat → Nat → Option τ} {len : Nat} {p : Nat → Bool} {t : τ} {f : Nat → τ} (h0 : ∀ n, L (n + 1) len = some t)
    (h1 : ∀ n i, i < len → L (n + 1) i = bif p i then some (f i) else L n (i + 1)) :
    ∀ (m i n : Nat), i + m = len → m < n → L n i = some (match (List.range' i m).find? p with | some j => f j | none => t)
  | 0, i, n + 1, hi, _ => by
    have : i = len := by omega
    subst this
    exact h0 n
  | m + 1, i, n + 1, hi, hn => by
    rw [h1 n i (by omega), List.range'_succ, List.find?_cons]
    cases p i
    · simpa using find_ok h0 h1 m (i + 1) n (by omega) (by omega)
    · rfl

theorem pair_eta {α β : Type} (p : α × β) : (p.1, p.2) = p := rfl

/-- small: no list, no string of more than 2^20 -/
def Sm : (t : Ty) → t.den → Prop
  | .str, l => l.length ≤ 1048576
  | .sl t, xs => xs.length ≤ 1048576 ∧ ∀ x ∈ xs, Sm t x
  | .pair a b, x => Sm a x.1 ∧ Sm b x.2
  | _, _ => True

theorem getD_mem {α : Type} {xs : List α} {i : Nat} (d : α) (h : i < xs.length) : xs.getD i d ∈ xs := by
  rw [List.getD_eq_getElem?_getD, List.getElem?_eq_getElem h]
  exact List.getElem_mem h

theorem idx_lt {i n : Nat} (h : i < n) : decide ((i : Int) < (n : Int)) = true := by
  have : (i : Int) < n := by omega
  simp [this]

theorem idx_end {n : Nat} : decide ((n : Int) < (n : Int)) = false := by simp

theorem idx_nn {i : Nat} : decide ((0 : Int) ≤ (i : Int)) = true := by simp
end Go.Proofs.Pure
