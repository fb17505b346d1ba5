/- Plain lemmas for what the functions come to: machine integers, loops with an index. -/
import Derived.Test.YtpfkncmaeamacaaFwA
namespace Go.Proofs.Pure
open Go Fw

theorem wrap_id {n : Int} (h1 : -9223372036854775808 ≤ n) (h2 : n ≤ 9223372036854775807) : IntKind.i64.wrap n = n := by
  show (if (true && decide (n % 18446744073709551616 ≥ 9223372036854775808)) = true then n % 18446744073709551616 - 18446744073709551616 else n % 18446744073709551616) = n
  rw [Bool.true_and]
  by_cases h : n % 18446744073709551616 ≥ 9223372036854775808
  · rw [if_pos (by simpa using h)]; omega
  · rw [if_neg (by simpa using h)]; omega

theorem wrap_succ {i n : Nat} (h : i < n) (hn : n ≤ 9223372036854775807) : IntKind.i64.wrap ((i : Int) + 1) = ((i + 1 : Nat) : Int) := by
  rw [wrap_id (by omega) (by omega)]
  omega

/-- a loop with an index, 'm' rounds to go -/
def scan {σ τ : Type} (step : Nat → σ → σ ⊕ τ) (fin : σ → τ) : Nat → Nat → σ → τ
  | 0, _, s => fin s
  | m + 1, i, s => match step i s with
    | .inl s' => scan step fin m (i + 1) s'
    | .inr r => r

theorem scan_ok {σ τ : Type} {L : Nat → Nat → σ → Option τ} {len : Nat} {step : Nat → σ → σ ⊕ τ} {fin : σ → τ} (h0 : ∀ n s, L (n + 1) len s = some (fin s))
    (h1 : ∀ n i s, i < len → L (n + 1) i s = match step i s with | .inl s' => L n (i + 1) s' | .inr r => some r) :
    ∀ (m i n : Nat) (s : σ), i + m = len → m < n → L n i s = some (scan step fin m i s)
  | 0, i, n + 1, s, hi, _ => by
    have : i = len := by omega
    subst this
    exact h0 n s
  | m + 1, i, n + 1, s, hi, hn => by
    rw [h1 n i s (by omega)]
    unfold scan
    cases step i s with
    | inl s' => exact scan_ok h0 h1 m (i + 1) n s' (by omega) (by omega)
    | inr r => rfl

/-- a loop that looks whether all are so -/
theorem all_ok {τ : Type} {L : Nat → Nat → Option τ} {len : Nat} {p : Nat → Bool} {t f : τ} (h0 : ∀ n, L (n + 1) len = some t)
    (h1 : ∀ n i, i < len → L (n + 1) i = bif p i then L n (i + 1) else some f) :
    ∀ (m i n : Nat), i + m = len → m < n → L n i = some (bif (List.range' i m).all p then t else f)
  | 0, i, n + 1, hi, _ => by
    have : i = len := by omega
    subst this
    exact h0 n
  | m + 1, i, n + 1, hi, hn => by
    rw [h1 n i (by omega), List.range'_succ, List.all_cons]
    cases p i
    · rfl
    · simpa using all_ok h0 h1 m (i + 1) n (by omega) (by omega)

/-- the same, telling where -/
theorem all_okI {τ : Type} {L : Nat → Nat → Option τ} {len : Nat} {p : Nat → Bool} {t : τ} {f : Nat → τ} (h0 : ∀ n, L (n + 1) len = some t)
    (h1 : ∀ n i, i < len → L (n + 1) i = bif p i then L n (i + 1) else some (f i)) :
    ∀ (m i n : Nat), i + m = len → m < n → ∃ j, L n i = some (bif (List.range' i m).all p then t else f j)
  | 0, i, n + 1, hi, _ => by
    have : i = len := by omega
    subst this
    exact ⟨0, h0 n⟩
  | m + 1, i, n + 1, hi, hn => by
    rw [h1 n i (by omega), List.range'_succ, List.all_cons]
    cases e : p i
    · exact ⟨i, rfl⟩
    · simpa using all_okI h0 h1 m (i + 1) n (by omega) (by omega)

theorem all_range {α : Type} (q : α → Bool) (d : α) : ∀ (xs : List α), ((List.range' 0 xs.length).all fun i => q (xs.getD i d)) = xs.all q := by
  intro xs
  rw [← List.range_eq_range']
  have : xs = (List.range xs.length).map fun i => xs.getD i d := by
    apply List.ext_getElem (by simp)
    intro i h1 h2
    simp [List.getD_eq_getElem?_getD, h1]
  conv => rhs; rw [this]
  rw [List.all_map]
  rfl

/-- a loop that writes one element after the other -/
theorem fill_ok {α τ : Type} {L : Nat → Nat → List α → Option τ} {len : Nat} {g : Nat → α} {fin : List α → τ} {ys0 : List α} (h0 : ∀ n ys, ys.length = len → L (n + 1) len ys = some (fin ys))
    (h1 : ∀ n i ys, ys.length = len → i < len → ys[i]? = ys0[i]? → L (n + 1) i ys = L n (i + 1) (ys.set i (g i))) :
    ∀ (m i n : Nat) (ys : List α), i + m = len → m < n → ys.length = len → (∀ j, j < i → ys[j]? = some (g j)) → (∀ j, i ≤ j → ys[j]? = ys0[j]?) → L n i ys = some (fin ((List.range len).map g))
  | 0, i, n + 1, ys, hi, _, hl, hb, _ => by
    have : i = len := by omega
    subst this
    rw [h0 n ys hl]
    congr 2
    apply List.ext_getElem? 
    intro j
    by_cases hj : j < i
    · rw [hb j hj]; simp [hj]
    · simp [hl, Nat.le_of_not_lt hj]
  | m + 1, i, n + 1, ys, hi, hn, hl, hb, ha => by
    rw [h1 n i ys hl (by omega) (ha i (Nat.le_refl _))]
    refine fill_ok h0 h1 m (i + 1) n _ (by omega) (by omega) (by simpa using hl) (fun j hj => ?_) (fun j hj => ?_)
    · by_cases e : j = i
      · subst e; simp [hl, show j < len by omega]
      · rw [List.getElem?_set_ne (by omega)]; exact hb j (by omega)
    · rw [List.getElem?_set_ne (by omega)]; exact ha j (by omega)

end Go.Proofs.Pure
