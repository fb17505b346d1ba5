/- Plain lemmas on what the functions come to. -/
import Derived.Test.YtilfjfappnpfoaaGreatDoorFwA
import Derived.Test.YtilfjfappnpfoaaGreatDoorAR
namespace Go.Proofs.Pure
open Go Fw
set_option linter.all false
set_option maxRecDepth 100000
variable {K : Nat}

theorem obind_some {α β : Type} (a : α) (f : α → Option β) : obind (some a) f = f a := rfl

theorem alt_self {α : Type} (a : Option α) : Fw.alt a a = a := if_pos rfl

theorem dup_eq {α : Type} (a : Option α) : Fw.dup a = a := alt_self a

theorem wrap_id {n : Int} (h1 : -9223372036854775808 ≤ n) (h2 : n ≤ 9223372036854775807) : IntKind.i64.wrap n = n := by
  show (if (true && decide (n % 18446744073709551616 ≥ 9223372036854775808)) = true then n % 18446744073709551616 - 18446744073709551616 else n % 18446744073709551616) = n
  rw [Bool.true_and]
  by_cases h : n % 18446744073709551616 ≥ 9223372036854775808
  · rw [if_pos (by simpa using h)]; omega
  · rw [if_neg (by simpa using h)]; omega

theorem wrap_succ {i n : Nat} (h : i < n) (hn : n ≤ 9223372036854775807) : IntKind.i64.wrap ((i : Int) + 1) = ((i + 1 : Nat) : Int) := by
  rw [wrap_id (by omega) (by omega)]
  omega

/-- a loop that looks whether all are so -/
theorem all_ok {τ : Type} {L : Nat → Nat → Option τ} {len : Nat} {p : Nat → Bool} {t f : τ} (h0 : ∀ n, L (n + 1) len = some t)
    (h1 : ∀ n i, i < len → L (n + 1) i = bif p i then L n (i + 1) else some f) :
    ∀ (m i n : Nat), i + m = len → m < n → L n i = some (bif (List.range' i m).all p then t else f)
  | 0, i, n + 1, hi, _ => by
    have : i = len := by omega
    subst this
    exact h0 n
  | m + 1, i, n + 1, hi, hn => by
    rw [h1 n i (by omega), List.range'_succ, List.all_cons]
    cases p i
    · rfl
    · simpa using all_ok h0 h1 m (i + 1) n (by omega) (by omega)

/-- the same, telling where -/
theorem all_okI {τ : Type} {L : Nat → Nat → Option τ} {len : Nat} {p : Nat → Bool} {t : τ} {f : Nat → τ} (h0 : ∀ n, L (n + 1) len = some t)
    (h1 : ∀ n i, i < len → L (n + 1) i = bif p i then L n (i + 1) else some (f i)) :
    ∀ (m i n : Nat), i + m = len → m < n → ∃ j, L n i = some (bif (List.range' i m).all p then t else f j)
  | 0, i, n + 1, hi, _ => by
    have : i = len := by omega
    subst this
    exact ⟨0, h0 n⟩
  | m + 1, i, n + 1, hi, hn => by
    rw [h1 n i (by omega), List.range'_succ, List.all_cons]
    cases e : p i
    · exact ⟨i, rfl⟩
    · simpa using all_okI h0 h1 m (i + 1) n (by omega) (by omega)

/-- a loop that writes one element after the other -/
theorem fill_ok {α τ : Type} {L : Nat → Nat → List α → Option τ} {len : Nat} {g : Nat → α} {fin : List α → τ} {ys0 : List α} (h0 : ∀ n ys, ys.length = len → L (n + 1) len ys = some (fin ys))
    (h1 : ∀ n i ys, ys.length = len → i < len → ys[i]? = ys0[i]? → L (n + 1) i ys = L n (i + 1) (ys.set i (g i))) :
    ∀ (m i n : Nat) (ys : List α), i + m = len → m < n → ys.length = len → (∀ j, j < i → ys[j]? = some (g j)) → (∀ j, i ≤ j → ys[j]? = ys0[j]?) → L n i ys = some (fin ((List.range len).map g))
  | 0, i, n + 1, ys, hi, _, hl, hb, _ => by
    have : i = len := by omega
    subst this
    rw [h0 n ys hl]
    congr 2
    apply List.ext_getElem? 
    intro j
    by_cases hj : j < i
    · rw [hb j hj]; simp [hj]
    · simp [hl, Nat.le_of_not_lt hj]
  | m + 1, i, n + 1, ys, hi, hn, hl, hb, ha => by
    rw [h1 n i ys hl (by omega) (ha i (Nat.le_refl _))]
    refine fill_ok h0 h1 m (i + 1) n _ (by omega) (by omega) (by simpa using hl) (fun j hj => ?_) (fun j hj => ?_)
    · by_cases e : j = i
      · subst e; simp [hl, show j < len by omega]
      · rw [List.getElem?_set_ne (by omega)]; exact hb j (by omega)
    · rw [List.getElem?_set_ne (by omega)]; exact ha j (by omega)

/-- a loop that looks for the first that is so -/
theorem find_ok {τ : Type} {L : Nat → Nat → Option τ} {len : Nat} {p : Nat → Bool} {t : τ} {f : Nat → τ} (h0 : ∀ n, L (n + 1) len = some t)
    (h1 : ∀ n i, i < len → L (n + 1) i = bif p i then some (f i) else L n (i + 1)) :
    ∀ (m i n : Nat), i + m = len → m < n → L n i = some (match (List.range' i m).find? p with | some j => f j | none => t)
  | 0, i, n + 1, hi, _ => by
    have : i = len := by omega
    subst this
    exact h0 n
  | m + 1, i, n + 1, hi, hn => by
    rw [h1 n i (by omega), List.range'_succ, List.find?_cons]
    cases p i
    · simpa using find_ok h0 h1 m (i + 1) n (by omega) (by omega)
    · rfl

theorem pair_eta {α β : Type} (p : α × β) : (p.1, p.2) = p := rfl

/-- as large as the program lets it be -/
def Wd : (t : Ty) → t.den → Prop
  | .int k, n => k.min ≤ n ∧ n ≤ k.max
  | .str, l => l.length ≤ Go.maxLen
  | .sl t, xs => xs.length ≤ Go.maxLen ∧ ∀ x ∈ xs, Wd t x
  | .pair a b, x => Wd a x.1 ∧ Wd b x.2
  | _, _ => True

/-- small: no list, no string of more than 2^20 -/
def Sm : (t : Ty) → t.den → Prop
  | .str, l => l.length ≤ 1048576
  | .sl t, xs => xs.length ≤ 1048576 ∧ ∀ x ∈ xs, Sm t x
  | .pair a b, x => Sm a x.1 ∧ Sm b x.2
  | _, _ => True

theorem getD_mem {α : Type} {xs : List α} {i : Nat} (d : α) (h : i < xs.length) : xs.getD i d ∈ xs := by
  rw [List.getD_eq_getElem?_getD, List.getElem?_eq_getElem h]
  exact List.getElem_mem h

theorem idx_lt {i n : Nat} (h : i < n) : decide ((i : Int) < (n : Int)) = true := by
  have : (i : Int) < n := by omega
  simp [this]

theorem idx_end {n : Nat} : decide ((n : Int) < (n : Int)) = false := by simp

/-- the loop that takes sizes off -/
theorem sz_loop {L : Nat → Nat → Int → Option ((Int × (Int × Unit)) ⊕ (Int × Unit))} {len : Nat} {S : Nat → Prop} (h0 : ∀ n p, L (n + 1) len p = some (.inl (p, 0, ())))
    (h1 : ∀ n i p, i < len → 0 ≤ p → p ≤ 1048576 → ∃ z, z ≤ p ∧ (0 ≤ z → S i) ∧ L (n + 1) i p = bif decide (z < 0) then some (.inr (-1, ())) else L n (i + 1) z) :
    ∀ (m i n : Nat) (p : Int), i + m = len → m < n → 0 ≤ p → p ≤ 1048576 →
      (∃ z, L n i p = some (.inl (z, 0, ())) ∧ 0 ≤ z ∧ z ≤ p ∧ ∀ j, i ≤ j → j < len → S j) ∨ L n i p = some (.inr (-1, ()))
  | 0, i, n + 1, p, hi, _, hp, _ => by
    have : i = len := by omega
    subst this
    exact .inl ⟨p, h0 n p, hp, by omega, fun j h1 h2 => by omega⟩
  | m + 1, i, n + 1, p, hi, hn, hp, hp' => by
    obtain ⟨z, hz, hs, e⟩ := h1 n i p (by omega) hp hp'
    rw [e]
    by_cases h : z < 0
    · exact .inr (by simp [h])
    · simp only [h, decide_false, cond_false]
      rcases sz_loop h0 h1 m (i + 1) n z (by omega) (by omega) (by omega) (by omega) with ⟨y, e', g1, g2, g3⟩ | e'
      · refine .inl ⟨y, e', g1, by omega, fun j h1 h2 => ?_⟩
        by_cases hj : j = i
        · subst hj; exact hs (by omega)
        · exact g3 j (by omega) h2
      · exact .inr e'

theorem idx_nn {i : Nat} : decide ((0 : Int) ≤ (i : Int)) = true := by simp
end Go.Proofs.Pure
