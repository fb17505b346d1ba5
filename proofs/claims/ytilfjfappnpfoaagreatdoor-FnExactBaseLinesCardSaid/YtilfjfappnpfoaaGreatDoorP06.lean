/- Plain lemmas on what the functions come to. -/
import Derived.Test.YtilfjfappnpfoaaGreatDoorP05
namespace Go.Proofs.Pure
open Go Fw
set_option linter.all false
set_option maxRecDepth 100000
variable {K : Nat}

theorem wrap_u8 {n : Int} (h1 : 0 ≤ n) (h2 : n < 256) : IntKind.u8.wrap n = n := by
  show (if (false && decide (n % 256 ≥ 128)) = true then n % 256 - 256 else n % 256) = n
  rw [Bool.false_and, if_neg (by decide)]
  omega

/-- a loop that makes a text longer and longer -/
theorem cat_ok {τ : Type} {L : Nat → Nat → List UInt8 → Option τ} {len A B : Nat} {g : Nat → List UInt8} {fin : List UInt8 → τ} (hg : ∀ i, i < len → (g i).length ≤ B) (h0 : ∀ n s, L (n + 1) len s = some (fin s))
    (h1 : ∀ n i s, i < len → s.length ≤ A + i * B → L (n + 1) i s = L n (i + 1) (s ++ g i)) :
    ∀ (m i n : Nat) (s : List UInt8), i + m = len → m < n → s.length ≤ A + i * B → L n i s = some (fin (s ++ ((List.range' i m).map g).flatten))
  | 0, i, n + 1, s, hi, _, _ => by
    have : i = len := by omega
    subst this
    rw [h0]
    simp
  | m + 1, i, n + 1, s, hi, hn, hs => by
    have hb := hg i (by omega)
    rw [h1 n i s (by omega) hs, cat_ok hg h0 h1 m (i + 1) n (s ++ g i) (by omega) (by omega) (by rw [List.length_append, Nat.add_mul]; omega), List.range'_succ, List.map_cons, List.flatten_cons, List.append_assoc]

theorem cat_len {B : Nat} {g : Nat → List UInt8} : ∀ (m i : Nat), (∀ j, i ≤ j → j < i + m → (g j).length ≤ B) → (((List.range' i m).map g).flatten).length ≤ m * B
  | 0, _, _ => by simp
  | m + 1, i, h => by
    rw [List.range'_succ, List.map_cons, List.flatten_cons, List.length_append, Nat.add_mul]
    have h1 := h i (by omega) (by omega)
    have h2 := cat_len (g := g) m (i + 1) (fun j h1 h2 => h j (by omega) (by omega))
    omega

theorem ble_of {n m : Nat} (h : n ≤ m) : Nat.ble n m = true := Nat.ble_eq_true_of_le h

/-- what the encoding asks of a commit -/
structure CmS (c : Cm) : Prop where
  h1 : c.1.length ≤ 2
  h2 : ∀ p ∈ c.1, 0 ≤ p ∧ p ≤ 1000000
  h3 : c.2.length ≤ 12
  h4 : ∀ e ∈ c.2, e.1.length ≤ 12 ∧ -1000000 ≤ e.2 ∧ e.2 ≤ 1000000

structure RfS (r : Rf) : Prop where
  h1 : r.1.length ≤ 12
  h2 : 0 ≤ r.2.2.1 ∧ r.2.2.1 ≤ 1000000
  h3 : 0 ≤ r.2.1 ∧ r.2.1 ≤ 1000000

structure BaS (b : Ba) : Prop where
  h1 : b.1.length ≤ 60
  h2 : ∀ c ∈ b.1, CmS c
  h3 : b.2.length ≤ 8
  h4 : ∀ r ∈ b.2, RfS r
end Go.Proofs.Pure
