/- Plain lemmas on what the functions come to. -/
import Derived.Test.YtfcldjomdbepjaaP06
namespace Go.Proofs.Pure
open Go Fw
set_option linter.all false
set_option maxRecDepth 100000
variable {K : Nat}

theorem getD_set {α : Type} {d a : α} {xs : List α} {i : Nat} (h : i < xs.length) : (xs.set i a).getD i d = a := by
  simp [List.getD_eq_getElem?_getD, h]

theorem getD_set_ne {α : Type} {d a : α} {xs : List α} {i j : Nat} (h : i ≠ j) : (xs.set i a).getD j d = xs.getD j d := by
  simp [List.getD_eq_getElem?_getD, List.getElem?_set, h]

theorem nbeq {n : Nat} : Nat.beq n n = true := Nat.beq_refl n

theorem lt0 {k : Int} (h : 0 ≤ k) : decide (k < 0) = false := by simp; omega

theorem bytes1 (n : Int) : (bytesOut [n]).length = 1 := rfl

theorem markTextL (a : List UInt8) : ∀ (m n : Nat) (k : Int) (s : List UInt8), 0 ≤ k → k ≤ 9223372036854775807 → k < 10 ^ m → m < n → s.length + m ≤ 1000 →
    ∃ s', R.L_laws_markText_0 K n (k, a, s, ()) = some (.inl (a, s', ())) ∧ s'.length ≤ s.length + m
  | 0, n + 1, k, s, h0, _, h1, hn, hs => by
    have hk : k = 0 := by simp at h1; omega
    subst hk
    refine ⟨s, ?_, by omega⟩
    simp [R.L_laws_markText_0]
  | m + 1, n + 1, k, s, h0, h2, h1, hn, hs => by
    by_cases hk : k > 0
    · have hb : Nat.ble (1 + s.length) 268435456 = true := Nat.ble_eq_true_of_le (by omega)
      have hlt : k / 10 < 10 ^ m := by
        have : (10 : Int) ^ (m + 1) = 10 ^ m * 10 := Int.pow_succ _ _
        rw [this] at h1
        omega
      have hdn : IntKind.i64.wrap (Int.tdiv k 10) = k / 10 := by
        rw [Int.tdiv_eq_ediv_of_nonneg h0]
        exact wrap_id (by omega) (by omega)
      obtain ⟨s', e, l⟩ := markTextL a m n (k / 10) (bytesOut [IntKind.u8.wrap (IntKind.i64.wrap (48 + Int.tmod k 10))] ++ s) (by omega) (by omega) hlt (by omega) (by rw [List.length_append, bytes1]; omega)
      refine ⟨s', ?_, by rw [List.length_append, bytes1] at l; omega⟩
      simp only [R.L_laws_markText_0, hk, decide_true, cond_true, bytes1, hb, hdn]
      exact e
    · refine ⟨s, ?_, by omega⟩
      simp only [R.L_laws_markText_0, hk, decide_false, cond_false]

theorem markText_ok (hK : 9223372036854775807 < K) (k : Int) (h0 : 0 ≤ k) (h1 : k ≤ 9223372036854775807) : ∃ t, R.laws_markText K k = some ((t, ()), ()) := by
  unfold R.laws_markText
  by_cases hk : k ≤ 0
  · simp only [hk, decide_true, cond_true]
    exact ⟨_, rfl⟩
  · simp only [hk, decide_false, cond_false]
    obtain ⟨s', e, l⟩ := markTextL (K := K) [] 20 K k [] h0 h1 (by omega) (by omega) (by simp)
    have e : R.L_laws_markText_0 K K (k, Array.toList (ByteArray.data (ByteArray.mk #[])), Array.toList (ByteArray.data (ByteArray.mk #[])), ()) = some (.inl ([], s', ())) := e
    have hb : Nat.ble ((Array.toList (ByteArray.data (ByteArray.mk #[109]))).length + s'.length) 268435456 = true := Nat.ble_eq_true_of_le (by simp at l ⊢; omega)
    simp only [e, obind_some, hb, cond_true]
    exact ⟨_, rfl⟩

/-- marks from k on up to k', one element after another -/
def HeldL {E : Type} (H : Int → E → Int → Prop) (d : E) (ys : List E) : Nat → Nat → Int → Int → Prop
  | _, 0, k, k' => k = k'
  | i, m + 1, k, k' => ∃ k1, H k (ys.getD i d) k1 ∧ k ≤ k1 ∧ HeldL H d ys (i + 1) m k1 k'

theorem mark_loop {E τ : Type} {d : E} {L : Nat → Nat → Int → List E → Option τ} {len : Nat} {fin : Int → List E → τ} {c B : Int} {H : Int → E → Int → Prop} {Good : E → Prop} (hc : 0 ≤ c)
    (h0 : ∀ n k xs, xs.length = len → L (n + 1) len k xs = some (fin k xs))
    (h1 : ∀ n i k xs, i < len → xs.length = len → 0 ≤ k → k + c ≤ B → Good (xs.getD i d) → ∃ k' y, k ≤ k' ∧ k' ≤ k + c ∧ H k y k' ∧ L (n + 1) i k xs = L n (i + 1) k' (xs.set i y)) :
    ∀ (m i n : Nat) (k : Int) (xs : List E), i + m = len → m < n → xs.length = len → 0 ≤ k → k + c * (m : Int) ≤ B → (∀ j, i ≤ j → j < len → Good (xs.getD j d)) →
      ∃ k' ys, L n i k xs = some (fin k' ys) ∧ k ≤ k' ∧ k' ≤ k + c * (m : Int) ∧ ys.length = len ∧ (∀ j, j < i → ys.getD j d = xs.getD j d) ∧ HeldL H d ys i m k k'
  | 0, i, n + 1, k, xs, hi, _, hx, hk, hB, _ => by
    have : i = len := by omega
    subst this
    exact ⟨k, xs, h0 n k xs hx, by omega, by simp, hx, fun _ _ => rfl, rfl⟩
  | m + 1, i, n + 1, k, xs, hi, hn, hx, hk, hB, hg => by
    have hm : c * ((m + 1 : Nat) : Int) = c * (m : Int) + c := by rw [Int.natCast_add, Int.mul_add]; simp
    have hcm : 0 ≤ c * (m : Int) := Int.mul_nonneg hc (by omega)
    obtain ⟨k1, y, l1, l2, hH, e⟩ := h1 n i k xs (by omega) hx hk (by omega) (hg i (by omega) (by omega))
    have hix : i < xs.length := by omega
    obtain ⟨k', ys, e', g1, g2, g3, g4, g5⟩ := mark_loop hc h0 h1 m (i + 1) n k1 (xs.set i y) (by omega) (by omega) (by simp [hx]) (by omega) (by omega) (fun j hj hj' => by rw [getD_set_ne (by omega)]; exact hg j (by omega) hj')
    refine ⟨k', ys, by rw [e, e'], by omega, by omega, g3, fun j hj => by rw [g4 j (by omega), getD_set_ne (by omega)], k1, ?_, l1, g5⟩
    rw [g4 i (by omega), getD_set hix]
    exact hH

theorem held_loop {E τ : Type} {d : E} {ys : List E} {L : Nat → Nat → Int → Option τ} {len : Nat} {fin : Int → τ} {H : Int → E → Int → Prop}
    (h0 : ∀ n k, L (n + 1) len k = some (fin k)) (h1 : ∀ n i k k', i < len → H k (ys.getD i d) k' → L (n + 1) i k = L n (i + 1) k') :
    ∀ (m i n : Nat) (k k' : Int), i + m = len → m < n → HeldL H d ys i m k k' → L n i k = some (fin k')
  | 0, i, n + 1, k, k', hi, _, h => by
    have : i = len := by omega
    subst this
    have : k = k' := h
    subst this
    exact h0 n k
  | m + 1, i, n + 1, k, k', hi, hn, ⟨k1, hH, _, h⟩ => by
    rw [h1 n i k k1 (by omega) hH]
    exact held_loop h0 h1 m (i + 1) n k1 k' (by omega) (by omega) h
end Go.Proofs.Pure
