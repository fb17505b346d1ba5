/- Plain lemmas on what the functions come to. -/
import Derived.Test.YtilfjfappnpfoaaGreatDoorP11
namespace Go.Proofs.Pure
open Go Fw
set_option linter.all false
set_option maxRecDepth 100000
variable {K : Nat}

theorem decDigits_small {n : Nat} (h : n < 10) : Lib.decDigits n = [UInt8.ofNat (48 + n)] := by unfold Lib.decDigits; rw [dif_pos h]

theorem decDigits_big {n : Nat} (h : ¬ n < 10) : Lib.decDigits n = Lib.decDigits (n / 10) ++ [UInt8.ofNat (48 + n % 10)] := by
  conv => lhs; unfold Lib.decDigits
  rw [dif_neg h]

theorem decDigits_len : ∀ (k n : Nat), n < 10 ^ (k + 1) → (Lib.decDigits n).length ≤ k + 1
  | k, n, h => by
    by_cases h10 : n < 10
    · rw [decDigits_small h10]; simp
    · match k with
      | 0 => omega
      | k + 1 =>
        have : n / 10 < 10 ^ (k + 1) := by
          rw [Nat.div_lt_iff_lt_mul (by omega), ← Nat.pow_succ]; exact h
        have := decDigits_len k _ this
        rw [decDigits_big h10, List.length_append, List.length_cons, List.length_nil]
        omega

theorem step_digits (rec : Int → Option ((List UInt8 × Unit) × Unit)) (n : Nat) (h : n < 1000000000) (hr : ¬ n < 10 → rec ((n / 10 : Nat) : Int) = some ((Lib.decDigits (n / 10), ()), ())) :
    R.step_spec_l00Digits K rec (n : Int) = some ((Lib.decDigits n, ()), ()) := by
  unfold R.step_spec_l00Digits
  have e0 : ((n : Int) == -9223372036854775808) = false := by
    have : (n : Int) ≠ -9223372036854775808 := by omega
    simpa using this
  have e1 : ¬ (n : Int) < 0 := by omega
  simp only [e0, e1, decide_false, cond_false]
  by_cases h10 : n < 10
  · have g : (n : Int) < 10 := by omega
    have w1 : IntKind.i64.wrap (48 + (n : Int)) = ((48 + n : Nat) : Int) := by rw [wrap_id (by omega) (by omega)]; omega
    have w2 : IntKind.u8.wrap ((48 + n : Nat) : Int) = ((48 + n : Nat) : Int) := wrap_u8 (by omega) (by omega)
    simp only [g, decide_true, cond_true, w1, w2, decDigits_small h10, bytesOut, List.map_cons, List.map_nil, Int.toNat_natCast]
  · have g : ¬ (n : Int) < 10 := by omega
    have d1 : Int.tdiv (n : Int) 10 = ((n / 10 : Nat) : Int) := by rw [Int.tdiv_eq_ediv_of_nonneg (by omega)]; omega
    have d2 : Int.tmod (n : Int) 10 = ((n % 10 : Nat) : Int) := by rw [Int.tmod_eq_emod_of_nonneg (by omega)]; omega
    have w0 : IntKind.i64.wrap ((n / 10 : Nat) : Int) = ((n / 10 : Nat) : Int) := wrap_id (by omega) (by omega)
    have w1 : IntKind.i64.wrap (48 + ((n % 10 : Nat) : Int)) = ((48 + n % 10 : Nat) : Int) := by rw [wrap_id (by omega) (by omega)]; omega
    have w2 : IntKind.u8.wrap ((48 + n % 10 : Nat) : Int) = ((48 + n % 10 : Nat) : Int) := wrap_u8 (by omega) (by omega)
    have hl := decDigits_len 9 (n / 10) (by have : (10 : Nat) ^ (9 + 1) = 10000000000 := by decide
                                            omega)
    have hb : Nat.ble ((Lib.decDigits (n / 10)).length + 1) 268435456 = true := Nat.ble_eq_true_of_le (by omega)
    simp only [g, decide_false, cond_false, d1, d2, w0, w1, w2, hr h10, bytesOut, List.map_cons, List.map_nil, Int.toNat_natCast, obind_some, List.length_cons, List.length_nil, Nat.zero_add, hb, cond_true, dup_eq, alt_self, decDigits_big h10]

theorem digits_nat : ∀ (k f n : Nat), n < 10 ^ (k + 1) → n < 1000000000 → k < f → R.spec_l00Digits K f (n : Int) = some ((Lib.decDigits n, ()), ())
  | k, f + 1, n, h, h', hf => by
    unfold R.spec_l00Digits
    refine step_digits _ n h' fun h10 => ?_
    match k with
    | 0 => omega
    | k + 1 =>
      have : n / 10 < 10 ^ (k + 1) := by
        rw [Nat.div_lt_iff_lt_mul (by omega), ← Nat.pow_succ]; exact h
      exact digits_nat k f (n / 10) this (by omega) (by omega)

theorem digits_eq (hK : 9223372036854775807 < K) (n : Int) (h1 : -1000000 ≤ n) (h2 : n ≤ 1000000) : R.spec_l00Digits K K n = some ((Lib.itoa n, ()), ()) := by
  have p10 : (10 : Nat) ^ (9 + 1) = 10000000000 := by decide
  by_cases h : n < 0
  · obtain ⟨k, rfl⟩ : ∃ k, K = k + 1 := ⟨K - 1, by omega⟩
    have e0 : (n == -9223372036854775808) = false := by
      have : n ≠ -9223372036854775808 := by omega
      simpa using this
    have w0 : IntKind.i64.wrap (0 - n) = ((n.natAbs : Nat) : Int) := by rw [wrap_id (by omega) (by omega)]; omega
    have hl := decDigits_len 9 n.natAbs (by omega)
    have hb : Nat.ble (1 + (Lib.decDigits n.natAbs).length) 268435456 = true := Nat.ble_eq_true_of_le (by omega)
    unfold R.spec_l00Digits R.step_spec_l00Digits Lib.itoa
    simp only [e0, h, decide_true, cond_true, cond_false, w0, digits_nat 9 k n.natAbs (by omega) (by omega) (by omega), obind_some, if_true]
    show (bif Nat.ble (1 + (Lib.decDigits n.natAbs).length) 268435456 then some (([45] ++ Lib.decDigits n.natAbs, ()), ()) else none) = _
    rw [hb]
    rfl
  · have e : n = (n.toNat : Int) := by omega
    unfold Lib.itoa
    rw [if_neg h]
    conv => lhs; rw [e]
    exact digits_nat 9 K n.toNat (by omega) (by omega) (by omega)

theorem Itoa_eq (n : Int) (h1 : -1000000 ≤ n) (h2 : n ≤ 1000000) : R.strconv_Itoa K n = some ((Lib.itoa n, ()), ()) := by
  unfold R.strconv_Itoa itoaF
  simp [show (-9223372036854775808 : Int) ≤ n by omega, show n ≤ 9223372036854775807 by omega]

theorem itoa_len (n : Int) (h1 : -1000000 ≤ n) (h2 : n ≤ 1000000) : (Lib.itoa n).length ≤ 11 := by
  have p10 : (10 : Nat) ^ (9 + 1) = 10000000000 := by decide
  unfold Lib.itoa
  split
  · have := decDigits_len 9 n.natAbs (by omega)
    simp; omega
  · have := decDigits_len 9 n.toNat (by omega)
    omega

/-- a loop that makes a list longer and longer -/
theorem app_ok {α τ : Type} {L : Nat → Nat → List α → Option τ} {len : Nat} {g : Nat → α} {fin : List α → τ} (h0 : ∀ n s, L (n + 1) len s = some (fin s))
    (h1 : ∀ n i s, i < len → s.length ≤ i → L (n + 1) i s = L n (i + 1) (s ++ [g i])) :
    ∀ (m i n : Nat) (s : List α), i + m = len → m < n → s.length ≤ i → L n i s = some (fin (s ++ (List.range' i m).map g))
  | 0, i, n + 1, s, hi, _, _ => by
    have : i = len := by omega
    subst this
    rw [h0]
    simp
  | m + 1, i, n + 1, s, hi, hn, hs => by
    rw [h1 n i s (by omega) hs, app_ok h0 h1 m (i + 1) n (s ++ [g i]) (by omega) (by omega) (by simp; omega), List.range'_succ, List.map_cons, List.append_assoc]
    rfl

theorem join_tail {sep : List UInt8} : ∀ (x : List UInt8) (r : List (List UInt8)), Lib.join (x :: r) sep = x ++ (r.map (sep ++ ·)).flatten
  | x, [] => by simp [Lib.join, List.intercalate]
  | x, y :: r => by
    have ih := join_tail (sep := sep) y r
    unfold Lib.join at ih ⊢
    rw [List.map_cons, List.flatten_cons, ← List.append_assoc, List.append_assoc x, List.append_assoc sep, ← ih]
    simp [List.intercalate, List.intersperse, List.append_assoc]

/-- words with a sign between, told by their places -/
theorem join_cat (w : Nat → List UInt8) (sep : List UInt8) : ∀ (m : Nat), Lib.join ((List.range' 0 (m + 1)).map w) sep = ((List.range' 0 (m + 1)).map fun i => (if i = 0 then [] else sep) ++ w i).flatten := fun m => by
  rw [List.range'_succ, List.map_cons, join_tail, List.map_cons, List.flatten_cons]
  congr 1
  rw [List.map_map]
  congr 1
  apply List.map_congr_left
  intro i hi
  have : i ≠ 0 := by simp at hi; omega
  simp [this]

/-- a text of words: '-' of none -/
def wordsTxt (w : Nat → List UInt8) (n : Nat) : List UInt8 := if n = 0 then [45] else Lib.join ((List.range' 0 n).map w) [44]

theorem wordsTxt_len {w : Nat → List UInt8} {B : Nat} {n : Nat} (h : ∀ i, i < n → (w i).length ≤ B) : (wordsTxt w n).length ≤ 1 + n * (B + 1) := by
  unfold wordsTxt
  split
  · simp
  · obtain ⟨m, rfl⟩ : ∃ m, n = m + 1 := ⟨n - 1, by omega⟩
    rw [join_cat]
    have := cat_len (B := B + 1) (g := fun i => (if i = 0 then [] else [44]) ++ w i) (m + 1) 0 (fun j _ hj => by
      have := h j (by omega)
      split <;> simp <;> omega)
    omega

theorem join_len {w : Nat → List UInt8} {B : Nat} {n : Nat} (hn : n ≠ 0) (h : ∀ i, i < n → (w i).length ≤ B) : (Lib.join ((List.range' 0 n).map w) [44]).length ≤ 1 + n * (B + 1) := by
  have := wordsTxt_len h
  unfold wordsTxt at this
  rw [if_neg hn] at this
  exact this

theorem listed_eq (w : Nat → List UInt8) (n : Nat) (hn : n ≤ 10000) (h : ∀ i, i < n → (w i).length ≤ 1000) : R.impl_listed K ((List.range' 0 n).map w) = some ((wordsTxt w n, ()), ()) := by
  unfold R.impl_listed wordsTxt
  have hl : ((List.range' 0 n).map w).length = n := by simp
  rw [hl, int0]
  by_cases h0 : n = 0
  · simp [h0]
  · have jl := join_len h0 h
    have b1 : Nat.ble n maxGrow = true := Nat.ble_eq_true_of_le (by unfold maxGrow; omega)
    have b2 : Nat.ble (Lib.join ((List.range' 0 n).map w) [44]).length maxGrow = true := Nat.ble_eq_true_of_le (by unfold maxGrow; omega)
    have e : R.strings_Join K ((List.range' 0 n).map w) [44] = some ((Lib.join ((List.range' 0 n).map w) [44], ()), ()) := by
      unfold R.strings_Join joinF
      rw [hl, b1, b2]
      rfl
    simp only [h0, decide_false, cond_false, if_false]
    show obind (R.strings_Join K ((List.range' 0 n).map w) [44]) _ = _
    rw [e]
    rfl


def entTxt (e : En) : List UInt8 := e.1 ++ [61] ++ Lib.itoa e.2

def mapTxt (m : List En) : List UInt8 := wordsTxt (fun i => entTxt (m.getD i ([], 0))) m.length

theorem entTxt_len (e : En) (h : e.1.length ≤ 12 ∧ -1000000 ≤ e.2 ∧ e.2 ≤ 1000000) : (entTxt e).length ≤ 24 := by
  have := itoa_len e.2 h.2.1 h.2.2
  unfold entTxt
  simp; omega

theorem l13Map_eq (hK : 9223372036854775807 < K) (m : List En) (hm : m.length ≤ 12) (he : ∀ e ∈ m, e.1.length ≤ 12 ∧ -1000000 ≤ e.2 ∧ e.2 ≤ 1000000) : R.spec_l13Map K m = some ((mapTxt m, ()), ()) := by
  unfold R.spec_l13Map mapTxt wordsTxt
  rw [int0]
  by_cases h0 : m.length = 0
  · simp [h0]
  · have hg : ∀ i, i < m.length → _ := fun i hi => he _ (getD_mem ([], 0) hi)
    have := cat_ok (L := fun n i s => R.L_spec_l13Map_0 K n (m, [], s, (i : Nat), ())) (len := m.length) (A := 100) (B := 25) (g := fun i => (if i = 0 then [] else [44]) ++ entTxt (m.getD i ([], 0))) (fin := fun s => Sum.inl ([], s, ()))
      (fun i hi => by have := entTxt_len _ (hg i hi); split <;> simp only [List.length_append, List.length_cons, List.length_nil] <;> omega)
      (fun n s => by simp only [R.L_spec_l13Map_0, idx_end, cond_false]) (fun n i s hi hs => by
        have g := hg i hi
        have gl := entTxt_len _ g
        unfold entTxt at gl
        simp only [List.length_append, List.length_cons, List.length_nil] at gl
        have b1 : Nat.ble ((m.getD i ([], 0)).1.length + 1) 268435456 = true := ble_of (by omega)
        have b2 : Nat.ble ((m.getD i ([], 0)).1.length + 1 + (Lib.itoa (m.getD i ([], 0)).2).length) 268435456 = true := ble_of (by omega)
        have b3 : Nat.ble (s.length + ((m.getD i ([], 0)).1.length + 1 + (Lib.itoa (m.getD i ([], 0)).2).length)) 268435456 = true := ble_of (by omega)
        have b4 : Nat.ble (s.length + 1) 268435456 = true := ble_of (by omega)
        have b5 : Nat.ble (s.length + 1 + ((m.getD i ([], 0)).1.length + 1 + (Lib.itoa (m.getD i ([], 0)).2).length)) 268435456 = true := ble_of (by omega)
        have b6 : Nat.ble (s.length + 1 + ((m.getD i ([], 0)).1.length + (1 + (Lib.itoa (m.getD i ([], 0)).2).length))) 268435456 = true := ble_of (by omega)
        by_cases hi0 : i = 0
        · subst hi0
          simp only [R.L_spec_l13Map_0, wrap_succ hi (by omega), idx_lt hi, idx_nn, Bool.and_self, Int.toNat_natCast, cond_true, show ¬ ((((0 : Nat) : Int)) > 0) by omega, decide_false, cond_false, digits_eq hK _ g.2.1 g.2.2, obind_some, List.length_append, List.length_cons, List.length_nil, Nat.zero_add, b1, b2, b3, entTxt, if_true, List.nil_append]
        · simp only [R.L_spec_l13Map_0, wrap_succ hi (by omega), idx_lt hi, idx_nn, Bool.and_self, Int.toNat_natCast, cond_true, show ((i : Nat) : Int) > 0 by omega, decide_true, digits_eq hK _ g.2.1 g.2.2, obind_some, List.length_append, List.length_cons, List.length_nil, Nat.zero_add, b1, b2, b4, b5, b6, entTxt, hi0, if_false, List.append_assoc])
      m.length 0 K [] (by omega) (by omega) (by simp)
    have this : R.L_spec_l13Map_0 K K (m, [], [], 0, ()) = _ := this
    simp only [h0, decide_false, cond_false, if_false]
    show obind (R.L_spec_l13Map_0 K K (m, [], [], 0, ())) _ = _
    rw [this]
    obtain ⟨k, hk⟩ : ∃ k, m.length = k + 1 := ⟨m.length - 1, by omega⟩
    rw [hk, join_cat]
    rfl

theorem mapText_eq (hK : 9223372036854775807 < K) (m : List En) (hm : m.length ≤ 12) (he : ∀ e ∈ m, e.1.length ≤ 12 ∧ -1000000 ≤ e.2 ∧ e.2 ≤ 1000000) : R.impl_mapText K m = some ((mapTxt m, ()), ()) := by
  have hg : ∀ i, i < m.length → _ := fun i hi => he _ (getD_mem ([], 0) hi)
  have := app_ok (L := fun n i s => R.L_impl_mapText_0 K n ([], m, (m.length : Int), (i : Nat), s, ())) (len := m.length) (g := fun i => entTxt (m.getD i ([], 0))) (fin := fun s => Sum.inl ([], s, ()))
    (fun n s => by simp only [R.L_impl_mapText_0, idx_end, cond_false]) (fun n i s hi hs => by
      have g := hg i hi
      have gl := entTxt_len _ g
      unfold entTxt at gl
      simp only [List.length_append, List.length_cons, List.length_nil] at gl
      have b1 : Nat.ble ((m.getD i ([], 0)).1.length + 1) 268435456 = true := ble_of (by omega)
      have b2 : Nat.ble ((m.getD i ([], 0)).1.length + 1 + (Lib.itoa (m.getD i ([], 0)).2).length) 268435456 = true := ble_of (by omega)
      have b3 : Nat.ble (s.length + 1) 268435456 = true := ble_of (by omega)
      simp only [R.L_impl_mapText_0, wrap_succ hi (by omega), idx_lt hi, idx_nn, Bool.and_self, Int.toNat_natCast, cond_true, Itoa_eq _ g.2.1 g.2.2, obind_some, List.length_append, List.length_cons, List.length_nil, Nat.zero_add, b1, b2, b3, entTxt])
    m.length 0 K [] (by omega) (by omega) (by simp)
  have this : R.L_impl_mapText_0 K K ([], m, (m.length : Int), 0, [], ()) = _ := this
  unfold R.impl_mapText mapTxt
  show obind (R.L_impl_mapText_0 K K ([], m, (m.length : Int), 0, [], ())) _ = _
  rw [this]
  simp only [obind_some, List.nil_append, listed_eq (fun i => entTxt (m.getD i ([], 0))) m.length (by omega) (fun i hi => by have := entTxt_len _ (hg i hi); omega)]
end Go.Proofs.Pure
