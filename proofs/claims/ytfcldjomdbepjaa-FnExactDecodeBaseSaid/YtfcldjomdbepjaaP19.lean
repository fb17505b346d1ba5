/- Plain lemmas on what the functions come to. -/
import Derived.Test.YtfcldjomdbepjaaP11
namespace Go.Proofs.Pure
open Go Fw
set_option linter.all false
set_option maxRecDepth 100000
variable {K : Nat}

def takeGo (t : List UInt8) (at0 : Nat) : Nat → Nat → Nat → Option (Nat × Nat)
  | 0, _, _ => none
  | f + 1, j, n => if at0 + j < t.length then
      if (t.getD (at0 + j) 0).toNat < 128 then
        (if n + (t.getD (at0 + j) 0).toNat * 2 ^ (7 * j) ≤ 4000000 ∧ (0 < (t.getD (at0 + j) 0).toNat ∨ j = 0) then some (n + (t.getD (at0 + j) 0).toNat * 2 ^ (7 * j), at0 + j + 1) else none)
      else takeGo t at0 f (j + 1) (n + (t.getD (at0 + j) 0).toNat % 128 * 2 ^ (7 * j))
    else none

theorem takeGo_in {t : List UInt8} {at0 : Nat} : ∀ {f j n v nx : Nat}, takeGo t at0 f j n = some (v, nx) → v ≤ 4000000 ∧ nx ≤ t.length
  | 0, _, _, _, _, h => by simp [takeGo] at h
  | f + 1, j, n, v, nx, h => by
    unfold takeGo at h
    split at h
    · rename_i h1
      split at h
      · split at h
        · rename_i h2
          simp only [Option.some.injEq, Prod.mk.injEq] at h
          omega
        · cases h
      · exact takeGo_in h
    · cases h

theorem or_shl (n b j : Nat) (hn : n < 2 ^ (7 * j)) (hb : b < 128) (hj : j ≤ 3) : bitsOf .or .i64 (n : Int) (((b * 2 ^ (7 * j) : Nat)) : Int) = ((n + b * 2 ^ (7 * j) : Nat) : Int) := by
  unfold bitsOf
  have hp : (2 : Nat) ^ (7 * j) ≤ 2 ^ 21 := Nat.pow_le_pow_right (by omega) (by omega)
  have e21 : (2 : Nat) ^ 21 = 2097152 := by decide
  have h2 : b * 2 ^ (7 * j) ≤ 127 * 2097152 := Nat.mul_le_mul (by omega) (by omega)
  have h3 : (BitVec.ofInt IntKind.i64.bits (n : Int)).toNat = n := by
    rw [BitVec.toNat_ofInt]
    have : (2 : Int) ^ IntKind.i64.bits = 18446744073709551616 := by decide
    simp only [IntKind.bits] at this ⊢
    omega
  have h4 : (BitVec.ofInt IntKind.i64.bits ((b * 2 ^ (7 * j) : Nat) : Int)).toNat = b * 2 ^ (7 * j) := by
    rw [BitVec.toNat_ofInt]
    simp only [IntKind.bits]
    omega
  have h5 : n ||| b * 2 ^ (7 * j) = n + b * 2 ^ (7 * j) := by
    rw [Nat.or_comm, Nat.mul_comm, ← Nat.two_pow_add_eq_or_of_lt hn]
    omega
  simp only [BitVec.toNat_or, h3, h4, h5]
  exact wrap_id (by omega) (by omega)

theorem shl_seven (b j : Nat) (hb : b < 128) (hj : j ≤ 3) : shlOf .i64 (b : Int) (min (Int.toNat (IntKind.i64.wrap (7 * (j : Int)))) IntKind.i64.bits) = ((b * 2 ^ (7 * j) : Nat) : Int) := by
  have hp : (2 : Nat) ^ (7 * j) ≤ 2 ^ 21 := Nat.pow_le_pow_right (by omega) (by omega)
  have e21 : (2 : Nat) ^ 21 = 2097152 := by decide
  have h2 : b * 2 ^ (7 * j) ≤ 127 * 2097152 := Nat.mul_le_mul (by omega) (by omega)
  have e1 : IntKind.i64.wrap (7 * (j : Int)) = ((7 * j : Nat) : Int) := by rw [wrap_id (by omega) (by omega)]; omega
  have e2 : min (Int.toNat ((7 * j : Nat) : Int)) IntKind.i64.bits = 7 * j := by
    rw [Int.toNat_natCast]
    simp only [IntKind.bits]
    omega
  rw [e1, e2]
  unfold shlOf
  have e3 : (b : Int) * 2 ^ (7 * j) = ((b * 2 ^ (7 * j) : Nat) : Int) := by
    rw [Int.natCast_mul, Int.natCast_pow]; rfl
  rw [e3]
  exact wrap_id (by omega) (by omega)

theorem pow_seven {j n b : Nat} (hn : n < 2 ^ (7 * j)) (hb : b < 128) : n + b * 2 ^ (7 * j) < 2 ^ (7 * (j + 1)) := by
  have : (2 : Nat) ^ (7 * (j + 1)) = 128 * 2 ^ (7 * j) := by
    rw [Nat.mul_add, Nat.pow_add]; omega
  rw [this]
  have : b * 2 ^ (7 * j) ≤ 127 * 2 ^ (7 * j) := Nat.mul_le_mul_right _ (by omega)
  omega

theorem specTake (t : List UInt8) (at0 : Nat) (ht : t.length ≤ 65536) (ha : at0 ≤ t.length) : ∀ (f j n fuel : Nat), f + j = 4 → f < fuel → n < 2 ^ (7 * j) →
    (∀ v nx, takeGo t at0 f j n = some (v, nx) → R.L_spec_l11Take_0 K fuel (t, (at0 : Int), 0, 0, false, (n : Int), ((2 ^ (7 * j) : Nat) : Int), ((at0 + j : Nat) : Int), ()) = some (.inr ((v : Int), (nx : Int), true, ()))) ∧
    (takeGo t at0 f j n = none → R.L_spec_l11Take_0 K fuel (t, (at0 : Int), 0, 0, false, (n : Int), ((2 ^ (7 * j) : Nat) : Int), ((at0 + j : Nat) : Int), ()) = some (.inl (0, 0, false, ())) ∨
      ∃ a b, R.L_spec_l11Take_0 K fuel (t, (at0 : Int), 0, 0, false, (n : Int), ((2 ^ (7 * j) : Nat) : Int), ((at0 + j : Nat) : Int), ()) = some (.inr (a, b, false, ())))
  | 0, j, n, fuel + 1, hj, hf, hn => by
    refine ⟨fun v nx h => by simp [takeGo] at h, fun _ => .inl ?_⟩
    have hj : j = 4 := by omega
    subst hj
    have e1 : IntKind.i64.wrap ((at0 : Int) + 4) = (at0 : Int) + 4 := wrap_id (by omega) (by omega)
    have e2 : decide (((at0 + 4 : Nat) : Int) < (at0 : Int) + 4) = false := by simp
    unfold R.L_spec_l11Take_0
    simp only [e1, e2, cond_false]
    cases decide (((at0 + 4 : Nat) : Int) < (t.length : Int)) <;> rfl
  | f + 1, j, n, fuel + 1, hj, hf, hn => by
    have hp : (2 : Nat) ^ (7 * j) ≤ 2 ^ 21 := Nat.pow_le_pow_right (by omega) (by omega)
    have e21 : (2 : Nat) ^ 21 = 2097152 := by decide
    have e1 : IntKind.i64.wrap ((at0 : Int) + 4) = (at0 : Int) + 4 := wrap_id (by omega) (by omega)
    have e2 : decide (((at0 + j : Nat) : Int) < (at0 : Int) + 4) = true := by simp; omega
    by_cases hl : at0 + j < t.length
    · have hb256 : (t.getD (at0 + j) 0).toNat < 256 := (t.getD (at0 + j) 0).toNat_lt
      have e3 : IntKind.i64.wrap ((t.getD (at0 + j) 0).toNat : Int) = ((t.getD (at0 + j) 0).toNat : Int) := wrap_id (by omega) (by omega)
      unfold takeGo
      simp only [hl, if_true, R.L_spec_l11Take_0, e1, e2, e3, idx_lt hl, idx_nn, Bool.and_self, cond_true, Int.toNat_natCast]
      generalize (t.getD (at0 + j) 0).toNat = b at hb256
      have em : Int.tmod (b : Int) 128 = ((b % 128 : Nat) : Int) := by rw [Int.tmod_eq_emod_of_nonneg (by omega)]; omega
      have hbm : b % 128 * 2 ^ (7 * j) ≤ 127 * 2097152 := Nat.mul_le_mul (by omega) (by omega)
      have e4 : IntKind.i64.wrap ((n : Int) + IntKind.i64.wrap (((b % 128 : Nat) : Int) * ((2 ^ (7 * j) : Nat) : Int))) = ((n + b % 128 * 2 ^ (7 * j) : Nat) : Int) := by
        rw [← Int.natCast_mul, wrap_id (n := ((b % 128 * 2 ^ (7 * j) : Nat) : Int)) (by omega) (by omega), wrap_id (by omega) (by omega)]; omega
      have e5 : IntKind.i64.wrap (((at0 + j : Nat) : Int) + 1) = ((at0 + j + 1 : Nat) : Int) := by rw [wrap_id (by omega) (by omega)]; omega
      by_cases h128 : b < 128
      · have e6 : decide ((b : Int) < 128) = true := by simp; omega
        have hmod : b % 128 = b := by omega
        simp only [em, e4, e5, e6, cond_true, h128, if_true]
        rw [hmod]
        clear hbm e4
        generalize b * 2 ^ (7 * j) = Z
        by_cases hbig : n + Z ≤ 4000000
        · have e7 : decide (((n + Z : Nat) : Int) ≤ 4000000) = true := by simp; omega
          simp only [e7, cond_true, hbig, true_and]
          by_cases hb0 : 0 < b
          · have e8 : decide ((b : Int) > 0) = true := by simp; omega
            simp only [e8, cond_true, hb0, true_or, if_true]
            exact ⟨fun v nx h => by simp only [Option.some.injEq, Prod.mk.injEq] at h; obtain ⟨rfl, rfl⟩ := h; rfl, fun h => by cases h⟩
          · have e8 : decide ((b : Int) > 0) = false := by simp; omega
            simp only [e8, cond_false, hb0, false_or]
            by_cases hj0 : j = 0
            · subst hj0
              simp only [if_true]
              refine ⟨fun v nx h => ?_, fun h => by cases h⟩
              simp only [Option.some.injEq, Prod.mk.injEq] at h
              obtain ⟨rfl, rfl⟩ := h
              simp
            · have : (((at0 + j : Nat) : Int) == (at0 : Int)) = false := by simp; omega
              simp only [hj0, if_false, this]
              exact ⟨fun v nx h => (by cases h), fun _ => .inr ⟨_, _, rfl⟩⟩
        · have e7 : decide (((n + Z : Nat) : Int) ≤ 4000000) = false := by simp; omega
          simp only [e7, cond_false, hbig, false_and, if_false]
          exact ⟨fun v nx h => (by cases h), fun _ => .inr ⟨_, _, rfl⟩⟩
      · have e6 : decide ((b : Int) < 128) = false := by simp; omega
        have e7 : IntKind.i64.wrap (((2 ^ (7 * j) : Nat) : Int) * 128) = ((2 ^ (7 * (j + 1)) : Nat) : Int) := by
          have : (2 : Nat) ^ (7 * (j + 1)) = 2 ^ (7 * j) * 128 := by rw [Nat.mul_add, Nat.pow_add]
          rw [wrap_id (by omega) (by omega), this]; omega
        simp only [em, e4, e5, e6, e7, cond_false, h128, if_false]
        exact specTake t at0 ht ha f (j + 1) (n + b % 128 * 2 ^ (7 * j)) fuel (by omega) (by omega) (pow_seven hn (by omega))
    · have e3 : decide (((at0 + j : Nat) : Int) < (t.length : Int)) = false := by simp; omega
      unfold takeGo
      simp only [hl, if_false, R.L_spec_l11Take_0, e3, cond_false]
      exact ⟨fun v nx h => (by cases h), fun _ => .inl (by first | rfl | trivial)⟩

theorem implTake (t : List UInt8) (at0 : Nat) (ht : t.length ≤ 65536) (ha : at0 ≤ t.length) : ∀ (f j n fuel : Nat), f + j = 4 → f < fuel → n < 2 ^ (7 * j) →
    R.L_impl_reader_number_0 K fuel (0, (n : Int), (j : Int), t, (at0 : Int), false, ()) = some (match takeGo t at0 f j n with | some (v, nx) => .inr ((v : Int), t, (nx : Int), false, ()) | none => .inl (0, t, (at0 : Int), false, ()))
  | 0, j, n, fuel + 1, hj, hf, hn => by
    have e2 : decide ((j : Int) < 4) = false := by simp; omega
    simp only [R.L_impl_reader_number_0, e2, cond_false, takeGo]
  | f + 1, j, n, fuel + 1, hj, hf, hn => by
    have hp : (2 : Nat) ^ (7 * j) ≤ 2 ^ 21 := Nat.pow_le_pow_right (by omega) (by omega)
    have e21 : (2 : Nat) ^ 21 = 2097152 := by decide
    have e2 : decide ((j : Int) < 4) = true := by simp; omega
    have e1 : IntKind.i64.wrap ((at0 : Int) + (j : Int)) = ((at0 + j : Nat) : Int) := by rw [wrap_id (by omega) (by omega)]; omega
    by_cases hl : at0 + j < t.length
    · have hge : decide (((at0 + j : Nat) : Int) ≥ (t.length : Int)) = false := by simp; omega
      have hb256 : (t.getD (at0 + j) 0).toNat < 256 := (t.getD (at0 + j) 0).toNat_lt
      have e3 : IntKind.i64.wrap ((t.getD (at0 + j) 0).toNat : Int) = ((t.getD (at0 + j) 0).toNat : Int) := wrap_id (by omega) (by omega)
      have e9 : decide (0 ≤ IntKind.i64.wrap (7 * (j : Int))) = true := by rw [wrap_id (by omega) (by omega)]; simp; omega
      have hand := and127 (t.getD (at0 + j) 0).toNat (by omega)
      have hshl := shl_seven ((t.getD (at0 + j) 0).toNat % 128) j (by omega) (by omega)
      have hor := or_shl n ((t.getD (at0 + j) 0).toNat % 128) j hn (by omega) (by omega)
      unfold takeGo
      simp only [hl, if_true, R.L_impl_reader_number_0, e1, e2, e3, e9, hge, cond_true, cond_false, idx_lt hl, idx_nn, Bool.and_self, Int.toNat_natCast, hand, hshl, hor]
      clear hand hshl hor e3
      generalize (t.getD (at0 + j) 0).toNat = b at hb256
      have hbm : b % 128 * 2 ^ (7 * j) ≤ 127 * 2097152 := Nat.mul_le_mul (by omega) (by omega)
      have e10 : IntKind.i64.wrap ((j : Int) + 1) = ((j + 1 : Nat) : Int) := by rw [wrap_id (by omega) (by omega)]; omega
      have e11 : IntKind.i64.wrap ((at0 : Int) + ((j + 1 : Nat) : Int)) = ((at0 + j + 1 : Nat) : Int) := by rw [wrap_id (by omega) (by omega)]; omega
      by_cases h128 : b < 128
      · have e6 : decide ((b : Int) < 128) = true := by simp; omega
        have hmod : b % 128 = b := by omega
        simp only [e6, e10, e11, cond_true, h128, if_true]
        rw [hmod]
        clear hbm
        by_cases hb0 : b = 0
        · subst hb0
          by_cases hj0 : j = 0
          · subst hj0
            have hn0 : n = 0 := by simpa using hn
            subst hn0
            simp
          · have e8 : decide ((j : Int) > 0) = true := by simp; omega
            have e9 : 0 < j := by omega
            simp [e9, hj0]
        · have e7 : ((b : Int) == 0) = false := by simp; omega
          have hb0' : 0 < b := by omega
          simp only [e7, cond_false, hb0', true_or, and_true]
          generalize b * 2 ^ (7 * j) = Z
          by_cases hbig : n + Z ≤ 4000000
          · have e7 : decide (((n + Z : Nat) : Int) > 4000000) = false := by simp; omega
            simp only [e7, cond_false, hbig, if_true]
          · have e7 : decide (((n + Z : Nat) : Int) > 4000000) = true := by simp; omega
            simp only [e7, cond_true, hbig, if_false]
      · have e6 : decide ((b : Int) < 128) = false := by simp; omega
        simp only [e6, e10, cond_false, h128, if_false]
        exact implTake t at0 ht ha f (j + 1) (n + b % 128 * 2 ^ (7 * j)) fuel (by omega) (by omega) (pow_seven hn (by omega))
    · have hge : decide (((at0 + j : Nat) : Int) ≥ (t.length : Int)) = true := by simp; omega
      unfold takeGo
      simp only [hl, if_false, R.L_impl_reader_number_0, e1, e2, hge, cond_true, cond_false]


abbrev RSt := Nat × Bool

def nuM (t : List UInt8) (s : RSt) : Nat × RSt := if s.2 = true then (0, (s.1, true)) else match takeGo t s.1 4 0 0 with | some (v, nx) => (v, (nx, false)) | none => (0, (s.1, true))

def fewM (t : List UInt8) (most : Nat) (s : RSt) : Nat × RSt := if (nuM t s).1 > most then (0, ((nuM t s).2.1, true)) else nuM t s

def textM (t : List UInt8) (s : RSt) : List UInt8 × RSt :=
  if (fewM t 12 s).2.2 = true then ([], ((fewM t 12 s).2.1, true)) else if (fewM t 12 s).2.1 + (fewM t 12 s).1 > t.length then ([], ((fewM t 12 s).2.1, true)) else ((t.take ((fewM t 12 s).2.1 + (fewM t 12 s).1)).drop (fewM t 12 s).2.1, ((fewM t 12 s).2.1 + (fewM t 12 s).1, false))

def valM (n : Nat) : Int := if (n : Int).tmod 2 == 1 then IntKind.i64.wrap (Int.tdiv (IntKind.i64.wrap (0 - IntKind.i64.wrap ((n : Int) + 1))) 2) else IntKind.i64.wrap (Int.tdiv (n : Int) 2)

def rep {σ α : Type} (f : σ → α × σ) : Nat → σ → List α × σ
  | 0, s => ([], s)
  | k + 1, s => ((f s).1 :: (rep f k (f s).2).1, (rep f k (f s).2).2)

/-- the same, but that it ends where something is wrong -/
def repB {α : Type} (f : RSt → α × RSt) : Nat → RSt → List α × RSt
  | 0, s => ([], s)
  | k + 1, s => if s.2 = true then ([], s) else ((f s).1 :: (repB f k (f s).2).1, (repB f k (f s).2).2)

def numI (t : List UInt8) (s : RSt) : Int × RSt := (((nuM t s).1 : Int), (nuM t s).2)

def entM (t : List UInt8) (s : RSt) : En × RSt := (((textM t s).1, valM (nuM t (textM t s).2).1), (nuM t (textM t s).2).2)

def comM (t : List UInt8) (s : RSt) : Cm × RSt :=
  let a := fewM t 2 s
  let b := rep (numI t) a.1 a.2
  let c := fewM t 12 b.2
  let d := rep (entM t) c.1 c.2
  ((b.1, d.1), d.2)

def refM (t : List UInt8) (s : RSt) : Rf × RSt :=
  let a := textM t s
  let b := nuM t a.2
  let c := nuM t b.2
  ((a.1, (c.1 : Int), (b.1 : Int), (c.1 : Int) == 0), c.2)

/-- it never reads beyond the end; what was wrong stays wrong -/
def Good {α : Type} (t : List UInt8) (f : RSt → α × RSt) : Prop := ∀ s : RSt, s.1 ≤ t.length → (f s).2.1 ≤ t.length ∧ (s.2 = true → (f s).2.2 = true)

theorem nuM_good (t : List UInt8) : Good t (nuM t) := fun s hs => by
  unfold nuM
  split
  · exact ⟨hs, fun _ => rfl⟩
  · rename_i h
    split
    · rename_i v nx e
      exact ⟨(takeGo_in e).2, fun h' => absurd h' h⟩
    · exact ⟨hs, fun _ => rfl⟩

theorem fewM_good (t : List UInt8) (m : Nat) : Good t (fewM t m) := fun s hs => by
  have := nuM_good t s hs
  unfold fewM
  split
  · exact ⟨this.1, fun _ => rfl⟩
  · exact this

theorem fewM_le (t : List UInt8) (m : Nat) (s : RSt) : (fewM t m s).1 ≤ m := by
  unfold fewM
  split
  · simp
  · omega

theorem textM_good (t : List UInt8) : Good t (textM t) := fun s hs => by
  have := fewM_good t 12 s hs
  unfold textM
  split
  · exact ⟨this.1, fun _ => rfl⟩
  · rename_i h
    split
    · exact ⟨this.1, fun _ => rfl⟩
    · exact ⟨by simp only; omega, fun h' => absurd (this.2 h') h⟩

theorem textM_le (t : List UInt8) (s : RSt) : (textM t s).1.length ≤ 12 := by
  have := fewM_le t 12 s
  unfold textM
  split
  · simp
  · split
    · simp
    · simp; omega

theorem Good.rep {α : Type} {t : List UInt8} {f : RSt → α × RSt} (h : Good t f) : ∀ k, Good t (rep f k)
  | 0 => fun s hs => ⟨hs, fun h => h⟩
  | k + 1 => fun s hs => by
    have h1 := h s hs
    have h2 := Good.rep h k (f s).2 h1.1
    exact ⟨h2.1, fun e => h2.2 (h1.2 e)⟩

theorem numI_good (t : List UInt8) : Good t (numI t) := nuM_good t

theorem entM_good (t : List UInt8) : Good t (entM t) := fun s hs => by
  have h1 := textM_good t s hs
  have h2 := nuM_good t _ h1.1
  exact ⟨h2.1, fun e => h2.2 (h1.2 e)⟩

theorem comM_good (t : List UInt8) : Good t (comM t) := fun s hs => by
  have h1 := fewM_good t 2 s hs
  have h2 := Good.rep (numI_good t) (fewM t 2 s).1 _ h1.1
  have h3 := fewM_good t 12 _ h2.1
  have h4 := Good.rep (entM_good t) (fewM t 12 (rep (numI t) (fewM t 2 s).1 (fewM t 2 s).2).2).1 _ h3.1
  exact ⟨h4.1, fun e => h4.2 (h3.2 (h2.2 (h1.2 e)))⟩

theorem refM_good (t : List UInt8) : Good t (refM t) := fun s hs => by
  have h1 := textM_good t s hs
  have h2 := nuM_good t _ h1.1
  have h3 := nuM_good t _ h2.1
  exact ⟨h3.1, fun e => h3.2 (h2.2 (h1.2 e))⟩

theorem Good.repB {α : Type} {t : List UInt8} {f : RSt → α × RSt} (h : Good t f) : ∀ k, Good t (repB f k)
  | 0 => fun s hs => ⟨hs, fun h => h⟩
  | k + 1 => fun s hs => by
    unfold Pure.repB
    split
    · exact ⟨hs, fun h => h⟩
    · have h1 := h s hs
      have h2 := Good.repB h k (f s).2 h1.1
      exact ⟨h2.1, fun e => h2.2 (h1.2 e)⟩

theorem rep_bad {α : Type} {t : List UInt8} {f : RSt → α × RSt} (h : Good t f) : ∀ (k : Nat) (s : RSt), s.1 ≤ t.length → ((rep f k s).2.2 = true ∧ (repB f k s).2.2 = true) ∨ repB f k s = rep f k s
  | 0, s, hs => .inr rfl
  | k + 1, s, hs => by
    have h1 := h s hs
    by_cases hb : s.2 = true
    · refine .inl ⟨(Good.rep h (k + 1) s hs).2 hb, ?_⟩
      unfold repB
      rw [if_pos hb]
      exact hb
    · rcases rep_bad h k (f s).2 h1.1 with ⟨g1, g2⟩ | g
      · refine .inl ⟨g1, ?_⟩
        unfold repB
        rw [if_neg hb]
        exact g2
      · right
        unfold repB rep
        rw [if_neg hb, g]

theorem rep_len {σ α : Type} (f : σ → α × σ) : ∀ k s, (rep f k s).1.length = k
  | 0, s => rfl
  | k + 1, s => by simp [rep, rep_len f k]

theorem rep_all {σ α : Type} {f : σ → α × σ} {Q : α → Prop} (h : ∀ s, Q (f s).1) : ∀ k s, ∀ x ∈ (rep f k s).1, Q x
  | 0, s, x, hx => by simp [rep] at hx
  | k + 1, s, x, hx => by
    simp only [rep, List.mem_cons] at hx
    rcases hx with rfl | hx
    · exact h s
    · exact rep_all h k _ x hx

theorem specNum (hK : 9223372036854775807 < K) (t : List UInt8) (ht : t.length ≤ 65536) (s : RSt) (hs : s.1 ≤ t.length) : R.spec_l11Reader_number K (t, (s.1 : Int), s.2) = some ((((nuM t s).1 : Int), ()), (t, ((nuM t s).2.1 : Int), (nuM t s).2.2), ()) := by
  obtain ⟨h1, h2⟩ := specTake (K := K) t s.1 ht hs 4 0 0 K rfl (by omega) (by simp)
  have tk : ∃ v nx ok, R.spec_l11Take K t (s.1 : Int) = some ((v, nx, ok, ()), ()) ∧ (∀ v' nx', takeGo t s.1 4 0 0 = some (v', nx') → v = (v' : Int) ∧ nx = (nx' : Int) ∧ ok = true) ∧ (takeGo t s.1 4 0 0 = none → ok = false) := by
    unfold R.spec_l11Take
    cases e : takeGo t s.1 4 0 0 with
    | some p =>
      obtain ⟨v, nx⟩ := p
      have := h1 v nx e
      have this : R.L_spec_l11Take_0 K K (t, (s.1 : Int), 0, 0, false, 0, 1, (s.1 : Int), ()) = _ := this
      rw [this]
      exact ⟨_, _, _, rfl, fun v' nx' e' => by simp only [Option.some.injEq, Prod.mk.injEq] at e'; obtain ⟨rfl, rfl⟩ := e'; exact ⟨rfl, rfl, rfl⟩, fun h => by cases h⟩
    | none =>
      rcases h2 e with h | ⟨a, b, h⟩
      · have this : R.L_spec_l11Take_0 K K (t, (s.1 : Int), 0, 0, false, 0, 1, (s.1 : Int), ()) = _ := h
        rw [this]
        exact ⟨_, _, _, rfl, fun v' nx' e' => (by cases e'), fun _ => rfl⟩
      · have this : R.L_spec_l11Take_0 K K (t, (s.1 : Int), 0, 0, false, 0, 1, (s.1 : Int), ()) = _ := h
        rw [this]
        exact ⟨_, _, _, rfl, fun v' nx' e' => (by cases e'), fun _ => rfl⟩
  obtain ⟨v, nx, ok, e0, k1, k2⟩ := tk
  unfold R.spec_l11Reader_number nuM
  simp only [e0, obind_some]
  cases hb : s.2 with
  | true => simp
  | false =>
    cases e : takeGo t s.1 4 0 0 with
    | some p =>
      obtain ⟨v', nx'⟩ := p
      obtain ⟨rfl, rfl, rfl⟩ := k1 v' nx' e
      simp
    | none =>
      have := k2 e
      subst this
      simp

theorem implNum (hK : 9223372036854775807 < K) (t : List UInt8) (ht : t.length ≤ 65536) (s : RSt) (hs : s.1 ≤ t.length) : R.impl_reader_number K (t, (s.1 : Int), s.2) = some ((((nuM t s).1 : Int), ()), (t, ((nuM t s).2.1 : Int), (nuM t s).2.2), ()) := by
  unfold R.impl_reader_number nuM
  cases hb : s.2 with
  | true =>
    obtain ⟨k, rfl⟩ : ∃ k, K = k + 1 := ⟨K - 1, by omega⟩
    simp [R.L_impl_reader_number_0, obind]
  | false =>
    have := implTake (K := K) t s.1 ht hs 4 0 0 K rfl (by omega) (by simp)
    have this : R.L_impl_reader_number_0 K K (0, 0, 0, t, (s.1 : Int), false, ()) = _ := this
    simp only [this, obind_some]
    cases e : takeGo t s.1 4 0 0 with
    | some p => simp
    | none => simp

theorem nuM_few {n m : Nat} : decide ((n : Int) > (m : Int)) = decide (n > m) := by
  rw [Bool.eq_iff_iff]; simp

theorem specFew (hK : 9223372036854775807 < K) (t : List UInt8) (ht : t.length ≤ 65536) (m : Nat) (s : RSt) (hs : s.1 ≤ t.length) : R.spec_l11Reader_count K (t, (s.1 : Int), s.2) (m : Int) = some ((((fewM t m s).1 : Int), ()), (t, ((fewM t m s).2.1 : Int), (fewM t m s).2.2), ()) := by
  unfold R.spec_l11Reader_count fewM
  simp only [specNum hK t ht s hs, obind_some, nuM_few]
  by_cases h : (nuM t s).1 > m <;> simp [h]

theorem implFew (hK : 9223372036854775807 < K) (t : List UInt8) (ht : t.length ≤ 65536) (m : Nat) (s : RSt) (hs : s.1 ≤ t.length) : R.impl_reader_few K (t, (s.1 : Int), s.2) (m : Int) = some ((((fewM t m s).1 : Int), ()), (t, ((fewM t m s).2.1 : Int), (fewM t m s).2.2), ()) := by
  unfold R.impl_reader_few fewM
  simp only [implNum hK t ht s hs, obind_some, nuM_few]
  by_cases h : (nuM t s).1 > m <;> simp [h]

theorem specText (hK : 9223372036854775807 < K) (t : List UInt8) (ht : t.length ≤ 65536) (s : RSt) (hs : s.1 ≤ t.length) : R.spec_l11Reader_word K (t, (s.1 : Int), s.2) = some (((textM t s).1, ()), (t, ((textM t s).2.1 : Int), (textM t s).2.2), ()) := by
  have g := fewM_good t 12 s hs
  have gl := fewM_le t 12 s
  have e0 := specFew hK t ht 12 s hs
  have e0 : R.spec_l11Reader_count K (t, (s.1 : Int), s.2) 12 = _ := e0
  unfold R.spec_l11Reader_word textM
  simp only [e0, obind_some]
  generalize fewM t 12 s = q at g gl
  obtain ⟨n, at1, bad⟩ := q
  simp only at g gl ⊢
  cases bad with
  | true => simp
  | false =>
    have w1 : IntKind.i64.wrap ((at1 : Int) + (n : Int)) = ((at1 + n : Nat) : Int) := by rw [wrap_id (by omega) (by omega)]; omega
    have w2 : IntKind.i64.wrap (((at1 + n : Nat) : Int) - (n : Int)) = (at1 : Int) := by rw [wrap_id (by omega) (by omega)]; omega
    simp only [w1, w2, cond_false, Bool.false_eq_true, if_false]
    by_cases h : at1 + n > t.length
    · have e1 : decide (((at1 + n : Nat) : Int) > (t.length : Int)) = true := by simp; omega
      simp only [e1, cond_true, h, if_true]
    · have e1 : decide (((at1 + n : Nat) : Int) > (t.length : Int)) = false := by simp; omega
      have e2 : decide (((at1 + n : Nat) : Int) ≤ (t.length : Int)) = true := by simp; omega
      have e3 : decide ((at1 : Int) ≤ ((at1 + n : Nat) : Int)) = true := by simp; omega
      simp only [e1, e2, e3, idx_nn, Bool.and_self, cond_true, cond_false, h, if_false, Int.toNat_natCast]

theorem implText (hK : 9223372036854775807 < K) (t : List UInt8) (ht : t.length ≤ 65536) (s : RSt) (hs : s.1 ≤ t.length) : R.impl_reader_text K (t, (s.1 : Int), s.2) 12 = some (((textM t s).1, ()), (t, ((textM t s).2.1 : Int), (textM t s).2.2), ()) := by
  have g := fewM_good t 12 s hs
  have gl := fewM_le t 12 s
  have e0 := implFew hK t ht 12 s hs
  have e0 : R.impl_reader_few K (t, (s.1 : Int), s.2) 12 = _ := e0
  unfold R.impl_reader_text textM
  simp only [e0, obind_some]
  generalize fewM t 12 s = q at g gl
  obtain ⟨n, at1, bad⟩ := q
  simp only at g gl ⊢
  cases bad with
  | true => simp
  | false =>
    have w1 : IntKind.i64.wrap ((at1 : Int) + (n : Int)) = ((at1 + n : Nat) : Int) := by rw [wrap_id (by omega) (by omega)]; omega
    have w2 : IntKind.i64.wrap (((at1 + n : Nat) : Int) - (n : Int)) = (at1 : Int) := by rw [wrap_id (by omega) (by omega)]; omega
    simp only [w1, w2, cond_false, Bool.false_eq_true, if_false]
    by_cases h : at1 + n > t.length
    · have e1 : decide (((at1 + n : Nat) : Int) > (t.length : Int)) = true := by simp; omega
      simp only [e1, cond_true, h, if_true]
    · have e1 : decide (((at1 + n : Nat) : Int) > (t.length : Int)) = false := by simp; omega
      have e2 : decide (((at1 + n : Nat) : Int) ≤ (t.length : Int)) = true := by simp; omega
      have e3 : decide ((at1 : Int) ≤ ((at1 + n : Nat) : Int)) = true := by simp; omega
      simp only [e1, e2, e3, idx_nn, Bool.and_self, cond_true, cond_false, h, if_false, Int.toNat_natCast]

theorem specVal (hK : 9223372036854775807 < K) (t : List UInt8) (ht : t.length ≤ 65536) (s : RSt) (hs : s.1 ≤ t.length) : R.spec_l11Reader_signed K (t, (s.1 : Int), s.2) = some ((valM (nuM t s).1, ()), (t, ((nuM t s).2.1 : Int), (nuM t s).2.2), ()) := by
  unfold R.spec_l11Reader_signed valM
  simp only [specNum hK t ht s hs, obind_some]
  cases Int.tmod ((nuM t s).1 : Int) 2 == 1 <;> rfl

theorem implVal (hK : 9223372036854775807 < K) (t : List UInt8) (ht : t.length ≤ 65536) (s : RSt) (hs : s.1 ≤ t.length) : R.impl_reader_value K (t, (s.1 : Int), s.2) = some ((valM (nuM t s).1, ()), (t, ((nuM t s).2.1 : Int), (nuM t s).2.2), ()) := by
  unfold R.impl_reader_value valM
  simp only [implNum hK t ht s hs, obind_some]
  cases Int.tmod ((nuM t s).1 : Int) 2 == 1 <;> rfl


theorem specPar (hK : 9223372036854775807 < K) (t : List UInt8) (ht : t.length ≤ 65536) (q4 : List Int) (q5 : List En) (q7 : List En) : ∀ (k fuel : Nat) (s : RSt) (q6 : List Int), k < fuel → s.1 ≤ t.length → q6.length + k ≤ 1000 →
    R.L_spec_l11Reader_commit_0 K fuel ((k : Int), t, (s.1 : Int), s.2, q4, q5, q6, q7, ()) = some (Sum.inl (t, ((rep (numI t) k s).2.1 : Int), (rep (numI t) k s).2.2, q4, q5, q6 ++ (rep (numI t) k s).1, q7, ()))
  | 0, fuel + 1, s, q6, _, _, _ => by simp [R.L_spec_l11Reader_commit_0, rep]
  | k + 1, fuel + 1, s, q6, hk, hs, hq => by
    have e1 : decide (((k + 1 : Nat) : Int) > 0) = true := decide_eq_true (by omega)
    have e2 : IntKind.i64.wrap (((k + 1 : Nat) : Int) - 1) = (k : Int) := by rw [wrap_id (by omega) (by omega)]; omega
    have e3 : Nat.ble (q6.length + 1) 268435456 = true := ble_of (by omega)
    have g := nuM_good t s hs
    simp only [R.L_spec_l11Reader_commit_0, e1, e2, cond_true, specNum hK t ht s hs, obind_some, List.length_cons, List.length_nil, Nat.zero_add, e3]
    have := specPar hK t ht q4 q5 q7 k fuel (nuM t s).2 (q6 ++ [((nuM t s).1 : Int)]) (by omega) g.1 (by simp; omega)
    rw [this]
    simp [rep, numI]

theorem implPar (hK : 9223372036854775807 < K) (t : List UInt8) (ht : t.length ≤ 65536) (q4 : List Int) (q5 : List En) (q7 : List En) : ∀ (k i fuel : Nat) (s : RSt) (q6 : List Int), k < fuel → s.1 ≤ t.length → q6.length + k ≤ 1000 → i + k ≤ 1000 →
    R.L_impl_reader_commit_0 K fuel (((i + k : Nat) : Int), (i : Int), t, (s.1 : Int), s.2, q4, q5, q6, q7, ()) = some (Sum.inl (t, ((rep (numI t) k s).2.1 : Int), (rep (numI t) k s).2.2, q4, q5, q6 ++ (rep (numI t) k s).1, q7, ()))
  | 0, i, fuel + 1, s, q6, _, _, _, _ => by simp [R.L_impl_reader_commit_0, rep]
  | k + 1, i, fuel + 1, s, q6, hk, hs, hq, hi => by
    have e1 : decide ((i : Int) < ((i + (k + 1) : Nat) : Int)) = true := decide_eq_true (by omega)
    have e2 : IntKind.i64.wrap ((i : Int) + 1) = ((i + 1 : Nat) : Int) := by rw [wrap_id (by omega) (by omega)]; omega
    have e3 : Nat.ble (q6.length + 1) 268435456 = true := ble_of (by omega)
    have g := nuM_good t s hs
    simp only [R.L_impl_reader_commit_0, e1, e2, cond_true, implNum hK t ht s hs, obind_some, List.length_cons, List.length_nil, Nat.zero_add, e3]
    have := implPar hK t ht q4 q5 q7 k (i + 1) fuel (nuM t s).2 (q6 ++ [((nuM t s).1 : Int)]) (by omega) g.1 (by simp; omega) (by omega)
    rw [show i + 1 + k = i + (k + 1) by omega] at this
    rw [this]
    simp [rep, numI]

theorem specEnt (hK : 9223372036854775807 < K) (t : List UInt8) (ht : t.length ≤ 65536) (q4 : List Int) (q5 : List En) (q6 : List Int) : ∀ (k fuel : Nat) (s : RSt) (q7 : List En), k < fuel → s.1 ≤ t.length → q7.length + k ≤ 1000 →
    R.L_spec_l11Reader_commit_1 K fuel ((k : Int), t, (s.1 : Int), s.2, q4, q5, q6, q7, ()) = some (Sum.inl (t, ((rep (entM t) k s).2.1 : Int), (rep (entM t) k s).2.2, q4, q5, q6, q7 ++ (rep (entM t) k s).1, ()))
  | 0, fuel + 1, s, q6, _, _, _ => by simp [R.L_spec_l11Reader_commit_1, rep]
  | k + 1, fuel + 1, s, q7, hk, hs, hq => by
    have e1 : decide (((k + 1 : Nat) : Int) > 0) = true := decide_eq_true (by omega)
    have e2 : IntKind.i64.wrap (((k + 1 : Nat) : Int) - 1) = (k : Int) := by rw [wrap_id (by omega) (by omega)]; omega
    have e3 : Nat.ble (q7.length + 1) 268435456 = true := ble_of (by omega)
    have g1 := textM_good t s hs
    have g := entM_good t s hs
    simp only [R.L_spec_l11Reader_commit_1, e1, e2, cond_true, specText hK t ht s hs, specVal hK t ht _ g1.1, obind_some, List.length_cons, List.length_nil, Nat.zero_add, e3]
    have := specEnt hK t ht q4 q5 q6 k fuel (entM t s).2 (q7 ++ [(entM t s).1]) (by omega) g.1 (by simp; omega)
    simp only [entM] at this
    rw [this]
    simp [rep, entM]

theorem implEnt (hK : 9223372036854775807 < K) (t : List UInt8) (ht : t.length ≤ 65536) (q4 : List Int) (q5 : List En) (q6 : List Int) : ∀ (k i fuel : Nat) (s : RSt) (q7 : List En), k < fuel → s.1 ≤ t.length → q7.length + k ≤ 1000 → i + k ≤ 1000 →
    R.L_impl_reader_commit_1 K fuel (((i + k : Nat) : Int), (i : Int), t, (s.1 : Int), s.2, q4, q5, q6, q7, ()) = some (Sum.inl (t, ((rep (entM t) k s).2.1 : Int), (rep (entM t) k s).2.2, q4, q5, q6, q7 ++ (rep (entM t) k s).1, ()))
  | 0, i, fuel + 1, s, q6, _, _, _, _ => by simp [R.L_impl_reader_commit_1, rep]
  | k + 1, i, fuel + 1, s, q7, hk, hs, hq, hi => by
    have e1 : decide ((i : Int) < ((i + (k + 1) : Nat) : Int)) = true := decide_eq_true (by omega)
    have e2 : IntKind.i64.wrap ((i : Int) + 1) = ((i + 1 : Nat) : Int) := by rw [wrap_id (by omega) (by omega)]; omega
    have e3 : Nat.ble (q7.length + 1) 268435456 = true := ble_of (by omega)
    have g1 := textM_good t s hs
    have g := entM_good t s hs
    simp only [R.L_impl_reader_commit_1, e1, e2, cond_true, implText hK t ht s hs, implVal hK t ht _ g1.1, obind_some, List.length_cons, List.length_nil, Nat.zero_add, e3]
    have := implEnt hK t ht q4 q5 q6 k (i + 1) fuel (entM t s).2 (q7 ++ [(entM t s).1]) (by omega) g.1 (by simp; omega) (by omega)
    rw [show i + 1 + k = i + (k + 1) by omega] at this
    simp only [entM] at this
    rw [this]
    simp [rep, entM]

theorem specCom (hK : 9223372036854775807 < K) (t : List UInt8) (ht : t.length ≤ 65536) (s : RSt) (hs : s.1 ≤ t.length) : R.spec_l11Reader_commit K (t, (s.1 : Int), s.2) = some (((comM t s).1, ()), (t, ((comM t s).2.1 : Int), (comM t s).2.2), ()) := by
  have h1 := fewM_good t 2 s hs
  have l1 := fewM_le t 2 s
  have e1 : R.spec_l11Reader_count K (t, (s.1 : Int), s.2) 2 = _ := specFew hK t ht 2 s hs
  have h2 := Good.rep (numI_good t) (fewM t 2 s).1 _ h1.1
  have e2 := specPar hK t ht [] [] [] (fewM t 2 s).1 K (fewM t 2 s).2 [] (by omega) h1.1 (by simp; omega)
  have h3 := fewM_good t 12 _ h2.1
  have l3 := fewM_le t 12 (rep (numI t) (fewM t 2 s).1 (fewM t 2 s).2).2
  have e3 : R.spec_l11Reader_count K (t, ((rep (numI t) (fewM t 2 s).1 (fewM t 2 s).2).2.1 : Int), (rep (numI t) (fewM t 2 s).1 (fewM t 2 s).2).2.2) 12 = _ := specFew hK t ht 12 _ h2.1
  have e4 := specEnt hK t ht [] [] ([] ++ (rep (numI t) (fewM t 2 s).1 (fewM t 2 s).2).1) (fewM t 12 (rep (numI t) (fewM t 2 s).1 (fewM t 2 s).2).2).1 K (fewM t 12 (rep (numI t) (fewM t 2 s).1 (fewM t 2 s).2).2).2 [] (by omega) h3.1 (by simp; omega)
  unfold R.spec_l11Reader_commit
  simp only [e1, obind_some, e2, e3, e4]
  simp [comM]

theorem implCom (hK : 9223372036854775807 < K) (t : List UInt8) (ht : t.length ≤ 65536) (s : RSt) (hs : s.1 ≤ t.length) : R.impl_reader_commit K (t, (s.1 : Int), s.2) = some (((comM t s).1, ()), (t, ((comM t s).2.1 : Int), (comM t s).2.2), ()) := by
  have h1 := fewM_good t 2 s hs
  have l1 := fewM_le t 2 s
  have e1 : R.impl_reader_few K (t, (s.1 : Int), s.2) 2 = _ := implFew hK t ht 2 s hs
  have h2 := Good.rep (numI_good t) (fewM t 2 s).1 _ h1.1
  have e2 := implPar hK t ht [] [] [] (fewM t 2 s).1 0 K (fewM t 2 s).2 [] (by omega) h1.1 (by simp; omega) (by omega)
  rw [Nat.zero_add] at e2
  have e2 : R.L_impl_reader_commit_0 K K (((fewM t 2 s).1 : Int), 0, t, ((fewM t 2 s).2.1 : Int), (fewM t 2 s).2.2, [], [], [], [], ()) = _ := e2
  have h3 := fewM_good t 12 _ h2.1
  have l3 := fewM_le t 12 (rep (numI t) (fewM t 2 s).1 (fewM t 2 s).2).2
  have e3 : R.impl_reader_few K (t, ((rep (numI t) (fewM t 2 s).1 (fewM t 2 s).2).2.1 : Int), (rep (numI t) (fewM t 2 s).1 (fewM t 2 s).2).2.2) 12 = _ := implFew hK t ht 12 _ h2.1
  have e4 := implEnt hK t ht [] [] ([] ++ (rep (numI t) (fewM t 2 s).1 (fewM t 2 s).2).1) (fewM t 12 (rep (numI t) (fewM t 2 s).1 (fewM t 2 s).2).2).1 0 K (fewM t 12 (rep (numI t) (fewM t 2 s).1 (fewM t 2 s).2).2).2 [] (by omega) h3.1 (by simp; omega) (by omega)
  rw [Nat.zero_add] at e4
  have e4 : R.L_impl_reader_commit_1 K K (((fewM t 12 (rep (numI t) (fewM t 2 s).1 (fewM t 2 s).2).2).1 : Int), 0, t, _, _, [], [], _, [], ()) = _ := e4
  unfold R.impl_reader_commit
  simp only [e1, obind_some, e2, e3, e4]
  simp [comM]


theorem nble1 {n : Nat} (h : n ≤ 1000) : Nat.ble (n + 1) 268435456 = true := ble_of (by omega)

theorem specStore (hK : 9223372036854775807 < K) (t : List UInt8) (ht : t.length ≤ 65536) (q6 : List Cm) (q7 q9 : List Rf) : ∀ (k fuel : Nat) (s : RSt) (q8 : List Cm), k < fuel → s.1 ≤ t.length → q8.length + k ≤ 1000 →
    R.L_spec_l11Read_0 K fuel (t, 0, (k : Int), t, (s.1 : Int), s.2, q6, q7, q8, q9, ()) = some (Sum.inl (t, 0, t, ((repB (comM t) k s).2.1 : Int), (repB (comM t) k s).2.2, q6, q7, q8 ++ (repB (comM t) k s).1, q9, ()))
  | 0, fuel + 1, s, q6, _, _, _ => by simp [R.L_spec_l11Read_0, repB]
  | k + 1, fuel + 1, s, q8, hk, hs, hq => by
    have e1 : decide (((k + 1 : Nat) : Int) > 0) = true := decide_eq_true (by omega)
    have e2 : IntKind.i64.wrap (((k + 1 : Nat) : Int) - 1) = (k : Int) := by rw [wrap_id (by omega) (by omega)]; omega
    have e3 := nble1 (show q8.length ≤ 1000 by omega)
    have g := comM_good t s hs
    cases hb : s.2 with
    | true => simp [R.L_spec_l11Read_0, e1, hb, repB]
    | false =>
      have ec := specCom hK t ht s hs
      rw [hb] at ec
      simp only [R.L_spec_l11Read_0, e1, e2, cond_true, Bool.not_false, ec, obind_some, List.length_cons, List.length_nil, Nat.zero_add, e3]
      have := specStore hK t ht q6 q7 q9 k fuel (comM t s).2 (q8 ++ [(comM t s).1]) (by omega) g.1 (by simp; omega)
      rw [this]
      simp [repB, hb]

theorem implStore (hK : 9223372036854775807 < K) (t : List UInt8) (ht : t.length ≤ 65536) (q6 : List Cm) (q7 q9 : List Rf) : ∀ (k i fuel : Nat) (s : RSt) (q8 : List Cm), k < fuel → s.1 ≤ t.length → q8.length + k ≤ 1000 → i + k ≤ 1000 →
    R.L_impl_DecodeBase_0 K fuel (t, 0, ((i + k : Nat) : Int), (i : Int), t, (s.1 : Int), s.2, q6, q7, q8, q9, ()) = some (Sum.inl (t, 0, t, ((rep (comM t) k s).2.1 : Int), (rep (comM t) k s).2.2, q6, q7, q8 ++ (rep (comM t) k s).1, q9, ()))
  | 0, i, fuel + 1, s, q6, _, _, _, _ => by simp [R.L_impl_DecodeBase_0, rep]
  | k + 1, i, fuel + 1, s, q8, hk, hs, hq, hi => by
    have e1 : decide ((i : Int) < ((i + (k + 1) : Nat) : Int)) = true := decide_eq_true (by omega)
    have e2 : IntKind.i64.wrap ((i : Int) + 1) = ((i + 1 : Nat) : Int) := by rw [wrap_id (by omega) (by omega)]; omega
    have e3 := nble1 (show q8.length ≤ 1000 by omega)
    have g := comM_good t s hs
    simp only [R.L_impl_DecodeBase_0, e1, e2, cond_true, implCom hK t ht s hs, obind_some, List.length_cons, List.length_nil, Nat.zero_add, e3]
    have := implStore hK t ht q6 q7 q9 k (i + 1) fuel (comM t s).2 (q8 ++ [(comM t s).1]) (by omega) g.1 (by simp; omega) (by omega)
    rw [show i + 1 + k = i + (k + 1) by omega] at this
    rw [this]
    simp [rep]

theorem specRefs (hK : 9223372036854775807 < K) (t : List UInt8) (ht : t.length ≤ 65536) (q6 q8 : List Cm) (q7 : List Rf) : ∀ (k fuel : Nat) (s : RSt) (q9 : List Rf), k < fuel → s.1 ≤ t.length → q9.length + k ≤ 1000 →
    R.L_spec_l11Read_1 K fuel (t, 0, (k : Int), t, (s.1 : Int), s.2, q6, q7, q8, q9, ()) = some (Sum.inl (t, 0, t, ((repB (refM t) k s).2.1 : Int), (repB (refM t) k s).2.2, q6, q7, q8, q9 ++ (repB (refM t) k s).1, ()))
  | 0, fuel + 1, s, q6, _, _, _ => by simp [R.L_spec_l11Read_1, repB]
  | k + 1, fuel + 1, s, q9, hk, hs, hq => by
    have e1 : decide (((k + 1 : Nat) : Int) > 0) = true := decide_eq_true (by omega)
    have e2 : IntKind.i64.wrap (((k + 1 : Nat) : Int) - 1) = (k : Int) := by rw [wrap_id (by omega) (by omega)]; omega
    have e3 := nble1 (show q9.length ≤ 1000 by omega)
    have g := refM_good t s hs
    have g1 := textM_good t s hs
    have g2 := nuM_good t _ g1.1
    cases hb : s.2 with
    | true => simp [R.L_spec_l11Read_1, e1, hb, repB]
    | false =>
      have ec := specText hK t ht s hs
      rw [hb] at ec
      simp only [R.L_spec_l11Read_1, e1, e2, cond_true, Bool.not_false, ec, specNum hK t ht _ g1.1, specNum hK t ht _ g2.1, obind_some, List.length_cons, List.length_nil, Nat.zero_add, e3]
      have := specRefs hK t ht q6 q8 q7 k fuel (refM t s).2 (q9 ++ [(refM t s).1]) (by omega) g.1 (by simp; omega)
      simp only [refM] at this
      rw [this]
      simp [repB, hb, refM]

theorem implRefs (hK : 9223372036854775807 < K) (t : List UInt8) (ht : t.length ≤ 65536) (q6 q8 : List Cm) (q7 : List Rf) : ∀ (k i fuel : Nat) (s : RSt) (q9 : List Rf), k < fuel → s.1 ≤ t.length → q9.length + k ≤ 1000 → i + k ≤ 1000 →
    R.L_impl_DecodeBase_1 K fuel (t, 0, ((i + k : Nat) : Int), (i : Int), t, (s.1 : Int), s.2, q6, q7, q8, q9, ()) = some (Sum.inl (t, 0, t, ((rep (refM t) k s).2.1 : Int), (rep (refM t) k s).2.2, q6, q7, q8, q9 ++ (rep (refM t) k s).1, ()))
  | 0, i, fuel + 1, s, q6, _, _, _, _ => by simp [R.L_impl_DecodeBase_1, rep]
  | k + 1, i, fuel + 1, s, q9, hk, hs, hq, hi => by
    have e1 : decide ((i : Int) < ((i + (k + 1) : Nat) : Int)) = true := decide_eq_true (by omega)
    have e2 : IntKind.i64.wrap ((i : Int) + 1) = ((i + 1 : Nat) : Int) := by rw [wrap_id (by omega) (by omega)]; omega
    have e3 := nble1 (show q9.length ≤ 1000 by omega)
    have g := refM_good t s hs
    have g1 := textM_good t s hs
    have g2 := nuM_good t _ g1.1
    simp only [R.L_impl_DecodeBase_1, e1, e2, cond_true, implText hK t ht s hs, implNum hK t ht _ g1.1, implNum hK t ht _ g2.1, obind_some, List.length_cons, List.length_nil, Nat.zero_add, e3]
    have := implRefs hK t ht q6 q8 q7 k (i + 1) fuel (refM t s).2 (q9 ++ [(refM t s).1]) (by omega) g.1 (by simp; omega) (by omega)
    rw [show i + 1 + k = i + (k + 1) by omega] at this
    simp only [refM] at this
    rw [this]
    simp [rep, refM]

/-- what is read, one thing after the other -/
def readA (t : List UInt8) : Nat × RSt := fewM t 60 (3, false)

def readB (t : List UInt8) : List Cm × RSt := rep (comM t) (readA t).1 (readA t).2

def readC (t : List UInt8) : Nat × RSt := fewM t 8 (readB t).2

def readD (t : List UInt8) : List Rf × RSt := rep (refM t) (readC t).1 (readC t).2

def readE (t : List UInt8) : Nat × RSt := nuM t (readD t).2

def decM (t : List UInt8) : Ba × Int :=
  if ¬ t.length ≤ 65536 then (([], []), 2) else if t.take 3 ≠ [66, 82, 49] then (([], []), 3) else
    if (readE t).2.2 = true ∨ (readE t).2.1 ≠ t.length then (([], []), 3) else if ((readE t).1 : Int) ≠ sumM (t.take (readD t).2.1) then (([], []), 13) else if baseM ((readB t).1, (readD t).1) = true then (((readB t).1, (readD t).1), 0) else (([], []), 1)

theorem comM_sm (t : List UInt8) (s : RSt) : (comM t s).1.1.length ≤ 2 ∧ (comM t s).1.2.length ≤ 12 ∧ ∀ e ∈ (comM t s).1.2, e.1.length ≤ 12 := by
  refine ⟨?_, ?_, ?_⟩
  · simp only [comM, rep_len]; exact fewM_le t 2 s
  · simp only [comM, rep_len]; exact fewM_le t 12 _
  · simp only [comM]
    exact rep_all (Q := fun e : En => e.1.length ≤ 12) (fun s => textM_le t s) _ _

theorem read_sm (t : List UInt8) : (readB t).1.length ≤ 60 ∧ (∀ c ∈ (readB t).1, c.1.length ≤ 2 ∧ c.2.length ≤ 12 ∧ ∀ e ∈ c.2, e.1.length ≤ 12) ∧ (readD t).1.length ≤ 8 ∧ ∀ r ∈ (readD t).1, r.1.length ≤ 12 := by
  refine ⟨?_, ?_, ?_, ?_⟩
  · simp only [readB, rep_len]; exact fewM_le t 60 _
  · exact rep_all (Q := fun c : Cm => c.1.length ≤ 2 ∧ c.2.length ≤ 12 ∧ ∀ e ∈ c.2, e.1.length ≤ 12) (comM_sm t) _ _
  · simp only [readD, rep_len]; exact fewM_le t 8 _
  · exact rep_all (Q := fun r : Rf => r.1.length ≤ 12) (fun s => textM_le t s) _ _

theorem read_good (t : List UInt8) (h3 : 3 ≤ t.length) : (readA t).2.1 ≤ t.length ∧ (readB t).2.1 ≤ t.length ∧ (readC t).2.1 ≤ t.length ∧ (readD t).2.1 ≤ t.length ∧ (readE t).2.1 ≤ t.length := by
  have a := fewM_good t 60 (3, false) h3
  have b := Good.rep (comM_good t) (readA t).1 (readA t).2 a.1
  have c := fewM_good t 8 (readB t).2 b.1
  have d := Good.rep (refM_good t) (readC t).1 (readC t).2 c.1
  have e := nuM_good t (readD t).2 d.1
  exact ⟨a.1, b.1, c.1, d.1, e.1⟩

theorem impl_DecodeBase_eq (hK : 9223372036854775807 < K) (t : List UInt8) : R.impl_DecodeBase K t = some (((decM t).1, (decM t).2, ()), ()) := by
  unfold R.impl_DecodeBase decM
  by_cases ht : t.length ≤ 65536
  · have e0 : decide ((t.length : Int) ≤ 65536) = true := decide_eq_true (by omega)
    have hp : R.strings_HasPrefix K t [66, 82, 49] = some ((t.take 3 == [66, 82, 49], ()), ()) := by
      unfold R.strings_HasPrefix R.internal_stringslite_HasPrefix
      by_cases h3 : 3 ≤ t.length
      · have g1 : decide ((t.length : Int) ≥ 3) = true := decide_eq_true (by omega)
        have g2 : decide ((3 : Int) ≤ t.length) = true := decide_eq_true (by omega)
        simp [g2, obind]
      · have g1 : decide ((t.length : Int) ≥ 3) = false := decide_eq_false (by omega)
        have g2 : decide ((3 : Int) ≤ t.length) = false := decide_eq_false (by omega)
        have g3 : (t.take 3 == [66, 82, 49]) = false := by
          have : t.take 3 ≠ [66, 82, 49] := fun e => by
            have := congrArg List.length e
            simp at this
            omega
          simpa using this
        simp [g2, g3, obind]
    have hp : R.strings_HasPrefix K t (Array.toList (ByteArray.data (ByteArray.mk #[66, 82, 49]))) = _ := hp
    simp only [e0, hp, obind_some, Bool.not_true, cond_false, ht, not_true_eq_false, if_false]
    by_cases hh : t.take 3 = [66, 82, 49]
    · have h3 : 3 ≤ t.length := by
        have := congrArg List.length hh
        simp at this
        omega
      obtain ⟨ga, gb, gc, gd, ge⟩ := read_good t h3
      obtain ⟨l1, l2, l3, l4⟩ := read_sm t
      have la := fewM_le t 60 (3, false)
      have lc := fewM_le t 8 (readB t).2
      have e1 : R.impl_reader_few K (t, 3, false) 60 = some ((((readA t).1 : Int), ()), (t, ((readA t).2.1 : Int), (readA t).2.2), ()) := implFew hK t ht 60 (3, false) h3
      have e2 := implStore hK t ht [] [] [] (readA t).1 0 K (readA t).2 [] (by unfold readA; omega) ga (by unfold readA; simp; omega) (by unfold readA; omega)
      rw [Nat.zero_add] at e2
      have e2 : R.L_impl_DecodeBase_0 K K (t, 0, ((readA t).1 : Int), 0, t, ((readA t).2.1 : Int), (readA t).2.2, [], [], [], [], ()) = some (Sum.inl (t, 0, t, ((readB t).2.1 : Int), (readB t).2.2, [], [], (readB t).1, [], ())) := by rw [List.nil_append] at e2; exact e2
      have e3 : R.impl_reader_few K (t, ((readB t).2.1 : Int), (readB t).2.2) 8 = some ((((readC t).1 : Int), ()), (t, ((readC t).2.1 : Int), (readC t).2.2), ()) := implFew hK t ht 8 (readB t).2 gb
      have e4 := implRefs hK t ht [] (readB t).1 [] (readC t).1 0 K (readC t).2 [] (by unfold readC; omega) gc (by unfold readC; simp; omega) (by unfold readC; omega)
      rw [Nat.zero_add] at e4
      have e4 : R.L_impl_DecodeBase_1 K K (t, 0, ((readC t).1 : Int), 0, t, ((readC t).2.1 : Int), (readC t).2.2, [], [], (readB t).1, [], ()) = some (Sum.inl (t, 0, t, ((readD t).2.1 : Int), (readD t).2.2, [], [], (readB t).1, (readD t).1, ())) := by rw [List.nil_append] at e4; exact e4
      have e5 : R.impl_reader_number K (t, ((readD t).2.1 : Int), (readD t).2.2) = some ((((readE t).1 : Int), ()), (t, ((readE t).2.1 : Int), (readE t).2.2), ()) := implNum hK t ht (readD t).2 gd
      have e6 : decide (((readD t).2.1 : Int) ≤ (t.length : Int)) = true := decide_eq_true (by omega)
      have hl : (List.take (readD t).2.1 t).length ≤ 268435456 := by simp; omega
      have e7 := sumOf_eq hK (List.take (readD t).2.1 t) hl
      have e8 := BaseOK_eq hK ((readB t).1, (readD t).1) (by show (readD t).1.length ≤ _; omega) (fun c hc => by have := (l2 c hc).2.1; omega) (fun r hr => by have := l4 r hr; omega)
      simp only [hh, beq_self_eq_true, Bool.not_true, cond_false, ne_eq, not_true_eq_false, if_false, e1, e2, e3, e4, e5, obind_some, R.impl_reader_ends, e6, idx_nn, Bool.and_self, cond_true, Int.toNat_natCast, List.drop_zero, e7, e8]
      cases hb : (readE t).2.2 with
      | true => simp [obind]
      | false =>
        by_cases he : (readE t).2.1 = t.length
        · by_cases hsum : ((readE t).1 : Int) = sumM (List.take (readD t).2.1 t)
          · cases hbm : baseM ((readB t).1, (readD t).1) <;> simp [he, hsum, obind]
          · have : (((readE t).1 : Int) != sumM (List.take (readD t).2.1 t)) = true := by simpa using hsum
            simp [he, hsum, this, obind]
        · have : (((readE t).2.1 : Int) == (t.length : Int)) = false := by simp; omega
          simp [he, this, obind]
    · have : (t.take 3 == [66, 82, 49]) = false := by simpa using hh
      simp [hh, this]
  · have e0 : decide ((t.length : Int) ≤ 65536) = false := decide_eq_false (by omega)
    simp [e0, ht]

theorem spec_DecodeBase_eq (hK : 9223372036854775807 < K) (t : List UInt8) : R.spec_DecodeBase K t = some (((decM t).1, (decM t).2, ()), ()) := by
  unfold R.spec_DecodeBase
  by_cases ht : t.length ≤ 65536
  · have e0 : decide ((t.length : Int) > 65536) = false := decide_eq_false (by omega)
    suffices h : R.spec_l11Read K t = some (((decM t).1, (decM t).2, ()), ()) by simp only [e0, cond_false, h, obind_some]
    unfold R.spec_l11Read decM
    by_cases h3 : 3 ≤ t.length
    · have g1 : decide ((t.length : Int) < 3) = false := decide_eq_false (by omega)
      have g2 : (decide ((0 : Int) ≤ 3) && decide ((3 : Int) ≤ (t.length : Int))) = true := by simp; omega
      have g3 : Int.toNat 3 = 3 := rfl
      have h3i : (3 : Int) ≤ (t.length : Int) := by omega
      simp only [g1, g2, g3, cond_true, cond_false, List.drop_zero, ht, not_true_eq_false, if_false]
      by_cases hh : t.take 3 = [66, 82, 49]
      · obtain ⟨ga, gb, gc, gd, ge⟩ := read_good t h3
        obtain ⟨l1, l2, l3, l4⟩ := read_sm t
        have la := fewM_le t 60 (3, false)
        have hB := Good.repB (comM_good t) (readA t).1 (readA t).2 ga
        have hbad := rep_bad (comM_good t) (readA t).1 (readA t).2 ga
        have e1 : R.spec_l11Reader_count K (t, 3, false) 60 = some ((((readA t).1 : Int), ()), (t, ((readA t).2.1 : Int), (readA t).2.2), ()) := specFew hK t ht 60 (3, false) h3
        have e2 := specStore hK t ht [] [] [] (readA t).1 K (readA t).2 [] (by unfold readA; omega) ga (by unfold readA; simp; omega)
        rw [List.nil_append] at e2
        generalize hBd : repB (comM t) (readA t).1 (readA t).2 = B at e2 hB hbad
        have lc := fewM_le t 8 B.2
        have hC := fewM_good t 8 B.2 hB.1
        have e3 : R.spec_l11Reader_count K (t, (B.2.1 : Int), B.2.2) 8 = some ((((fewM t 8 B.2).1 : Int), ()), (t, ((fewM t 8 B.2).2.1 : Int), (fewM t 8 B.2).2.2), ()) := specFew hK t ht 8 B.2 hB.1
        have e4 := specRefs hK t ht [] B.1 [] (fewM t 8 B.2).1 K (fewM t 8 B.2).2 [] (by omega) hC.1 (by simp; omega)
        rw [List.nil_append] at e4
        have hD := Good.repB (refM_good t) (fewM t 8 B.2).1 (fewM t 8 B.2).2 hC.1
        have hbad2 := rep_bad (refM_good t) (fewM t 8 B.2).1 (fewM t 8 B.2).2 hC.1
        generalize hDd : repB (refM t) (fewM t 8 B.2).1 (fewM t 8 B.2).2 = D at e4 hD hbad2
        have hE := nuM_good t D.2 hD.1
        have e5 : R.spec_l11Reader_number K (t, (D.2.1 : Int), D.2.2) = some ((((nuM t D.2).1 : Int), ()), (t, ((nuM t D.2).2.1 : Int), (nuM t D.2).2.2), ()) := specNum hK t ht D.2 hD.1
        have hhd : (t.take 3 == [66, 82, 49]) = true := by simpa using hh
        have hhd : (List.take 3 t == Array.toList (ByteArray.data (ByteArray.mk #[66, 82, 49]))) = true := hhd
        simp only [hhd, Bool.not_true, cond_false, hh, ne_eq, not_true_eq_false, if_false, e1, e2, e3, e4, e5, obind_some]
        -- something was wrong on both sides, or both are one
        have both : ((readE t).2.2 = true ∧ (nuM t D.2).2.2 = true) ∨ (B = readB t ∧ D = readD t) := by
          rcases hbad with ⟨b1, b2⟩ | b
          · refine .inl ⟨?_, hE.2 (hD.2 (hC.2 b2))⟩
            have c := fewM_good t 8 (readB t).2 gb
            have d := Good.rep (refM_good t) (readC t).1 (readC t).2 gc
            have e := nuM_good t (readD t).2 gd
            exact e.2 (d.2 (c.2 b1))
          · have hBB : B = readB t := b
            rcases hbad2 with ⟨b1, b2⟩ | b'
            · refine .inl ⟨?_, hE.2 b2⟩
              rw [hBB] at b1
              have e := nuM_good t (readD t).2 gd
              exact e.2 b1
            · exact .inr ⟨hBB, by rw [b', hBB]; rfl⟩
        rcases both with ⟨b1, b2⟩ | ⟨rfl, rfl⟩
        · simp [b1, b2, h3i]
        · have e6 : decide (((readD t).2.1 : Int) ≤ (t.length : Int)) = true := decide_eq_true (by omega)
          have hl : (List.take (readD t).2.1 t).length ≤ 268435456 := by simp; omega
          have e7 := l11Sum_eq hK (List.take (readD t).2.1 t) hl
          have e8 := l05OK_eq hK ((readB t).1, (readD t).1) (by show (readD t).1.length ≤ _; omega)
          have e9 : nuM t (readD t).2 = readE t := rfl
          simp only [e6, e7, e8, e9, idx_nn, Bool.and_self, cond_true, Int.toNat_natCast, List.drop_zero, obind_some]
          cases hb : (readE t).2.2 with
          | true => simp [obind, h3i]
          | false =>
            by_cases he : (readE t).2.1 = t.length
            · by_cases hsum : ((readE t).1 : Int) = sumM (List.take (readD t).2.1 t)
              · cases hbm : baseM ((readB t).1, (readD t).1) <;> simp [he, hsum, obind, h3i]
              · have : (((readE t).1 : Int) != sumM (List.take (readD t).2.1 t)) = true := by simpa using hsum
                simp [he, hsum, this, obind, h3i]
            · have : (((readE t).2.1 : Int) != (t.length : Int)) = true := by simp; omega
              simp [he, this, obind, h3i]
      · have hhd : (t.take 3 == [66, 82, 49]) = false := by simpa using hh
        have hhd : (List.take 3 t == Array.toList (ByteArray.data (ByteArray.mk #[66, 82, 49]))) = false := hhd
        simp [hhd, hh, h3i]
    · have g1 : decide ((t.length : Int) < 3) = true := decide_eq_true (by omega)
      have hh : t.take 3 ≠ [66, 82, 49] := fun e => by
        have := congrArg List.length e
        simp at this
        omega
      simp [g1, ht, hh]
  · have e0 : decide ((t.length : Int) > 65536) = true := decide_eq_true (by omega)
    unfold decM
    simp [e0, ht]

theorem decM_sm (t : List UInt8) : Sm tBa (decM t).1 := by
  have hn : Sm tBa (([], []) : Ba) := ⟨⟨by simp, by simp⟩, by simp, by simp⟩
  obtain ⟨l1, l2, l3, l4⟩ := read_sm t
  unfold decM
  split
  · exact hn
  · split
    · exact hn
    · split
      · exact hn
      · split
        · exact hn
        · split
          · refine ⟨⟨by simp only; omega, fun c hc => ?_⟩, by simp only; omega, fun r hr => ?_⟩
            · obtain ⟨c1, c2, c3⟩ := l2 c hc
              exact ⟨⟨by omega, fun _ _ => trivial⟩, by omega, fun e he => ⟨by have := c3 e he; show e.1.length ≤ _; omega, trivial⟩⟩
            · have := l4 r hr
              exact ⟨by show r.1.length ≤ _; omega, trivial, trivial, trivial⟩
          · exact hn

theorem law_DecodeBase (hK : 9223372036854775807 < K) (t : List UInt8) : R.laws_FnExactDecodeBase K t = some ((true, ()), ()) := by
  unfold R.laws_FnExactDecodeBase
  have smr := decM_sm t
  obtain ⟨k3, y3, m3, a3, b3, u3⟩ := markBase_ok hK (decM t).1 smr 1 (by omega) (by omega)
  have n3 := lt0 (show 0 ≤ k3 by omega)
  cases decide ((t.length : Int) > 1048576)
  · simp only [cond_false, spec_DecodeBase_eq hK t, impl_DecodeBase_eq hK t, eqBase_id hK _ smr, m3, u3, n3, obind_some, beq_self_eq_true, Bool.not_true, bne_self_eq_false]
  · rfl
end Go.Proofs.Pure
