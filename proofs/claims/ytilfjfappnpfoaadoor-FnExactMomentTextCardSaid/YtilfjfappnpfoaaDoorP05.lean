/- Plain lemmas on what the functions come to. -/
import Derived.Test.YtilfjfappnpfoaaDoorP02
namespace Go.Proofs.Pure
open Go Fw
set_option linter.all false
set_option maxRecDepth 100000
variable {K : Nat}

theorem sless_tri : ∀ a b : List UInt8, (!sless a b) = (sless b a || b == a)
  | [], [] => rfl
  | [], _ :: _ => rfl
  | _ :: _, [] => rfl
  | a :: x, b :: y => by
    have ih := sless_tri x y
    show (!(decide (a < b) || (a == b && sless x y))) = ((decide (b < a) || (b == a && sless y x)) || (b :: y == a :: x))
    rw [List.cons_beq_cons]
    by_cases h : a = b
    · subst h
      have : ¬ a < a := UInt8.lt_irrefl a
      simp only [this, decide_false, beq_self_eq_true, Bool.true_and, Bool.false_or]
      exact ih
    · have h' : (a == b) = false := by simpa using h
      have h'' : (b == a) = false := by simpa using fun e => h e.symm
      simp only [h', h'', Bool.false_and, Bool.or_false]
      by_cases hl : a < b
      · have : ¬ b < a := UInt8.lt_asymm hl
        simp [hl, this]
      · have : b < a := by
          have h1 : ¬ a.toNat < b.toNat := hl
          have h2 : a.toNat ≠ b.toNat := fun e => h (UInt8.toNat_inj.1 e)
          show b.toNat < a.toNat
          omega
        simp [hl, this]

abbrev En := List UInt8 × Int

def inV (v : Int) : Bool := decide (-1000000 ≤ v) && decide (v ≤ 1000000)

/-- is the entry at 'i' well placed -/
def entOK (m : List En) (i : Nat) : Bool := wordM (m.getD i ([], 0)).1 && inV (m.getD i ([], 0)).2 && (decide (i = 0) || sless (m.getD (i - 1) ([], 0)).1 (m.getD i ([], 0)).1)

def mapM (m : List En) : Bool := decide (m.length ≤ 12) && (List.range' 0 m.length).all (entOK m)

theorem l01OK_eq (hK : 9223372036854775807 < K) (m : List En) : R.spec_l01OK K m = some ((mapM m, ()), ()) := by
  unfold R.spec_l01OK mapM
  by_cases h : m.length ≤ 12
  · have := all_ok (L := fun n i => R.L_spec_l01OK_0 K n (m, false, (i : Nat), ())) (len := m.length) (p := entOK m) (t := Sum.inl (false, ())) (f := Sum.inr (false, ()))
      (fun n => by simp only [R.L_spec_l01OK_0, idx_end, cond_false]) (fun n i hi => by
        simp only [R.L_spec_l01OK_0, wrap_succ hi (by omega), idx_lt hi, idx_nn, Bool.and_self, Int.toNat_natCast, word_eq hK, in_eq, obind_some, cond_true, entOK, inV]
        cases i with
        | zero =>
          cases wordM (m.getD 0 ([], 0)).1 <;> cases decide (-1000000 ≤ (m.getD 0 ([], 0)).2) && decide ((m.getD 0 ([], 0)).2 ≤ 1000000) <;> rfl
        | succ i =>
          have g1 : (((i + 1 : Nat) : Int) > 0) := by omega
          have g2 : i < m.length := by omega
          simp only [wrap_pred hi (by omega), Int.toNat_natCast, Nat.add_sub_cancel, idx_lt g2, idx_nn, Bool.and_self, g1, decide_true, cond_true, show ¬ (i + 1 = 0) by omega, decide_false, Bool.false_or]
          rw [← sless_tri]
          cases wordM (m.getD (i + 1) ([], 0)).1 <;> cases decide (-1000000 ≤ (m.getD (i + 1) ([], 0)).2) && decide ((m.getD (i + 1) ([], 0)).2 ≤ 1000000) <;> cases sless (m.getD i ([], 0)).1 (m.getD (i + 1) ([], 0)).1 <;> rfl) m.length 0 K (by omega) (by omega)
    have this : R.L_spec_l01OK_0 K K (m, false, 0, ()) = _ := this
    simp only [this, h, show ¬ ((m.length : Int) > 12) by omega, obind_some, decide_true, decide_false, cond_false, Bool.true_and]
    cases (List.range' 0 m.length).all (entOK m) <;> rfl
  · simp [h, show (m.length : Int) > 12 by omega]

theorem isValue_eq (v : Int) : R.impl_isValue K v = some ((inV v, ()), ()) := by
  unfold R.impl_isValue
  rw [within_eq]
  rfl

theorem MapOK_eq (hK : 9223372036854775807 < K) (m : List En) (hx : m.length ≤ 9223372036854775807) : R.impl_MapOK K m = some ((mapM m, ()), ()) := by
  have := all_ok (L := fun n i => R.L_impl_MapOK_0 K n (m, false, m, (m.length : Int), (i : Nat), ())) (len := m.length) (p := entOK m) (t := Sum.inl (m, false, ())) (f := Sum.inr (false, ()))
      (fun n => by simp only [R.L_impl_MapOK_0, idx_end, cond_false]) (fun n i hi => by
        simp only [R.L_impl_MapOK_0, wrap_succ hi hx, idx_lt hi, idx_nn, Bool.and_self, Int.toNat_natCast, NameOK_eq hK, isValue_eq, obind_some, cond_true, entOK]
        cases i with
        | zero =>
          cases wordM (m.getD 0 ([], 0)).1 <;> cases inV (m.getD 0 ([], 0)).2 <;> rfl
        | succ i =>
          have g1 : (((i + 1 : Nat) : Int) > 0) := by omega
          have g2 : i < m.length := by omega
          simp only [wrap_pred hi hx, Int.toNat_natCast, Nat.add_sub_cancel, idx_lt g2, idx_nn, Bool.and_self, g1, decide_true, cond_true, show ¬ (i + 1 = 0) by omega, decide_false, Bool.false_or]
          cases wordM (m.getD (i + 1) ([], 0)).1 <;> cases inV (m.getD (i + 1) ([], 0)).2 <;> cases sless (m.getD i ([], 0)).1 (m.getD (i + 1) ([], 0)).1 <;> rfl) m.length 0 K (by omega) (by omega)
  have this : R.L_impl_MapOK_0 K K (m, false, m, (m.length : Int), 0, ()) = _ := this
  unfold R.impl_MapOK mapM
  rw [this]
  cases (List.range' 0 m.length).all (entOK m)
  · simp [obind]
  · by_cases h : m.length ≤ 12
    · simp [obind, h, show (m.length : Int) ≤ 12 by omega]
    · simp [obind, h, show ¬ (m.length : Int) ≤ 12 by omega]


theorem int0 {n : Nat} : ((n : Int) == 0) = decide (n = 0) := by
  by_cases h : n = 0
  · simp [h]
  · have : (n : Int) ≠ 0 := by omega
    simp [h, this]
end Go.Proofs.Pure
