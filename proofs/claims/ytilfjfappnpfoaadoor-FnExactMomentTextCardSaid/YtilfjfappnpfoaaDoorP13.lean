/- Plain lemmas on what the functions come to. -/
import Derived.Test.YtilfjfappnpfoaaDoorP12
namespace Go.Proofs.Pure
open Go Fw
set_option linter.all false
set_option maxRecDepth 100000
variable {K : Nat}

abbrev Ed := List UInt8 × Int × Bool

/-- is the edit at 'i' well placed -/
def edOK (m : List Ed) (i : Nat) : Bool := wordM (m.getD i ([], 0, false)).1 && inV (m.getD i ([], 0, false)).2.1 && !((m.getD i ([], 0, false)).2.2 && ((m.getD i ([], 0, false)).2.1 != 0)) && (decide (i = 0) || sless (m.getD (i - 1) ([], 0, false)).1 (m.getD i ([], 0, false)).1)

def editsM (m : List Ed) : Bool := decide (m.length ≤ 6) && (List.range' 0 m.length).all (edOK m)

theorem l01Edits_eq (hK : 9223372036854775807 < K) (m : List Ed) : R.spec_l01Edits K m = some ((editsM m, ()), ()) := by
  unfold R.spec_l01Edits editsM
  by_cases h : m.length ≤ 6
  · have := all_ok (L := fun n i => R.L_spec_l01Edits_0 K n (m, false, (i : Nat), ())) (len := m.length) (p := edOK m) (t := Sum.inl (false, ())) (f := Sum.inr (false, ()))
      (fun n => by simp only [R.L_spec_l01Edits_0, idx_end, cond_false]) (fun n i hi => by
        simp only [R.L_spec_l01Edits_0, wrap_succ hi (by omega), idx_lt hi, idx_nn, Bool.and_self, Int.toNat_natCast, word_eq hK, in_eq, obind_some, cond_true, edOK, inV]
        cases i with
        | zero =>
          cases wordM (m.getD 0 ([], 0, false)).1 <;> cases decide (-1000000 ≤ (m.getD 0 ([], 0, false)).2.1) && decide ((m.getD 0 ([], 0, false)).2.1 ≤ 1000000) <;> cases (m.getD 0 ([], 0, false)).2.2 <;> cases (m.getD 0 ([], 0, false)).2.1 != 0 <;> rfl
        | succ i =>
          have g1 : (((i + 1 : Nat) : Int) > 0) := by omega
          have g2 : i < m.length := by omega
          simp only [wrap_pred hi (by omega), Int.toNat_natCast, Nat.add_sub_cancel, idx_lt g2, idx_nn, Bool.and_self, g1, decide_true, cond_true, show ¬ (i + 1 = 0) by omega, decide_false, Bool.false_or]
          rw [← sless_tri]
          cases wordM (m.getD (i + 1) ([], 0, false)).1 <;> cases decide (-1000000 ≤ (m.getD (i + 1) ([], 0, false)).2.1) && decide ((m.getD (i + 1) ([], 0, false)).2.1 ≤ 1000000) <;> cases (m.getD (i + 1) ([], 0, false)).2.2 <;> cases (m.getD (i + 1) ([], 0, false)).2.1 != 0 <;> cases sless (m.getD i ([], 0, false)).1 (m.getD (i + 1) ([], 0, false)).1 <;> rfl) m.length 0 K (by omega) (by omega)
    have this : R.L_spec_l01Edits_0 K K (m, false, 0, ()) = _ := this
    simp only [this, h, show ¬ ((m.length : Int) > 6) by omega, obind_some, decide_true, decide_false, cond_false, Bool.true_and]
    cases (List.range' 0 m.length).all (edOK m) <;> rfl
  · simp [h, show (m.length : Int) > 6 by omega]

theorem EditsOK_eq (hK : 9223372036854775807 < K) (m : List Ed) (hx : m.length ≤ 9223372036854775807) : R.impl_EditsOK K m = some ((editsM m, ()), ()) := by
  have := all_ok (L := fun n i => R.L_impl_EditsOK_0 K n (m, false, m, (m.length : Int), (i : Nat), ())) (len := m.length) (p := edOK m) (t := Sum.inl (m, false, ())) (f := Sum.inr (false, ()))
      (fun n => by simp only [R.L_impl_EditsOK_0, idx_end, cond_false]) (fun n i hi => by
        simp only [R.L_impl_EditsOK_0, wrap_succ hi hx, idx_lt hi, idx_nn, Bool.and_self, Int.toNat_natCast, NameOK_eq hK, isValue_eq, obind_some, cond_true, edOK]
        cases i with
        | zero =>
          cases wordM (m.getD 0 ([], 0, false)).1 <;> cases inV (m.getD 0 ([], 0, false)).2.1 <;> cases (m.getD 0 ([], 0, false)).2.2 <;> cases (m.getD 0 ([], 0, false)).2.1 != 0 <;> rfl
        | succ i =>
          have g1 : (((i + 1 : Nat) : Int) > 0) := by omega
          have g2 : i < m.length := by omega
          simp only [wrap_pred hi hx, Int.toNat_natCast, Nat.add_sub_cancel, idx_lt g2, idx_nn, Bool.and_self, g1, decide_true, cond_true, show ¬ (i + 1 = 0) by omega, decide_false, Bool.false_or]
          cases wordM (m.getD (i + 1) ([], 0, false)).1 <;> cases inV (m.getD (i + 1) ([], 0, false)).2.1 <;> cases (m.getD (i + 1) ([], 0, false)).2.2 <;> cases (m.getD (i + 1) ([], 0, false)).2.1 != 0 <;> cases sless (m.getD i ([], 0, false)).1 (m.getD (i + 1) ([], 0, false)).1 <;> rfl) m.length 0 K (by omega) (by omega)
  have this : R.L_impl_EditsOK_0 K K (m, false, m, (m.length : Int), 0, ()) = _ := this
  unfold R.impl_EditsOK editsM
  rw [this]
  cases (List.range' 0 m.length).all (edOK m)
  · simp [obind]
  · by_cases h : m.length ≤ 6
    · simp [obind, h, show (m.length : Int) ≤ 6 by omega]
    · simp [obind, h, show ¬ (m.length : Int) ≤ 6 by omega]

abbrev tEd : Ty := .pair .str (.pair (.int .i64) .bool)
end Go.Proofs.Pure
