/- Plain lemmas on what the functions come to. -/
import Derived.Test.YtfcldjomdbepjaaP01
namespace Go.Proofs.Pure
open Go Fw
set_option linter.all false
set_option maxRecDepth 100000
variable {K : Nat}

theorem all_true {α : Type} (l : List α) : (l.all fun _ => true) = true := by induction l <;> simp_all

def isL (c : Int) : Bool := (decide (c ≥ 97) && decide (c ≤ 122)) || (decide (c ≥ 65) && decide (c ≤ 90)) || c == 95

def isD (c : Int) : Bool := decide (c ≥ 48) && decide (c ≤ 57)

theorem letter_eq (c : Int) : R.spec_l00Letter K c = some ((isL c, ()), ()) := by
  unfold R.spec_l00Letter isL
  by_cases h1 : c ≥ 97 <;> by_cases h2 : c ≤ 122 <;> by_cases h3 : c ≥ 65 <;> by_cases h4 : c ≤ 90 <;> simp [h1, h2, h3, h4]

theorem isLetter_eq (c : Int) : R.impl_isLetter K c = some ((isL c, ()), ()) := letter_eq (K := K) c

theorem digit_eq (c : Int) : R.spec_l00Digit K c = some ((isD c, ()), ()) := by
  unfold R.spec_l00Digit isD
  by_cases h1 : c ≥ 48 <;> simp [h1]

theorem isDigit_eq (c : Int) : R.impl_isDigit K c = some ((isD c, ()), ()) := digit_eq (K := K) c

def isW (c : Int) : Bool := isL c || isD c

theorem NameOK_1_eq (c : Int) : R.impl_NameOK_1 K c = some ((isW c, ()), ()) := by
  unfold R.impl_NameOK_1 isW
  rw [isLetter_eq, isDigit_eq]
  cases isL c <;> rfl

theorem getD_bytesIn (l : List UInt8) (i : Nat) : (bytesIn l).getD i 0 = ((l.getD i 0).toNat : Int) := by
  unfold bytesIn
  simp only [List.getD_eq_getElem?_getD, List.getElem?_map]
  cases l[i]? <;> rfl

def wordM (l : List UInt8) : Bool := decide (1 ≤ l.length) && decide (l.length ≤ 12) && isL ((l.getD 0 0).toNat : Int) && (List.range' 1 (l.length - 1)).all fun i => isW ((l.getD i 0).toNat : Int)

theorem word_eq (hK : 9223372036854775807 < K) (l : List UInt8) : R.spec_l00Word K l = some ((wordM l, ()), ()) := by
  unfold R.spec_l00Word wordM
  by_cases h1 : l.length < 1
  · simp [show (l.length : Int) < 1 by omega, show ¬ 1 ≤ l.length by omega]
  · by_cases h2 : l.length > 12
    · simp [show ¬ (l.length : Int) < 1 by omega, show (l.length : Int) > 12 by omega, show ¬ l.length ≤ 12 by omega]
    · have := all_ok (L := fun n i => R.L_spec_l00Word_0 K n (l, false, (i : Nat), ())) (len := l.length) (p := fun i => isW ((l.getD i 0).toNat : Int)) (t := Sum.inl (false, ())) (f := Sum.inr (false, ()))
        (fun n => by simp [R.L_spec_l00Word_0]) (fun n i hi => by
          simp only [R.L_spec_l00Word_0, wrap_succ hi (by omega), letter_eq, digit_eq, obind, isW, Int.toNat_natCast]
          cases isL ((l.getD i 0).toNat : Int) <;> cases isD ((l.getD i 0).toNat : Int) <;> simp [hi]) (l.length - 1) 1 K (by omega) (by omega)
      have this : R.L_spec_l00Word_0 K K (l, false, 1, ()) = _ := this
      simp only [show ¬ (l.length : Int) < 1 by omega, show ¬ (l.length : Int) > 12 by omega, show 1 ≤ l.length by omega, show l.length ≤ 12 by omega, show (0 : Int) < l.length by omega, letter_eq, this, obind, decide_true, decide_false, cond_false, cond_true, Int.le_refl, Bool.and_self, Bool.true_and, Int.toNat_zero]
      cases isL ((l.getD 0 0).toNat : Int)
      · rfl
      · cases (List.range' 1 (l.length - 1)).all fun i => isW ((l.getD i 0).toNat : Int) <;> rfl

theorem areAll_byte_eq (hK : 9223372036854775807 < K) (l : List UInt8) (hl : l.length ≤ 9223372036854775807) : R.impl_areAll_byte__impl_NameOK_1 K (bytesIn l) = some (((List.range' 0 l.length).all fun i => isW ((l.getD i 0).toNat : Int), ()), ()) := by
  have hb : (bytesIn l).length = l.length := by simp [bytesIn]
  obtain ⟨j, this⟩ := all_okI (L := fun n i => R.L_impl_areAll_byte__impl_NameOK_1_0 K n (bytesIn l, false, bytesIn l, bytesIn l, false, bytesIn l, bytesIn l, 0, ((bytesIn l).length : Int), (i : Nat), ())) (len := l.length) (p := fun i => isW ((l.getD i 0).toNat : Int))
    (t := Sum.inl (bytesIn l, false, bytesIn l, bytesIn l, false, bytesIn l, 0, ())) (f := fun i => Sum.inr (bytesIn l, false, bytesIn l, bytesIn l, false, bytesIn l, (i : Int), ()))
    (fun n => by simp [R.L_impl_areAll_byte__impl_NameOK_1_0, hb]) (fun n i hi => by
      simp only [R.L_impl_areAll_byte__impl_NameOK_1_0, wrap_succ hi hl, NameOK_1_eq, obind, Int.toNat_natCast, getD_bytesIn]
      cases isW ((l.getD i 0).toNat : Int) <;> simp [hi, hb]) l.length 0 K (by omega) (by omega)
  have this : R.L_impl_areAll_byte__impl_NameOK_1_0 K K (bytesIn l, false, bytesIn l, bytesIn l, false, bytesIn l, bytesIn l, 0, ((bytesIn l).length : Int), 0, ()) = _ := this
  unfold R.impl_areAll_byte__impl_NameOK_1
  rw [this]
  cases (List.range' 0 l.length).all fun i => isW ((l.getD i 0).toNat : Int) <;> simp [obind]

theorem NameOK_eq (hK : 9223372036854775807 < K) (l : List UInt8) : R.impl_NameOK K l = some ((wordM l, ()), ()) := by
  unfold R.impl_NameOK wordM
  by_cases h1 : 1 ≤ l.length
  · by_cases h2 : l.length ≤ 12
    · have e : (List.range' 0 l.length).all (fun i => isW ((l.getD i 0).toNat : Int)) = (isW ((l.getD 0 0).toNat : Int) && (List.range' 1 (l.length - 1)).all fun i => isW ((l.getD i 0).toNat : Int)) := by
        rw [show l.length = (l.length - 1) + 1 by omega, List.range'_succ, List.all_cons]; rfl
      simp only [R.impl_within, show (1 : Int) ≤ l.length by omega, show (l.length : Int) ≤ 12 by omega, show (0 : Int) < l.length by omega, h1, h2, isLetter_eq, areAll_byte_eq hK l (by omega), e, obind, decide_true, cond_true, Int.le_refl, Bool.and_self, Bool.true_and, Int.toNat_zero]
      unfold isW
      cases isL ((l.getD 0 0).toNat : Int) <;> simp
    · simp [R.impl_within, show (1 : Int) ≤ l.length by omega, show ¬ (l.length : Int) ≤ 12 by omega, h2, obind]
  · simp [R.impl_within, show ¬ (1 : Int) ≤ l.length by omega, h1, obind]


theorem in_eq (a b c : Int) : R.spec_l01In K a b c = some ((decide (b ≤ a) && decide (a ≤ c), ()), ()) := by
  unfold R.spec_l01In
  by_cases h : b ≤ a <;> simp [h]

theorem within_eq (a b c : Int) : R.impl_within K a b c = some ((decide (b ≤ a) && decide (a ≤ c), ()), ()) := by
  unfold R.impl_within
  by_cases h : b ≤ a <;> simp [h]

theorem wrap_pred {i n : Nat} (h : i + 1 < n) (hn : n ≤ 9223372036854775807) : IntKind.i64.wrap (((i + 1 : Nat) : Int) - 1) = (i : Int) := by
  rw [wrap_id (by omega) (by omega)]; omega
end Go.Proofs.Pure
