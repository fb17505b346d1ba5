/- Plain lemmas on what the functions come to. -/
import Derived.Test.YtfcldjomdbepjaaGreatFwA
import Derived.Test.YtfcldjomdbepjaaGreatAR
namespace Go.Proofs.Pure
open Go Fw
set_option linter.all false
set_option maxRecDepth 100000
variable {K : Nat}

theorem obind_some {α β : Type} (a : α) (f : α → Option β) : obind (some a) f = f a := rfl

theorem alt_self {α : Type} (a : Option α) : Fw.alt a a = a := if_pos rfl

theorem dup_eq {α : Type} (a : Option α) : Fw.dup a = a := alt_self a

theorem wrap_id {n : Int} (h1 : -9223372036854775808 ≤ n) (h2 : n ≤ 9223372036854775807) : IntKind.i64.wrap n = n := by
  show (if (true && decide (n % 18446744073709551616 ≥ 9223372036854775808)) = true then n % 18446744073709551616 - 18446744073709551616 else n % 18446744073709551616) = n
  rw [Bool.true_and]
  by_cases h : n % 18446744073709551616 ≥ 9223372036854775808
  · rw [if_pos (by simpa using h)]; omega
  · rw [if_neg (by simpa using h)]; omega

theorem wrap_succ {i n : Nat} (h : i < n) (hn : n ≤ 9223372036854775807) : IntKind.i64.wrap ((i : Int) + 1) = ((i + 1 : Nat) : Int) := by
  rw [wrap_id (by omega) (by omega)]
  omega

/-- a loop that looks whether all are so -/
theorem all_ok {τ : Type} {L : Nat → Nat → Option τ} {len : Nat} {p : Nat → Bool} {t f : τ} (h0 : ∀ n, L (n + 1) len = some t)
    (h1 : ∀ n i, i < len → L (n + 1) i = bif p i then L n (i + 1) else some f) :
    ∀ (m i n : Nat), i + m = len → m < n → L n i = some (bif (List.range' i m).all p then t else f)
  | 0, i, n + 1, hi, _ => by
    have : i = len := by omega
    subst this
    exact h0 n
  | m + 1, i, n + 1, hi, hn => by
    rw [h1 n i (by omega), List.range'_succ, List.all_cons]
    cases p i
    · rfl
    · simpa using all_ok h0 h1 m (i + 1) n (by omega) (by omega)

/-- the same, telling where -/
theorem all_okI {τ : Type} {L : Nat → Nat → Option τ} {len : Nat} {p : Nat → Bool} {t : τ} {f : Nat → τ} (h0 : ∀ n, L (n + 1) len = some t)
    (h1 : ∀ n i, i < len → L (n + 1) i = bif p i then L n (i + 1) else some (f i)) :
    ∀ (m i n : Nat), i + m = len → m < n → ∃ j, L n i = some (bif (List.range' i m).all p then t else f j)
  | 0, i, n + 1, hi, _ => by
    have : i = len := by omega
    subst this
    exact ⟨0, h0 n⟩
  | m + 1, i, n + 1, hi, hn => by
    rw [h1 n i (by omega), List.range'_succ, List.all_cons]
    cases e : p i
    · exact ⟨i, rfl⟩
    · simpa using all_okI h0 h1 m (i + 1) n (by omega) (by omega)

/-- a loop that writes one element after the other -/
theorem fill_ok {α τ : Type} {L : Nat → Nat → List α → Option τ} {len : Nat} {g : Nat → α} {fin : List α → τ} {ys0 : List α} (h0 : ∀ n ys, ys.length = len → L (n + 1) len ys = some (fin ys))
    (h1 : ∀ n i ys, ys.length = len → i < len → ys[i]? = ys0[i]? → L (n + 1) i ys = L n (i + 1) (ys.set i (g i))) :
    ∀ (m i n : Nat) (ys : List α), i + m = len → m < n → ys.length = len → (∀ j, j < i → ys[j]? = some (g j)) → (∀ j, i ≤ j → ys[j]? = ys0[j]?) → L n i ys = some (fin ((List.range len).map g))
  | 0, i, n + 1, ys, hi, _, hl, hb, _ => by
    have : i = len := by omega
    subst this
    rw [h0 n ys hl]
    congr 2
    apply List.ext_getElem? 
    intro j
    by_cases hj : j < i
    · rw [hb j hj]; simp [hj]
    · simp [hl, Nat.le_of_not_lt hj]
  | m + 1, i, n + 1, ys, hi, hn, hl, hb, ha => by
    rw [h1 n i ys hl (by omega) (ha i (Nat.le_refl _))]
    refine fill_ok h0 h1 m (i + 1) n _ (by omega) (by omega) (by simpa using hl) (fun j hj => ?_) (fun j hj => ?_)
    · by_cases e : j = i
      · subst e; simp [hl, show j < len by omega]
      · rw [List.getElem?_set_ne (by omega)]; exact hb j (by omega)
    · rw [List.getElem?_set_ne (by omega)]; exact ha j (by omega)

/-- a loop that looks for the first that is so -/
theorem find_ok {τ : Type} {L : Nat → Nat → Option τ} {len : Nat} {p : Nat → Bool} {t : τ} {f : Nat → τ} (h0 : ∀ n, L (n + 1) len = some t)
    (h1 : ∀ n i, i < len → L (n + 1) i = bif p i then some (f i) else L n (i + 1)) :
    ∀ (m i n : Nat), i + m = len → m < n → L n i = some (match (List.range' i m).find? p with | some j => f j | none => t)
  | 0, i, n + 1, hi, _ => by
    have : i = len := by omega
    subst this
    exact h0 n
  | m + 1, i, n + 1, hi, hn => by
    rw [h1 n i (by omega), List.range'_succ, List.find?_cons]
    cases p i
    · simpa using find_ok h0 h1 m (i + 1) n (by omega) (by omega)
    · rfl

theorem pair_eta {α β : Type} (p : α × β) : (p.1, p.2) = p := rfl

/-- as large as the program lets it be -/
def Wd : (t : Ty) → t.den → Prop
  | .int k, n => k.min ≤ n ∧ n ≤ k.max
  | .str, l => l.length ≤ Go.maxLen
  | .sl t, xs => xs.length ≤ Go.maxLen ∧ ∀ x ∈ xs, Wd t x
  | .pair a b, x => Wd a x.1 ∧ Wd b x.2
  | _, _ => True

/-- small: no list, no string of more than 2^20 -/
def Sm : (t : Ty) → t.den → Prop
  | .str, l => l.length ≤ 1048576
  | .sl t, xs => xs.length ≤ 1048576 ∧ ∀ x ∈ xs, Sm t x
  | .pair a b, x => Sm a x.1 ∧ Sm b x.2
  | _, _ => True

theorem getD_mem {α : Type} {xs : List α} {i : Nat} (d : α) (h : i < xs.length) : xs.getD i d ∈ xs := by
  rw [List.getD_eq_getElem?_getD, List.getElem?_eq_getElem h]
  exact List.getElem_mem h

theorem idx_lt {i n : Nat} (h : i < n) : decide ((i : Int) < (n : Int)) = true := by
  have : (i : Int) < n := by omega
  simp [this]

theorem idx_end {n : Nat} : decide ((n : Int) < (n : Int)) = false := by simp

/-- the loop that takes sizes off -/
theorem sz_loop {L : Nat → Nat → Int → Option ((Int × (Int × Unit)) ⊕ (Int × Unit))} {len : Nat} {S : Nat → Prop} (h0 : ∀ n p, L (n + 1) len p = some (.inl (p, 0, ())))
    (h1 : ∀ n i p, i < len → 0 ≤ p → p ≤ 1048576 → ∃ z, z ≤ p ∧ (0 ≤ z → S i) ∧ L (n + 1) i p = bif decide (z < 0) then some (.inr (-1, ())) else L n (i + 1) z) :
    ∀ (m i n : Nat) (p : Int), i + m = len → m < n → 0 ≤ p → p ≤ 1048576 →
      (∃ z, L n i p = some (.inl (z, 0, ())) ∧ 0 ≤ z ∧ z ≤ p ∧ ∀ j, i ≤ j → j < len → S j) ∨ L n i p = some (.inr (-1, ()))
  | 0, i, n + 1, p, hi, _, hp, _ => by
    have : i = len := by omega
    subst this
    exact .inl ⟨p, h0 n p, hp, by omega, fun j h1 h2 => by omega⟩
  | m + 1, i, n + 1, p, hi, hn, hp, hp' => by
    obtain ⟨z, hz, hs, e⟩ := h1 n i p (by omega) hp hp'
    rw [e]
    by_cases h : z < 0
    · exact .inr (by simp [h])
    · simp only [h, decide_false, cond_false]
      rcases sz_loop h0 h1 m (i + 1) n z (by omega) (by omega) (by omega) (by omega) with ⟨y, e', g1, g2, g3⟩ | e'
      · refine .inl ⟨y, e', g1, by omega, fun j h1 h2 => ?_⟩
        by_cases hj : j = i
        · subst hj; exact hs (by omega)
        · exact g3 j (by omega) h2
      · exact .inr e'

theorem idx_nn {i : Nat} : decide ((0 : Int) ≤ (i : Int)) = true := by simp

abbrev Ev := Int × Int × Bool

abbrev Wa := List UInt8 × Int × List Ev

theorem all_true {α : Type} (l : List α) : (l.all fun _ => true) = true := by induction l <;> simp_all

def isL (c : Int) : Bool := (decide (c ≥ 97) && decide (c ≤ 122)) || (decide (c ≥ 65) && decide (c ≤ 90)) || c == 95

def isD (c : Int) : Bool := decide (c ≥ 48) && decide (c ≤ 57)

theorem letter_eq (c : Int) : R.spec_l00Letter K c = some ((isL c, ()), ()) := by
  unfold R.spec_l00Letter isL
  by_cases h1 : c ≥ 97 <;> by_cases h2 : c ≤ 122 <;> by_cases h3 : c ≥ 65 <;> by_cases h4 : c ≤ 90 <;> simp [h1, h2, h3, h4]

theorem isLetter_eq (c : Int) : R.impl_isLetter K c = some ((isL c, ()), ()) := letter_eq (K := K) c

theorem digit_eq (c : Int) : R.spec_l00Digit K c = some ((isD c, ()), ()) := by
  unfold R.spec_l00Digit isD
  by_cases h1 : c ≥ 48 <;> simp [h1]

theorem isDigit_eq (c : Int) : R.impl_isDigit K c = some ((isD c, ()), ()) := digit_eq (K := K) c

def isW (c : Int) : Bool := isL c || isD c

theorem NameOK_1_eq (c : Int) : R.impl_NameOK_1 K c = some ((isW c, ()), ()) := by
  unfold R.impl_NameOK_1 isW
  rw [isLetter_eq, isDigit_eq]
  cases isL c <;> rfl

theorem getD_bytesIn (l : List UInt8) (i : Nat) : (bytesIn l).getD i 0 = ((l.getD i 0).toNat : Int) := by
  unfold bytesIn
  simp only [List.getD_eq_getElem?_getD, List.getElem?_map]
  cases l[i]? <;> rfl

def wordM (l : List UInt8) : Bool := decide (1 ≤ l.length) && decide (l.length ≤ 12) && isL ((l.getD 0 0).toNat : Int) && (List.range' 1 (l.length - 1)).all fun i => isW ((l.getD i 0).toNat : Int)

theorem word_eq (hK : 9223372036854775807 < K) (l : List UInt8) : R.spec_l00Word K l = some ((wordM l, ()), ()) := by
  unfold R.spec_l00Word wordM
  by_cases h1 : l.length < 1
  · simp [show (l.length : Int) < 1 by omega, show ¬ 1 ≤ l.length by omega]
  · by_cases h2 : l.length > 12
    · simp [show ¬ (l.length : Int) < 1 by omega, show (l.length : Int) > 12 by omega, show ¬ l.length ≤ 12 by omega]
    · have := all_ok (L := fun n i => R.L_spec_l00Word_0 K n (l, false, (i : Nat), ())) (len := l.length) (p := fun i => isW ((l.getD i 0).toNat : Int)) (t := Sum.inl (false, ())) (f := Sum.inr (false, ()))
        (fun n => by simp [R.L_spec_l00Word_0]) (fun n i hi => by
          simp only [R.L_spec_l00Word_0, wrap_succ hi (by omega), letter_eq, digit_eq, obind, isW, Int.toNat_natCast]
          cases isL ((l.getD i 0).toNat : Int) <;> cases isD ((l.getD i 0).toNat : Int) <;> simp [hi]) (l.length - 1) 1 K (by omega) (by omega)
      have this : R.L_spec_l00Word_0 K K (l, false, 1, ()) = _ := this
      simp only [show ¬ (l.length : Int) < 1 by omega, show ¬ (l.length : Int) > 12 by omega, show 1 ≤ l.length by omega, show l.length ≤ 12 by omega, show (0 : Int) < l.length by omega, letter_eq, this, obind, decide_true, decide_false, cond_false, cond_true, Int.le_refl, Bool.and_self, Bool.true_and, Int.toNat_zero]
      cases isL ((l.getD 0 0).toNat : Int)
      · rfl
      · cases (List.range' 1 (l.length - 1)).all fun i => isW ((l.getD i 0).toNat : Int) <;> rfl

theorem areAll_byte_eq (hK : 9223372036854775807 < K) (l : List UInt8) (hl : l.length ≤ 9223372036854775807) : R.impl_areAll_byte__impl_NameOK_1 K (bytesIn l) = some (((List.range' 0 l.length).all fun i => isW ((l.getD i 0).toNat : Int), ()), ()) := by
  have hb : (bytesIn l).length = l.length := by simp [bytesIn]
  obtain ⟨j, this⟩ := all_okI (L := fun n i => R.L_impl_areAll_byte__impl_NameOK_1_0 K n (bytesIn l, false, bytesIn l, bytesIn l, false, bytesIn l, bytesIn l, 0, ((bytesIn l).length : Int), (i : Nat), ())) (len := l.length) (p := fun i => isW ((l.getD i 0).toNat : Int))
    (t := Sum.inl (bytesIn l, false, bytesIn l, bytesIn l, false, bytesIn l, 0, ())) (f := fun i => Sum.inr (bytesIn l, false, bytesIn l, bytesIn l, false, bytesIn l, (i : Int), ()))
    (fun n => by simp [R.L_impl_areAll_byte__impl_NameOK_1_0, hb]) (fun n i hi => by
      simp only [R.L_impl_areAll_byte__impl_NameOK_1_0, wrap_succ hi hl, NameOK_1_eq, obind, Int.toNat_natCast, getD_bytesIn]
      cases isW ((l.getD i 0).toNat : Int) <;> simp [hi, hb]) l.length 0 K (by omega) (by omega)
  have this : R.L_impl_areAll_byte__impl_NameOK_1_0 K K (bytesIn l, false, bytesIn l, bytesIn l, false, bytesIn l, bytesIn l, 0, ((bytesIn l).length : Int), 0, ()) = _ := this
  unfold R.impl_areAll_byte__impl_NameOK_1
  rw [this]
  cases (List.range' 0 l.length).all fun i => isW ((l.getD i 0).toNat : Int) <;> simp [obind]

theorem NameOK_eq (hK : 9223372036854775807 < K) (l : List UInt8) : R.impl_NameOK K l = some ((wordM l, ()), ()) := by
  unfold R.impl_NameOK wordM
  by_cases h1 : 1 ≤ l.length
  · by_cases h2 : l.length ≤ 12
    · have e : (List.range' 0 l.length).all (fun i => isW ((l.getD i 0).toNat : Int)) = (isW ((l.getD 0 0).toNat : Int) && (List.range' 1 (l.length - 1)).all fun i => isW ((l.getD i 0).toNat : Int)) := by
        rw [show l.length = (l.length - 1) + 1 by omega, List.range'_succ, List.all_cons]; rfl
      simp only [R.impl_within, show (1 : Int) ≤ l.length by omega, show (l.length : Int) ≤ 12 by omega, show (0 : Int) < l.length by omega, h1, h2, isLetter_eq, areAll_byte_eq hK l (by omega), e, obind, decide_true, cond_true, Int.le_refl, Bool.and_self, Bool.true_and, Int.toNat_zero]
      unfold isW
      cases isL ((l.getD 0 0).toNat : Int) <;> simp
    · simp [R.impl_within, show (1 : Int) ≤ l.length by omega, show ¬ (l.length : Int) ≤ 12 by omega, h2, obind]
  · simp [R.impl_within, show ¬ (1 : Int) ≤ l.length by omega, h1, obind]


theorem in_eq (a b c : Int) : R.spec_l01In K a b c = some ((decide (b ≤ a) && decide (a ≤ c), ()), ()) := by
  unfold R.spec_l01In
  by_cases h : b ≤ a <;> simp [h]

theorem within_eq (a b c : Int) : R.impl_within K a b c = some ((decide (b ≤ a) && decide (a ≤ c), ()), ()) := by
  unfold R.impl_within
  by_cases h : b ≤ a <;> simp [h]

theorem wrap_pred {i n : Nat} (h : i + 1 < n) (hn : n ≤ 9223372036854775807) : IntKind.i64.wrap (((i + 1 : Nat) : Int) - 1) = (i : Int) := by
  rw [wrap_id (by omega) (by omega)]; omega

abbrev Rf := List UInt8 × Int × Int × Bool

def refGood (r : Rf) : Bool := wordM r.1 && (decide (1 ≤ r.2.2.1) && decide (r.2.2.1 ≤ 1000000)) && (bif r.2.2.2 then r.2.1 == 0 else decide (1 ≤ r.2.1) && decide (r.2.1 ≤ 60))

def refAt (xs : List Rf) (name : List UInt8) : Int := match (List.range' 0 xs.length).find? (fun i => (xs.getD i ([], 0, 0, false)).1 == name) with | some j => (j : Int) | none => -1

def refsM (xs : List Rf) : Bool := decide (xs.length ≤ 8) && (List.range' 0 xs.length).all fun i => refGood (xs.getD i ([], 0, 0, false)) && (refAt xs (xs.getD i ([], 0, 0, false)).1 == (i : Int))

theorem l04At_eq (hK : 9223372036854775807 < K) (xs : List Rf) (hx : xs.length ≤ 9223372036854775807) (s : List UInt8) : R.spec_l04At K xs s = some ((refAt xs s, ()), ()) := by
  have := find_ok (L := fun n i => R.L_spec_l04At_0 K n (xs, s, 0, (i : Nat), ())) (len := xs.length) (p := fun i => (xs.getD i ([], 0, 0, false)).1 == s) (t := Sum.inl (0, ())) (f := fun i => Sum.inr ((i : Int), ()))
    (fun n => by simp [R.L_spec_l04At_0]) (fun n i hi => by
      simp only [R.L_spec_l04At_0, wrap_succ hi hx, Int.toNat_natCast]
      cases (xs.getD i ([], 0, 0, false)).1 == s <;> simp [hi]) xs.length 0 K (by omega) (by omega)
  have this : R.L_spec_l04At_0 K K (xs, s, 0, 0, ()) = _ := this
  unfold R.spec_l04At refAt
  rw [this]
  cases (List.range' 0 xs.length).find? (fun i => (xs.getD i ([], 0, 0, false)).1 == s) <;> rfl

theorem l04OK_eq (hK : 9223372036854775807 < K) (xs : List Rf) : R.spec_l04OK K xs = some ((refsM xs, ()), ()) := by
  unfold R.spec_l04OK refsM
  by_cases h8 : xs.length ≤ 8
  · have := all_ok (L := fun n i => R.L_spec_l04OK_0 K n (xs, false, (i : Nat), ())) (len := xs.length) (p := fun i => refGood (xs.getD i ([], 0, 0, false)) && (refAt xs (xs.getD i ([], 0, 0, false)).1 == (i : Int))) (t := Sum.inl (false, ())) (f := Sum.inr (false, ()))
      (fun n => by simp [R.L_spec_l04OK_0]) (fun n i hi => by
        simp only [R.L_spec_l04OK_0, wrap_succ hi (by omega), Int.toNat_natCast, word_eq hK, in_eq, l04At_eq hK xs (by omega), obind_some, refGood]
        have g : ((i : Nat) : Int) < (xs.length : Int) := by omega
        have g' : (0 : Int) ≤ ((i : Nat) : Int) := by omega
        simp only [g, g', decide_true, Bool.and_self, cond_true]
        generalize xs.getD i ([], 0, 0, false) = x
        cases wordM x.1 <;> cases decide (1 ≤ x.2.2.1) && decide (x.2.2.1 ≤ 1000000) <;> try rfl
        simp only [bne]
        cases refAt xs x.1 == (i : Int) <;> cases x.2.2.2 <;> cases x.2.1 == 0 <;> cases decide (1 ≤ x.2.1) && decide (x.2.1 ≤ 60) <;> rfl) xs.length 0 K (by omega) (by omega)
    have this : R.L_spec_l04OK_0 K K (xs, false, 0, ()) = _ := this
    simp only [this, h8, show ¬ ((xs.length : Int) > 8) by omega, obind_some, decide_true, decide_false, cond_false, Bool.true_and]
    cases (List.range' 0 xs.length).all fun i => refGood (xs.getD i ([], 0, 0, false)) && (refAt xs (xs.getD i ([], 0, 0, false)).1 == (i : Int)) <;> rfl
  · simp [h8, show (xs.length : Int) > 8 by omega]

theorem isRef_eq (hK : 9223372036854775807 < K) (r : Rf) (h1 : r.1.length ≤ 9223372036854775807) : R.impl_isRef K r = some ((refGood r, ()), ()) := by
  unfold R.impl_isRef refGood R.impl_isHead
  simp only [NameOK_eq hK _, within_eq, obind_some]
  cases wordM r.1 <;> cases decide (1 ≤ r.2.2.1) && decide (r.2.2.1 ≤ 1000000) <;> try rfl
  cases r.2.2.2 <;> cases r.2.1 == 0 <;> cases decide (1 ≤ r.2.1) && decide (r.2.1 ≤ 60) <;> rfl

theorem sless_tri : ∀ a b : List UInt8, (!sless a b) = (sless b a || b == a)
  | [], [] => rfl
  | [], _ :: _ => rfl
  | _ :: _, [] => rfl
  | a :: x, b :: y => by
    have ih := sless_tri x y
    show (!(decide (a < b) || (a == b && sless x y))) = ((decide (b < a) || (b == a && sless y x)) || (b :: y == a :: x))
    rw [List.cons_beq_cons]
    by_cases h : a = b
    · subst h
      have : ¬ a < a := UInt8.lt_irrefl a
      simp only [this, decide_false, beq_self_eq_true, Bool.true_and, Bool.false_or]
      exact ih
    · have h' : (a == b) = false := by simpa using h
      have h'' : (b == a) = false := by simpa using fun e => h e.symm
      simp only [h', h'', Bool.false_and, Bool.or_false]
      by_cases hl : a < b
      · have : ¬ b < a := UInt8.lt_asymm hl
        simp [hl, this]
      · have : b < a := by
          have h1 : ¬ a.toNat < b.toNat := hl
          have h2 : a.toNat ≠ b.toNat := fun e => h (UInt8.toNat_inj.1 e)
          show b.toNat < a.toNat
          omega
        simp [hl, this]

abbrev En := List UInt8 × Int

abbrev Cm := List Int × List En

abbrev Ba := List Cm × List Rf

def inV (v : Int) : Bool := decide (-1000000 ≤ v) && decide (v ≤ 1000000)

/-- is the entry at 'i' well placed -/
def entOK (m : List En) (i : Nat) : Bool := wordM (m.getD i ([], 0)).1 && inV (m.getD i ([], 0)).2 && (decide (i = 0) || sless (m.getD (i - 1) ([], 0)).1 (m.getD i ([], 0)).1)

def mapM (m : List En) : Bool := decide (m.length ≤ 12) && (List.range' 0 m.length).all (entOK m)

theorem l01OK_eq (hK : 9223372036854775807 < K) (m : List En) : R.spec_l01OK K m = some ((mapM m, ()), ()) := by
  unfold R.spec_l01OK mapM
  by_cases h : m.length ≤ 12
  · have := all_ok (L := fun n i => R.L_spec_l01OK_0 K n (m, false, (i : Nat), ())) (len := m.length) (p := entOK m) (t := Sum.inl (false, ())) (f := Sum.inr (false, ()))
      (fun n => by simp only [R.L_spec_l01OK_0, idx_end, cond_false]) (fun n i hi => by
        simp only [R.L_spec_l01OK_0, wrap_succ hi (by omega), idx_lt hi, idx_nn, Bool.and_self, Int.toNat_natCast, word_eq hK, in_eq, obind_some, cond_true, entOK, inV]
        cases i with
        | zero =>
          cases wordM (m.getD 0 ([], 0)).1 <;> cases decide (-1000000 ≤ (m.getD 0 ([], 0)).2) && decide ((m.getD 0 ([], 0)).2 ≤ 1000000) <;> rfl
        | succ i =>
          have g1 : (((i + 1 : Nat) : Int) > 0) := by omega
          have g2 : i < m.length := by omega
          simp only [wrap_pred hi (by omega), Int.toNat_natCast, Nat.add_sub_cancel, idx_lt g2, idx_nn, Bool.and_self, g1, decide_true, cond_true, show ¬ (i + 1 = 0) by omega, decide_false, Bool.false_or]
          rw [← sless_tri]
          cases wordM (m.getD (i + 1) ([], 0)).1 <;> cases decide (-1000000 ≤ (m.getD (i + 1) ([], 0)).2) && decide ((m.getD (i + 1) ([], 0)).2 ≤ 1000000) <;> cases sless (m.getD i ([], 0)).1 (m.getD (i + 1) ([], 0)).1 <;> rfl) m.length 0 K (by omega) (by omega)
    have this : R.L_spec_l01OK_0 K K (m, false, 0, ()) = _ := this
    simp only [this, h, show ¬ ((m.length : Int) > 12) by omega, obind_some, decide_true, decide_false, cond_false, Bool.true_and]
    cases (List.range' 0 m.length).all (entOK m) <;> rfl
  · simp [h, show (m.length : Int) > 12 by omega]

theorem isValue_eq (v : Int) : R.impl_isValue K v = some ((inV v, ()), ()) := by
  unfold R.impl_isValue
  rw [within_eq]
  rfl

theorem MapOK_eq (hK : 9223372036854775807 < K) (m : List En) (hx : m.length ≤ 9223372036854775807) : R.impl_MapOK K m = some ((mapM m, ()), ()) := by
  have := all_ok (L := fun n i => R.L_impl_MapOK_0 K n (m, false, m, (m.length : Int), (i : Nat), ())) (len := m.length) (p := entOK m) (t := Sum.inl (m, false, ())) (f := Sum.inr (false, ()))
      (fun n => by simp only [R.L_impl_MapOK_0, idx_end, cond_false]) (fun n i hi => by
        simp only [R.L_impl_MapOK_0, wrap_succ hi hx, idx_lt hi, idx_nn, Bool.and_self, Int.toNat_natCast, NameOK_eq hK, isValue_eq, obind_some, cond_true, entOK]
        cases i with
        | zero =>
          cases wordM (m.getD 0 ([], 0)).1 <;> cases inV (m.getD 0 ([], 0)).2 <;> rfl
        | succ i =>
          have g1 : (((i + 1 : Nat) : Int) > 0) := by omega
          have g2 : i < m.length := by omega
          simp only [wrap_pred hi hx, Int.toNat_natCast, Nat.add_sub_cancel, idx_lt g2, idx_nn, Bool.and_self, g1, decide_true, cond_true, show ¬ (i + 1 = 0) by omega, decide_false, Bool.false_or]
          cases wordM (m.getD (i + 1) ([], 0)).1 <;> cases inV (m.getD (i + 1) ([], 0)).2 <;> cases sless (m.getD i ([], 0)).1 (m.getD (i + 1) ([], 0)).1 <;> rfl) m.length 0 K (by omega) (by omega)
  have this : R.L_impl_MapOK_0 K K (m, false, m, (m.length : Int), 0, ()) = _ := this
  unfold R.impl_MapOK mapM
  rw [this]
  cases (List.range' 0 m.length).all (entOK m)
  · simp [obind]
  · by_cases h : m.length ≤ 12
    · simp [obind, h, show (m.length : Int) ≤ 12 by omega]
    · simp [obind, h, show ¬ (m.length : Int) ≤ 12 by omega]


def parM (n : Nat) (ps : List Int) : Bool := match ps with
  | [] => true
  | [p] => decide (1 ≤ p) && decide (p ≤ (n : Int))
  | p :: q :: _ => (decide (1 ≤ p) && decide (p ≤ (n : Int))) && (decide (1 ≤ q) && decide (q ≤ (n : Int))) && !(q == p)

def commitM (n : Nat) (c : Cm) : Bool := mapM c.2 && decide (c.1.length ≤ 2) && (decide (c.1.length = 0) == decide (n = 0)) && parM n c.1

theorem int0 {n : Nat} : ((n : Int) == 0) = decide (n = 0) := by
  by_cases h : n = 0
  · simp [h]
  · have : (n : Int) ≠ 0 := by omega
    simp [h, this]

theorem l03Commit_eq (hK : 9223372036854775807 < K) (s : List Cm) (c : Cm) : R.spec_l03Commit K s c = some ((commitM s.length c, ()), ()) := by
  unfold R.spec_l03Commit commitM
  simp only [l01OK_eq hK, obind_some, int0]
  cases mapM c.2
  · rfl
  obtain ⟨k, rfl⟩ : ∃ k, K = k + 3 := ⟨K - 3, by omega⟩
  obtain ⟨ps, m⟩ := c
  match ps with
  | [] => cases h : decide (s.length = 0) <;> simp [h, R.L_spec_l03Commit_0, obind, parM]
  | [p] =>
    have w1 : IntKind.i64.wrap 1 = 1 := by decide
    have w2 : IntKind.i64.wrap (0 + 1) = 1 := by decide
    cases h : decide (s.length = 0)
    · cases h1 : decide (1 ≤ p) && decide (p ≤ (s.length : Int)) <;> simp [h, h1, R.L_spec_l03Commit_0, obind, parM, in_eq, w1]
    · simp [h]
  | [p, q] =>
    have w1 : IntKind.i64.wrap 1 = 1 := by decide
    have w2 : IntKind.i64.wrap 2 = 2 := by decide
    cases h : decide (s.length = 0)
    · cases h1 : decide (1 ≤ p) && decide (p ≤ (s.length : Int)) <;> cases h2 : decide (1 ≤ q) && decide (q ≤ (s.length : Int)) <;> cases h3 : q == p <;> simp [h, h1, h2, h3, R.L_spec_l03Commit_0, obind, parM, in_eq, w1, w2]
    · simp [h]
  | p :: q :: r :: t =>
    have h1 : ((p :: q :: r :: t : List Int).length : Int) > 2 := by simp; omega
    have h2 : ¬ (p :: q :: r :: t : List Int).length ≤ 2 := by simp
    simp only [h1, h2, decide_true, decide_false, cond_true, cond_false, Bool.not_true, Bool.and_false, Bool.false_and]

theorem areAll_int_at_eq (hK : 9223372036854775807 < K) (ps : List Int) (hl : ps.length ≤ 2) (n : Nat) (hn : n ≤ 1000000) : R.impl_areAll_int__impl_Commit_isAt_1 K ps ((n : Int) + 1) = some ((ps.all fun p => decide (1 ≤ p) && decide (p ≤ (n : Int)), ()), ()) := by
  obtain ⟨k, rfl⟩ : ∃ k, K = k + 3 := ⟨K - 3, by omega⟩
  have w1 : IntKind.i64.wrap 1 = 1 := by decide
  have w2 : IntKind.i64.wrap 2 = 2 := by decide
  have wn : IntKind.i64.wrap (n : Int) = n := wrap_id (by omega) (by omega)
  unfold R.impl_areAll_int__impl_Commit_isAt_1
  match ps with
  | [] => simp [R.L_impl_areAll_int__impl_Commit_isAt_1_0, obind]
  | [p] =>
    by_cases a1 : 1 ≤ p <;> by_cases a2 : p ≤ (n : Int) <;> simp [R.L_impl_areAll_int__impl_Commit_isAt_1_0, obind, within_eq, w1, wn, a1, a2]
  | [p, q] =>
    by_cases a1 : 1 ≤ p <;> by_cases a2 : p ≤ (n : Int) <;> by_cases b1 : 1 ≤ q <;> by_cases b2 : q ≤ (n : Int) <;> simp [R.L_impl_areAll_int__impl_Commit_isAt_1_0, obind, within_eq, w1, w2, wn, a1, a2, b1, b2]
  | _ :: _ :: _ :: _ => simp at hl

theorem len_eq2 {n : Nat} : ((n : Int) == 2) = decide (n = 2) := by
  by_cases h : n = 2
  · simp [h]
  · have : (n : Int) ≠ 2 := by omega
    simp [h, this]

theorem isAt_eq (hK : 9223372036854775807 < K) (c : Cm) (hx : c.2.length ≤ 9223372036854775807) (n : Nat) (hn : n ≤ 1000000) : R.impl_Commit_isAt K c ((n : Int) + 1) = some ((commitM n c, ()), ()) := by
  unfold R.impl_Commit_isAt commitM
  have hid : ((n : Int) + 1 == 1) = decide (n = 0) := by
    by_cases h : n = 0
    · simp [h]
    · have : ((n : Int) + 1) ≠ 1 := by omega
      simp [h, this]
  simp only [MapOK_eq hK _ hx, obind_some, int0, hid, len_eq2]
  cases mapM c.2
  · rfl
  by_cases h2 : c.1.length ≤ 2
  · simp only [areAll_int_at_eq hK c.1 h2 n hn, obind_some, show ¬ ((c.1.length : Int) > 2) by omega, h2, decide_true, decide_false, cond_false, Bool.not_true, Bool.true_and, Bool.and_true]
    obtain ⟨ps, m⟩ := c
    match ps with
    | [] => cases h : decide (n = 0) <;> simp [h, parM]
    | [p] => cases h : decide (n = 0) <;> simp [h, parM]
    | [p, q] =>
      have e : (p == q) = (q == p) := Bool.beq_comm
      cases h : decide (n = 0) <;> cases h1 : decide (1 ≤ p) && decide (p ≤ (n : Int)) <;> cases h3 : decide (1 ≤ q) && decide (q ≤ (n : Int)) <;> cases h4 : q == p <;> simp [h, h1, h3, h4, e, parM]
    | _ :: _ :: _ :: _ => simp at h2
  · have h3 : (c.1.length : Int) > 2 := by omega
    simp only [h2, h3, decide_true, decide_false, cond_true, cond_false, Bool.not_true, Bool.and_false, Bool.false_and]

def storeM (s : List Cm) : Bool := decide (1 ≤ s.length) && decide (s.length ≤ 60) && (List.range' 0 s.length).all fun i => commitM i (s.getD i ([], []))

theorem l03OK_eq (hK : 9223372036854775807 < K) (s : List Cm) : R.spec_l03OK K s = some ((storeM s, ()), ()) := by
  unfold R.spec_l03OK storeM
  simp only [in_eq, obind_some]
  by_cases h1 : 1 ≤ s.length
  · by_cases h2 : s.length ≤ 60
    · have := all_ok (L := fun n i => R.L_spec_l03OK_0 K n (s, false, (i : Nat), ())) (len := s.length) (p := fun i => commitM i (s.getD i ([], []))) (t := Sum.inl (false, ())) (f := Sum.inr (false, ()))
        (fun n => by simp only [R.L_spec_l03OK_0, idx_end, cond_false]) (fun n i hi => by
          have g : ((i : Nat) : Int) ≤ (s.length : Int) := by omega
          have e : (List.drop 0 (List.take i s)).length = i := by simp; omega
          simp only [R.L_spec_l03OK_0, wrap_succ hi (by omega), idx_lt hi, idx_nn, Bool.and_self, Int.toNat_natCast, l03Commit_eq hK, obind_some, cond_true, g, decide_true, e]
          cases commitM i (s.getD i ([], [])) <;> rfl) s.length 0 K (by omega) (by omega)
      have this : R.L_spec_l03OK_0 K K (s, false, 0, ()) = _ := this
      simp only [this, show (1 : Int) ≤ s.length by omega, show (s.length : Int) ≤ 60 by omega, h1, h2, obind_some, decide_true, Bool.and_self, Bool.not_true, cond_false, Bool.true_and]
      cases (List.range' 0 s.length).all fun i => commitM i (s.getD i ([], [])) <;> rfl
    · simp [h2, show ¬ (s.length : Int) ≤ 60 by omega]
  · simp [h1, show ¬ (1 : Int) ≤ s.length by omega]

theorem areCommits_eq (hK : 9223372036854775807 < K) (s : List Cm) (hs : s.length ≤ 4096) (hw : ∀ c ∈ s, c.2.length ≤ 9223372036854775807) : R.impl_areCommits K s = some ((decide (s.length ≤ 60) && (List.range' 0 s.length).all fun i => commitM i (s.getD i ([], [])), ()), ()) := by
  have := all_ok (L := fun n i => R.L_impl_areCommits_0 K n (s, false, s, (s.length : Int), (i : Nat), ())) (len := s.length) (p := fun i => commitM i (s.getD i ([], []))) (t := Sum.inl (s, false, ())) (f := Sum.inr (false, ()))
    (fun n => by simp only [R.L_impl_areCommits_0, idx_end, cond_false]) (fun n i hi => by
      have e : IntKind.i64.wrap ((i : Int) + 1) = (i : Int) + 1 := wrap_id (by omega) (by omega)
      simp only [R.L_impl_areCommits_0, e, idx_lt hi, idx_nn, Bool.and_self, Int.toNat_natCast, isAt_eq hK _ (hw _ (getD_mem ([], []) hi)) i (by omega), obind_some, cond_true]
      cases commitM i (s.getD i ([], []))
      · rfl
      · simp) s.length 0 K (by omega) (by omega)
  have this : R.L_impl_areCommits_0 K K (s, false, s, (s.length : Int), 0, ()) = _ := this
  unfold R.impl_areCommits
  rw [this]
  cases (List.range' 0 s.length).all fun i => commitM i (s.getD i ([], []))
  · simp [obind]
  · by_cases h : s.length ≤ 60
    · simp [obind, h, show (s.length : Int) ≤ 60 by omega]
    · simp [obind, h, show ¬ (s.length : Int) ≤ 60 by omega]

theorem StoreOK_eq (hK : 9223372036854775807 < K) (s : List Cm) (hw : ∀ c ∈ s, c.2.length ≤ 9223372036854775807) : R.impl_StoreOK K s = some ((storeM s, ()), ()) := by
  unfold R.impl_StoreOK storeM
  by_cases h1 : 1 ≤ s.length
  · by_cases h2 : s.length ≤ 4096
    · simp only [show (s.length : Int) > 0 by omega, show (s.length : Int) ≤ 4096 by omega, areCommits_eq hK s h2 hw, obind_some, decide_true, cond_true, h1, Bool.true_and]
    · simp [show (s.length : Int) > 0 by omega, h2, show ¬ (s.length : Int) ≤ 4096 by omega, show ¬ s.length ≤ 60 by omega]
  · simp [h1, show ¬ (0 : Int) < s.length by omega, show ¬ 0 < s.length by omega]


theorem areAll_isRef_eq (hK : 9223372036854775807 < K) (xs : List Rf) (hl : xs.length ≤ 8) (hn : ∀ r ∈ xs, r.1.length ≤ 9223372036854775807) : R.impl_areAll_impl_Ref__impl_isRef K xs = some (((List.range' 0 xs.length).all fun i => refGood (xs.getD i ([], 0, 0, false)), ()), ()) := by
  obtain ⟨j, this⟩ := all_okI (L := fun n i => R.L_impl_areAll_impl_Ref__impl_isRef_0 K n (xs, false, xs, xs, false, xs, xs, 0, (xs.length : Int), (i : Nat), ())) (len := xs.length) (p := fun i => refGood (xs.getD i ([], 0, 0, false)))
    (t := Sum.inl (xs, false, xs, xs, false, xs, 0, ())) (f := fun i => Sum.inr (xs, false, xs, xs, false, xs, (i : Int), ()))
    (fun n => by simp only [R.L_impl_areAll_impl_Ref__impl_isRef_0, idx_end, cond_false]) (fun n i hi => by
      simp only [R.L_impl_areAll_impl_Ref__impl_isRef_0, wrap_succ hi (by omega), idx_lt hi, idx_nn, Bool.and_self, Int.toNat_natCast, isRef_eq hK _ (hn _ (getD_mem _ hi)), obind_some, cond_true]
      cases refGood (xs.getD i ([], 0, 0, false)) <;> rfl) xs.length 0 K (by omega) (by omega)
  have this : R.L_impl_areAll_impl_Ref__impl_isRef_0 K K (xs, false, xs, xs, false, xs, xs, 0, (xs.length : Int), 0, ()) = _ := this
  unfold R.impl_areAll_impl_Ref__impl_isRef
  rw [this]
  cases (List.range' 0 xs.length).all fun i => refGood (xs.getD i ([], 0, 0, false)) <;> simp [obind]

theorem place_eq (hK : 9223372036854775807 < K) (xs : List Rf) (hx : xs.length ≤ 9223372036854775807) (s : List UInt8) : R.impl_place K xs s = some ((refAt xs s, ()), ()) := by
  have := find_ok (L := fun n i => R.L_slices_IndexFunc_impl_Ref__impl_place_1_0 K n (xs, s, 0, (xs.length : Int), (i : Nat), ())) (len := xs.length) (p := fun i => (xs.getD i ([], 0, 0, false)).1 == s) (t := Sum.inl (0, ())) (f := fun i => Sum.inr ((i : Int), ()))
    (fun n => by simp only [R.L_slices_IndexFunc_impl_Ref__impl_place_1_0, idx_end, cond_false]) (fun n i hi => by
      simp only [R.L_slices_IndexFunc_impl_Ref__impl_place_1_0, wrap_succ hi hx, idx_lt hi, idx_nn, Bool.and_self, Int.toNat_natCast, cond_true]) xs.length 0 K (by omega) (by omega)
  have this : R.L_slices_IndexFunc_impl_Ref__impl_place_1_0 K K (xs, s, 0, (xs.length : Int), 0, ()) = _ := this
  unfold R.impl_place R.slices_IndexFunc_impl_Ref__impl_place_1 refAt
  rw [this]
  cases (List.range' 0 xs.length).find? (fun i => (xs.getD i ([], 0, 0, false)).1 == s) <;> rfl

theorem take_getD {α : Type} (xs : List α) (d : α) {i j : Nat} (h : j < i) : (xs.take i).getD j d = xs.getD j d := by
  simp [List.getD_eq_getElem?_getD, List.getElem?_take, h]

theorem find_congr {α : Type} {p q : α → Bool} : ∀ {l : List α}, (∀ j ∈ l, p j = q j) → l.find? p = l.find? q
  | [], _ => rfl
  | a :: l, h => by
    rw [List.find?_cons, List.find?_cons, h a (by simp), find_congr (l := l) fun j hj => h j (by simp [hj])]

theorem refAt_take (xs : List Rf) (i : Nat) (hi : i < xs.length) : decide (refAt (xs.take i) (xs.getD i ([], 0, 0, false)).1 ≥ 0) = !(refAt xs (xs.getD i ([], 0, 0, false)).1 == (i : Int)) := by
  have hl : (xs.take i).length = i := by simp; omega
  have hp : ∀ j ∈ List.range' 0 i, (((xs.take i).getD j ([], 0, 0, false)).1 == (xs.getD i ([], 0, 0, false)).1) = ((xs.getD j ([], 0, 0, false)).1 == (xs.getD i ([], 0, 0, false)).1) := fun j hj => by
    rw [take_getD]
    simp at hj; omega
  have hs : List.range' 0 xs.length = List.range' 0 i ++ List.range' i (xs.length - i) := by
    have := List.range'_append_1 (s := 0) (m := i) (n := xs.length - i)
    rw [Nat.zero_add] at this
    rw [this]; congr 1; omega
  have hc : List.range' i (xs.length - i) = i :: List.range' (i + 1) (xs.length - i - 1) := by
    rw [show xs.length - i = (xs.length - i - 1) + 1 by omega, List.range'_succ]; simp
  unfold refAt
  rw [hl, find_congr (q := fun j => (xs.getD j ([], 0, 0, false)).1 == (xs.getD i ([], 0, 0, false)).1) hp, hs, List.find?_append, hc]
  cases e : (List.range' 0 i).find? (fun j => (xs.getD j ([], 0, 0, false)).1 == (xs.getD i ([], 0, 0, false)).1) with
  | none => simp
  | some j =>
    have hj : j < i := by
      have := List.mem_of_find?_eq_some e
      simp at this; omega
    have : ((j : Int) == (i : Int)) = false := by
      have : (j : Int) ≠ i := by omega
      simpa using this
    simp [this]

theorem RefsOK_eq (hK : 9223372036854775807 < K) (xs : List Rf) (hn : ∀ r ∈ xs, r.1.length ≤ 9223372036854775807) : R.impl_RefsOK K xs = some ((refsM xs, ()), ()) := by
  unfold R.impl_RefsOK refsM
  by_cases h8 : xs.length ≤ 8
  · have := all_ok (L := fun n i => R.L_impl_RefsOK_0 K n (xs, false, xs, (xs.length : Int), (i : Nat), ())) (len := xs.length) (p := fun i => refAt xs (xs.getD i ([], 0, 0, false)).1 == (i : Int)) (t := Sum.inl (false, ())) (f := Sum.inr (false, ()))
      (fun n => by simp only [R.L_impl_RefsOK_0, idx_end, cond_false]) (fun n i hi => by
        have g : ((i : Nat) : Int) ≤ (xs.length : Int) := by omega
        have hl : (xs.take i).length ≤ 9223372036854775807 := by simp; omega
        simp only [R.L_impl_RefsOK_0, wrap_succ hi (by omega), idx_lt hi, idx_nn, Bool.and_self, Int.toNat_natCast, List.drop_zero, place_eq hK _ hl, obind_some, cond_true, g, decide_true, refAt_take xs i hi]
        cases refAt xs (xs.getD i ([], 0, 0, false)).1 == (i : Int) <;> rfl) xs.length 0 K (by omega) (by omega)
    have this : R.L_impl_RefsOK_0 K K (xs, false, xs, (xs.length : Int), 0, ()) = _ := this
    have hand : ((List.range' 0 xs.length).all fun i => refGood (xs.getD i ([], 0, 0, false)) && (refAt xs (xs.getD i ([], 0, 0, false)).1 == (i : Int))) = (((List.range' 0 xs.length).all fun i => refGood (xs.getD i ([], 0, 0, false))) && (List.range' 0 xs.length).all fun i => refAt xs (xs.getD i ([], 0, 0, false)).1 == (i : Int)) := by
      induction List.range' 0 xs.length with
      | nil => rfl
      | cons a l ih =>
        simp only [List.all_cons, ih]
        cases refGood (xs.getD a ([], 0, 0, false)) <;> cases refAt xs (xs.getD a ([], 0, 0, false)).1 == (a : Int) <;> simp
    simp only [this, areAll_isRef_eq hK xs h8 hn, h8, show ¬ ((xs.length : Int) > 8) by omega, obind_some, decide_true, decide_false, cond_false, Bool.true_and, hand]
    cases (List.range' 0 xs.length).all fun i => refGood (xs.getD i ([], 0, 0, false)) <;> cases (List.range' 0 xs.length).all fun i => refAt xs (xs.getD i ([], 0, 0, false)).1 == (i : Int) <;> rfl
  · simp [h8, show (xs.length : Int) > 8 by omega]


def baseM (b : Ba) : Bool := storeM b.1 && refsM b.2 && (List.range' 0 b.2.length).all fun i => decide ((b.2.getD i ([], 0, 0, false)).2.1 ≤ (b.1.length : Int))

theorem l05OK_eq (hK : 9223372036854775807 < K) (b : Ba) (hx : b.2.length ≤ 9223372036854775807) : R.spec_l05OK K b = some ((baseM b, ()), ()) := by
  unfold R.spec_l05OK baseM
  simp only [l03OK_eq hK, l04OK_eq hK, obind_some]
  cases storeM b.1
  · rfl
  cases refsM b.2
  · rfl
  have := all_ok (L := fun n i => R.L_spec_l05OK_0 K n (false, (i : Nat), b.1, b.2, ())) (len := b.2.length) (p := fun i => decide ((b.2.getD i ([], 0, 0, false)).2.1 ≤ (b.1.length : Int))) (t := Sum.inl (false, ())) (f := Sum.inr (false, ()))
    (fun n => by simp only [R.L_spec_l05OK_0, idx_end, cond_false]) (fun n i hi => by
      simp only [R.L_spec_l05OK_0, wrap_succ hi hx, idx_lt hi, idx_nn, Bool.and_self, Int.toNat_natCast, cond_true]
      by_cases h : (b.2.getD i ([], 0, 0, false)).2.1 ≤ (b.1.length : Int)
      · simp only [h, show ¬ ((b.2.getD i ([], 0, 0, false)).2.1 > (b.1.length : Int)) by omega, decide_true, decide_false]; rfl
      · simp only [h, show ((b.2.getD i ([], 0, 0, false)).2.1 > (b.1.length : Int)) by omega, decide_true, decide_false]; rfl) b.2.length 0 K (by omega) (by omega)
  have this : R.L_spec_l05OK_0 K K (false, 0, b.1, b.2, ()) = _ := this
  rw [this]
  cases (List.range' 0 b.2.length).all fun i => decide ((b.2.getD i ([], 0, 0, false)).2.1 ≤ (b.1.length : Int)) <;> rfl

theorem areAll_BaseOK_eq (hK : 9223372036854775807 < K) (xs : List Rf) (b : Ba) (hx : xs.length ≤ 9223372036854775807) : R.impl_areAll_impl_Ref__impl_BaseOK_1 K xs b = some (((List.range' 0 xs.length).all fun i => decide ((xs.getD i ([], 0, 0, false)).2.1 ≤ (b.1.length : Int)), ()), ()) := by
  obtain ⟨j, this⟩ := all_okI (L := fun n i => R.L_impl_areAll_impl_Ref__impl_BaseOK_1_0 K n (xs, b, false, xs, xs, false, xs, xs, 0, (xs.length : Int), (i : Nat), b, ())) (len := xs.length) (p := fun i => decide ((xs.getD i ([], 0, 0, false)).2.1 ≤ (b.1.length : Int)))
    (t := Sum.inl (xs, b, false, xs, xs, false, xs, 0, b, ())) (f := fun i => Sum.inr (xs, b, false, xs, xs, false, xs, (i : Int), b, ()))
    (fun n => by simp only [R.L_impl_areAll_impl_Ref__impl_BaseOK_1_0, idx_end, cond_false]) (fun n i hi => by
      simp only [R.L_impl_areAll_impl_Ref__impl_BaseOK_1_0, wrap_succ hi hx, idx_lt hi, idx_nn, Bool.and_self, Int.toNat_natCast, cond_true]
      cases decide ((xs.getD i ([], 0, 0, false)).2.1 ≤ (b.1.length : Int)) <;> rfl) xs.length 0 K (by omega) (by omega)
  have this : R.L_impl_areAll_impl_Ref__impl_BaseOK_1_0 K K (xs, b, false, xs, xs, false, xs, xs, 0, (xs.length : Int), 0, b, ()) = _ := this
  unfold R.impl_areAll_impl_Ref__impl_BaseOK_1
  rw [this]
  cases (List.range' 0 xs.length).all fun i => decide ((xs.getD i ([], 0, 0, false)).2.1 ≤ (b.1.length : Int)) <;> simp [obind]

theorem BaseOK_eq (hK : 9223372036854775807 < K) (b : Ba) (hx : b.2.length ≤ 9223372036854775807) (hw : ∀ c ∈ b.1, c.2.length ≤ 9223372036854775807) (hn : ∀ r ∈ b.2, r.1.length ≤ 9223372036854775807) : R.impl_BaseOK K b = some ((baseM b, ()), ()) := by
  unfold R.impl_BaseOK baseM
  simp only [StoreOK_eq hK _ hw, RefsOK_eq hK _ hn, areAll_BaseOK_eq hK _ _ hx, obind_some]
  cases storeM b.1 <;> cases refsM b.2 <;> rfl

theorem getD_set {α : Type} {d a : α} {xs : List α} {i : Nat} (h : i < xs.length) : (xs.set i a).getD i d = a := by
  simp [List.getD_eq_getElem?_getD, h]

theorem getD_set_ne {α : Type} {d a : α} {xs : List α} {i j : Nat} (h : i ≠ j) : (xs.set i a).getD j d = xs.getD j d := by
  simp [List.getD_eq_getElem?_getD, List.getElem?_set, h]

theorem nbeq {n : Nat} : Nat.beq n n = true := Nat.beq_refl n

theorem bleC {a b : Nat} (h : a ≤ b) : Nat.ble a b = true := Nat.ble_eq_true_of_le h

theorem lt0 {k : Int} (h : 0 ≤ k) : decide (k < 0) = false := by simp; omega

theorem bytes1 (n : Int) : (bytesOut [n]).length = 1 := rfl

theorem markTextL (a : List UInt8) : ∀ (m n : Nat) (k : Int) (s : List UInt8), 0 ≤ k → k ≤ 9223372036854775807 → k < 10 ^ m → m < n → s.length + m ≤ 1000 →
    ∃ s', R.L_laws_markText_0 K n (k, a, s, ()) = some (.inl (a, s', ())) ∧ s'.length ≤ s.length + m
  | 0, n + 1, k, s, h0, _, h1, hn, hs => by
    have hk : k = 0 := by simp at h1; omega
    subst hk
    refine ⟨s, ?_, by omega⟩
    simp [R.L_laws_markText_0]
  | m + 1, n + 1, k, s, h0, h2, h1, hn, hs => by
    by_cases hk : k > 0
    · have hb : Nat.ble (1 + s.length) 268435456 = true := Nat.ble_eq_true_of_le (by omega)
      have hlt : k / 10 < 10 ^ m := by
        have : (10 : Int) ^ (m + 1) = 10 ^ m * 10 := Int.pow_succ _ _
        rw [this] at h1
        omega
      have hdn : IntKind.i64.wrap (Int.tdiv k 10) = k / 10 := by
        rw [Int.tdiv_eq_ediv_of_nonneg h0]
        exact wrap_id (by omega) (by omega)
      obtain ⟨s', e, l⟩ := markTextL a m n (k / 10) (bytesOut [IntKind.u8.wrap (IntKind.i64.wrap (48 + Int.tmod k 10))] ++ s) (by omega) (by omega) hlt (by omega) (by rw [List.length_append, bytes1]; omega)
      refine ⟨s', ?_, by rw [List.length_append, bytes1] at l; omega⟩
      simp only [R.L_laws_markText_0, hk, decide_true, cond_true, bytes1, hb, hdn]
      exact e
    · refine ⟨s, ?_, by omega⟩
      simp only [R.L_laws_markText_0, hk, decide_false, cond_false]

theorem markText_ok (hK : 9223372036854775807 < K) (k : Int) (h0 : 0 ≤ k) (h1 : k ≤ 9223372036854775807) : ∃ t, R.laws_markText K k = some ((t, ()), ()) := by
  unfold R.laws_markText
  by_cases hk : k ≤ 0
  · simp only [hk, decide_true, cond_true]
    exact ⟨_, rfl⟩
  · simp only [hk, decide_false, cond_false]
    obtain ⟨s', e, l⟩ := markTextL (K := K) [] 20 K k [] h0 h1 (by omega) (by omega) (by simp)
    have e : R.L_laws_markText_0 K K (k, Array.toList (ByteArray.data (ByteArray.mk #[])), Array.toList (ByteArray.data (ByteArray.mk #[])), ()) = some (.inl ([], s', ())) := e
    have hb : Nat.ble ((Array.toList (ByteArray.data (ByteArray.mk #[109]))).length + s'.length) 268435456 = true := Nat.ble_eq_true_of_le (by simp at l ⊢; omega)
    simp only [e, obind_some, hb, cond_true]
    exact ⟨_, rfl⟩

/-- marks from k on up to k', one element after another -/
def HeldL {E : Type} (H : Int → E → Int → Prop) (d : E) (ys : List E) : Nat → Nat → Int → Int → Prop
  | _, 0, k, k' => k = k'
  | i, m + 1, k, k' => ∃ k1, H k (ys.getD i d) k1 ∧ k ≤ k1 ∧ HeldL H d ys (i + 1) m k1 k'

theorem mark_loop {E τ : Type} {d : E} {L : Nat → Nat → Int → List E → Option τ} {len : Nat} {fin : Int → List E → τ} {c B : Int} {H : Int → E → Int → Prop} {Good : E → Prop} (hc : 0 ≤ c)
    (h0 : ∀ n k xs, xs.length = len → L (n + 1) len k xs = some (fin k xs))
    (h1 : ∀ n i k xs, i < len → xs.length = len → 0 ≤ k → k + c ≤ B → Good (xs.getD i d) → ∃ k' y, k ≤ k' ∧ k' ≤ k + c ∧ H k y k' ∧ L (n + 1) i k xs = L n (i + 1) k' (xs.set i y)) :
    ∀ (m i n : Nat) (k : Int) (xs : List E), i + m = len → m < n → xs.length = len → 0 ≤ k → k + c * (m : Int) ≤ B → (∀ j, i ≤ j → j < len → Good (xs.getD j d)) →
      ∃ k' ys, L n i k xs = some (fin k' ys) ∧ k ≤ k' ∧ k' ≤ k + c * (m : Int) ∧ ys.length = len ∧ (∀ j, j < i → ys.getD j d = xs.getD j d) ∧ HeldL H d ys i m k k'
  | 0, i, n + 1, k, xs, hi, _, hx, hk, hB, _ => by
    have : i = len := by omega
    subst this
    exact ⟨k, xs, h0 n k xs hx, by omega, by simp, hx, fun _ _ => rfl, rfl⟩
  | m + 1, i, n + 1, k, xs, hi, hn, hx, hk, hB, hg => by
    have hm : c * ((m + 1 : Nat) : Int) = c * (m : Int) + c := by rw [Int.natCast_add, Int.mul_add]; simp
    have hcm : 0 ≤ c * (m : Int) := Int.mul_nonneg hc (by omega)
    obtain ⟨k1, y, l1, l2, hH, e⟩ := h1 n i k xs (by omega) hx hk (by omega) (hg i (by omega) (by omega))
    have hix : i < xs.length := by omega
    obtain ⟨k', ys, e', g1, g2, g3, g4, g5⟩ := mark_loop hc h0 h1 m (i + 1) n k1 (xs.set i y) (by omega) (by omega) (by simp [hx]) (by omega) (by omega) (fun j hj hj' => by rw [getD_set_ne (by omega)]; exact hg j (by omega) hj')
    refine ⟨k', ys, by rw [e, e'], by omega, by omega, g3, fun j hj => by rw [g4 j (by omega), getD_set_ne (by omega)], k1, ?_, l1, g5⟩
    rw [g4 i (by omega), getD_set hix]
    exact hH

theorem held_loop {E τ : Type} {d : E} {ys : List E} {L : Nat → Nat → Int → Option τ} {len : Nat} {fin : Int → τ} {H : Int → E → Int → Prop}
    (h0 : ∀ n k, L (n + 1) len k = some (fin k)) (h1 : ∀ n i k k', i < len → H k (ys.getD i d) k' → L (n + 1) i k = L n (i + 1) k') :
    ∀ (m i n : Nat) (k k' : Int), i + m = len → m < n → HeldL H d ys i m k k' → L n i k = some (fin k')
  | 0, i, n + 1, k, k', hi, _, h => by
    have : i = len := by omega
    subst this
    have : k = k' := h
    subst this
    exact h0 n k
  | m + 1, i, n + 1, k, k', hi, hn, ⟨k1, hH, _, h⟩ => by
    rw [h1 n i k k1 (by omega) hH]
    exact held_loop h0 h1 m (i + 1) n k1 k' (by omega) (by omega) h

theorem szIntS_ok (hK : 9223372036854775807 < K) (x : List (Int)) (p : Int) (h0 : 0 ≤ p) (h1 : p ≤ 1048576) (hw : Wd (.sl (.int .i64)) x) : ∃ z, R.laws_szIntS K x p = some ((z, ()), ()) ∧ z ≤ p ∧ (0 ≤ z → Sm (.sl (.int .i64)) x) := by
  have hl : x.length ≤ 9223372036854775807 := hw.1
  have e0 : IntKind.i64.wrap (p - (x.length : Int)) = p - x.length := wrap_id (by omega) (by omega)
  unfold R.laws_szIntS
  simp only [e0]
  by_cases c0 : p - (x.length : Int) < 0
  · simp only [c0, decide_true, cond_true]
    exact ⟨-1, rfl, by omega, fun h => by omega⟩
  · simp only [c0, decide_false, cond_false]
    exact ⟨_, rfl, by omega, fun h => ⟨by omega, fun _ _ => trivial⟩⟩

theorem szEntry_ok (hK : 9223372036854775807 < K) (x : (List UInt8) × (Int)) (p : Int) (h0 : 0 ≤ p) (h1 : p ≤ 1048576) (hw : Wd (.pair .str (.int .i64)) x) : ∃ z, R.laws_szEntry K x p = some ((z, ()), ()) ∧ z ≤ p ∧ (0 ≤ z → Sm (.pair .str (.int .i64)) x) := by
  unfold R.laws_szEntry
  have b1 : x.1.length ≤ 9223372036854775807 := hw.1
  have e1 : IntKind.i64.wrap (p - (x.1.length : Int)) = p - (x.1.length : Int) := wrap_id (by omega) (by omega)
  simp only [e1]
  by_cases c1 : p - (x.1.length : Int) < 0
  · simp only [c1, decide_true, cond_true]
    exact ⟨-1, rfl, by omega, fun h => by omega⟩
  simp only [c1, decide_false, cond_false]
  exact ⟨_, rfl, by omega, fun h => ⟨(show x.1.length ≤ 1048576 by omega), trivial⟩⟩

theorem szEntryS_ok (hK : 9223372036854775807 < K) (x : List ((List UInt8) × (Int))) (p : Int) (h0 : 0 ≤ p) (h1 : p ≤ 1048576) (hw : Wd (.sl (.pair .str (.int .i64))) x) : ∃ z, R.laws_szEntryS K x p = some ((z, ()), ()) ∧ z ≤ p ∧ (0 ≤ z → Sm (.sl (.pair .str (.int .i64))) x) := by
  have hl : x.length ≤ 9223372036854775807 := hw.1
  have e0 : IntKind.i64.wrap (p - (x.length : Int)) = p - x.length := wrap_id (by omega) (by omega)
  unfold R.laws_szEntryS
  simp only [e0]
  by_cases c0 : p - (x.length : Int) < 0
  · simp only [c0, decide_true, cond_true]
    exact ⟨-1, rfl, by omega, fun h => by omega⟩
  · simp only [c0, decide_false, cond_false]
    have := sz_loop (L := fun n i p => R.L_laws_szEntryS_0 K n (x, p, 0, (i : Nat), ())) (len := x.length) (S := fun i => Sm (.pair .str (.int .i64)) (x.getD i ([], 0))) (fun n p => by simp only [R.L_laws_szEntryS_0, idx_end, cond_false]) (fun n i p hi hp hp' => by
      obtain ⟨z, e, l, s⟩ := szEntry_ok hK (x.getD i ([], 0)) p hp hp' (hw.2 _ (getD_mem _ hi))
      refine ⟨z, l, s, ?_⟩
      simp only [R.L_laws_szEntryS_0, idx_lt hi, idx_nn, Bool.and_self, wrap_succ hi hl, Int.toNat_natCast, e, obind_some, cond_true]) x.length 0 K (p - x.length) (by omega) (by omega) (by omega) (by omega)
    have this : (∃ z, R.L_laws_szEntryS_0 K K (x, p - x.length, 0, 0, ()) = some (.inl (z, 0, ())) ∧ _) ∨ R.L_laws_szEntryS_0 K K (x, p - x.length, 0, 0, ()) = _ := this
    rcases this with ⟨z, e, g1, g2, g3⟩ | e
    · refine ⟨z, by simp only [e, obind_some], by omega, fun _ => ⟨by omega, fun y hy => ?_⟩⟩
      obtain ⟨j, hj, rfl⟩ := List.mem_iff_getElem.1 hy
      have := g3 j (by omega) hj
      rw [List.getD_eq_getElem?_getD, List.getElem?_eq_getElem hj] at this
      exact this
    · exact ⟨-1, by simp only [e, obind_some], by omega, fun h => by omega⟩

theorem szCommit_ok (hK : 9223372036854775807 < K) (x : (List (Int)) × (List ((List UInt8) × (Int)))) (p : Int) (h0 : 0 ≤ p) (h1 : p ≤ 1048576) (hw : Wd (.pair (.sl (.int .i64)) (.sl (.pair .str (.int .i64)))) x) : ∃ z, R.laws_szCommit K x p = some ((z, ()), ()) ∧ z ≤ p ∧ (0 ≤ z → Sm (.pair (.sl (.int .i64)) (.sl (.pair .str (.int .i64)))) x) := by
  unfold R.laws_szCommit
  obtain ⟨z1, e1, l1, s1⟩ := szIntS_ok hK x.1 p (by omega) (by omega) hw.1
  simp only [e1, obind_some, pair_eta]
  by_cases c1 : z1 < 0
  · simp only [c1, decide_true, cond_true]
    exact ⟨-1, rfl, by omega, fun h => by omega⟩
  simp only [c1, decide_false, cond_false]
  obtain ⟨z2, e2, l2, s2⟩ := szEntryS_ok hK x.2 (z1) (by omega) (by omega) hw.2
  simp only [e2, obind_some, pair_eta]
  by_cases c2 : z2 < 0
  · simp only [c2, decide_true, cond_true]
    exact ⟨-1, rfl, by omega, fun h => by omega⟩
  simp only [c2, decide_false, cond_false]
  exact ⟨_, rfl, by omega, fun h => ⟨(s1 (by omega)), (s2 (by omega))⟩⟩

theorem szCommitS_ok (hK : 9223372036854775807 < K) (x : List ((List (Int)) × (List ((List UInt8) × (Int))))) (p : Int) (h0 : 0 ≤ p) (h1 : p ≤ 1048576) (hw : Wd (.sl (.pair (.sl (.int .i64)) (.sl (.pair .str (.int .i64))))) x) : ∃ z, R.laws_szCommitS K x p = some ((z, ()), ()) ∧ z ≤ p ∧ (0 ≤ z → Sm (.sl (.pair (.sl (.int .i64)) (.sl (.pair .str (.int .i64))))) x) := by
  have hl : x.length ≤ 9223372036854775807 := hw.1
  have e0 : IntKind.i64.wrap (p - (x.length : Int)) = p - x.length := wrap_id (by omega) (by omega)
  unfold R.laws_szCommitS
  simp only [e0]
  by_cases c0 : p - (x.length : Int) < 0
  · simp only [c0, decide_true, cond_true]
    exact ⟨-1, rfl, by omega, fun h => by omega⟩
  · simp only [c0, decide_false, cond_false]
    have := sz_loop (L := fun n i p => R.L_laws_szCommitS_0 K n (x, p, 0, (i : Nat), ())) (len := x.length) (S := fun i => Sm (.pair (.sl (.int .i64)) (.sl (.pair .str (.int .i64)))) (x.getD i ([], []))) (fun n p => by simp only [R.L_laws_szCommitS_0, idx_end, cond_false]) (fun n i p hi hp hp' => by
      obtain ⟨z, e, l, s⟩ := szCommit_ok hK (x.getD i ([], [])) p hp hp' (hw.2 _ (getD_mem _ hi))
      refine ⟨z, l, s, ?_⟩
      simp only [R.L_laws_szCommitS_0, idx_lt hi, idx_nn, Bool.and_self, wrap_succ hi hl, Int.toNat_natCast, e, obind_some, cond_true]) x.length 0 K (p - x.length) (by omega) (by omega) (by omega) (by omega)
    have this : (∃ z, R.L_laws_szCommitS_0 K K (x, p - x.length, 0, 0, ()) = some (.inl (z, 0, ())) ∧ _) ∨ R.L_laws_szCommitS_0 K K (x, p - x.length, 0, 0, ()) = _ := this
    rcases this with ⟨z, e, g1, g2, g3⟩ | e
    · refine ⟨z, by simp only [e, obind_some], by omega, fun _ => ⟨by omega, fun y hy => ?_⟩⟩
      obtain ⟨j, hj, rfl⟩ := List.mem_iff_getElem.1 hy
      have := g3 j (by omega) hj
      rw [List.getD_eq_getElem?_getD, List.getElem?_eq_getElem hj] at this
      exact this
    · exact ⟨-1, by simp only [e, obind_some], by omega, fun h => by omega⟩

theorem szRef_ok (hK : 9223372036854775807 < K) (x : (List UInt8) × ((Int) × ((Int) × (Bool)))) (p : Int) (h0 : 0 ≤ p) (h1 : p ≤ 1048576) (hw : Wd (.pair .str (.pair (.int .i64) (.pair (.int .i64) .bool))) x) : ∃ z, R.laws_szRef K x p = some ((z, ()), ()) ∧ z ≤ p ∧ (0 ≤ z → Sm (.pair .str (.pair (.int .i64) (.pair (.int .i64) .bool))) x) := by
  unfold R.laws_szRef
  have b1 : x.1.length ≤ 9223372036854775807 := hw.1
  have e1 : IntKind.i64.wrap (p - (x.1.length : Int)) = p - (x.1.length : Int) := wrap_id (by omega) (by omega)
  simp only [e1]
  by_cases c1 : p - (x.1.length : Int) < 0
  · simp only [c1, decide_true, cond_true]
    exact ⟨-1, rfl, by omega, fun h => by omega⟩
  simp only [c1, decide_false, cond_false]
  exact ⟨_, rfl, by omega, fun h => ⟨(show x.1.length ≤ 1048576 by omega), ⟨trivial, ⟨trivial, trivial⟩⟩⟩⟩

theorem szRefS_ok (hK : 9223372036854775807 < K) (x : List ((List UInt8) × ((Int) × ((Int) × (Bool))))) (p : Int) (h0 : 0 ≤ p) (h1 : p ≤ 1048576) (hw : Wd (.sl (.pair .str (.pair (.int .i64) (.pair (.int .i64) .bool)))) x) : ∃ z, R.laws_szRefS K x p = some ((z, ()), ()) ∧ z ≤ p ∧ (0 ≤ z → Sm (.sl (.pair .str (.pair (.int .i64) (.pair (.int .i64) .bool)))) x) := by
  have hl : x.length ≤ 9223372036854775807 := hw.1
  have e0 : IntKind.i64.wrap (p - (x.length : Int)) = p - x.length := wrap_id (by omega) (by omega)
  unfold R.laws_szRefS
  simp only [e0]
  by_cases c0 : p - (x.length : Int) < 0
  · simp only [c0, decide_true, cond_true]
    exact ⟨-1, rfl, by omega, fun h => by omega⟩
  · simp only [c0, decide_false, cond_false]
    have := sz_loop (L := fun n i p => R.L_laws_szRefS_0 K n (x, p, 0, (i : Nat), ())) (len := x.length) (S := fun i => Sm (.pair .str (.pair (.int .i64) (.pair (.int .i64) .bool))) (x.getD i ([], (0, (0, false))))) (fun n p => by simp only [R.L_laws_szRefS_0, idx_end, cond_false]) (fun n i p hi hp hp' => by
      obtain ⟨z, e, l, s⟩ := szRef_ok hK (x.getD i ([], (0, (0, false)))) p hp hp' (hw.2 _ (getD_mem _ hi))
      refine ⟨z, l, s, ?_⟩
      simp only [R.L_laws_szRefS_0, idx_lt hi, idx_nn, Bool.and_self, wrap_succ hi hl, Int.toNat_natCast, e, obind_some, cond_true]) x.length 0 K (p - x.length) (by omega) (by omega) (by omega) (by omega)
    have this : (∃ z, R.L_laws_szRefS_0 K K (x, p - x.length, 0, 0, ()) = some (.inl (z, 0, ())) ∧ _) ∨ R.L_laws_szRefS_0 K K (x, p - x.length, 0, 0, ()) = _ := this
    rcases this with ⟨z, e, g1, g2, g3⟩ | e
    · refine ⟨z, by simp only [e, obind_some], by omega, fun _ => ⟨by omega, fun y hy => ?_⟩⟩
      obtain ⟨j, hj, rfl⟩ := List.mem_iff_getElem.1 hy
      have := g3 j (by omega) hj
      rw [List.getD_eq_getElem?_getD, List.getElem?_eq_getElem hj] at this
      exact this
    · exact ⟨-1, by simp only [e, obind_some], by omega, fun h => by omega⟩

theorem szBase_ok (hK : 9223372036854775807 < K) (x : (List ((List (Int)) × (List ((List UInt8) × (Int))))) × (List ((List UInt8) × ((Int) × ((Int) × (Bool)))))) (p : Int) (h0 : 0 ≤ p) (h1 : p ≤ 1048576) (hw : Wd (.pair (.sl (.pair (.sl (.int .i64)) (.sl (.pair .str (.int .i64))))) (.sl (.pair .str (.pair (.int .i64) (.pair (.int .i64) .bool))))) x) : ∃ z, R.laws_szBase K x p = some ((z, ()), ()) ∧ z ≤ p ∧ (0 ≤ z → Sm (.pair (.sl (.pair (.sl (.int .i64)) (.sl (.pair .str (.int .i64))))) (.sl (.pair .str (.pair (.int .i64) (.pair (.int .i64) .bool))))) x) := by
  unfold R.laws_szBase
  obtain ⟨z1, e1, l1, s1⟩ := szCommitS_ok hK x.1 p (by omega) (by omega) hw.1
  simp only [e1, obind_some, pair_eta]
  by_cases c1 : z1 < 0
  · simp only [c1, decide_true, cond_true]
    exact ⟨-1, rfl, by omega, fun h => by omega⟩
  simp only [c1, decide_false, cond_false]
  obtain ⟨z2, e2, l2, s2⟩ := szRefS_ok hK x.2 (z1) (by omega) (by omega) hw.2
  simp only [e2, obind_some, pair_eta]
  by_cases c2 : z2 < 0
  · simp only [c2, decide_true, cond_true]
    exact ⟨-1, rfl, by omega, fun h => by omega⟩
  simp only [c2, decide_false, cond_false]
  exact ⟨_, rfl, by omega, fun h => ⟨(s1 (by omega)), (s2 (by omega))⟩⟩

theorem szEdit_ok (hK : 9223372036854775807 < K) (x : (List UInt8) × ((Int) × (Bool))) (p : Int) (h0 : 0 ≤ p) (h1 : p ≤ 1048576) (hw : Wd (.pair .str (.pair (.int .i64) .bool)) x) : ∃ z, R.laws_szEdit K x p = some ((z, ()), ()) ∧ z ≤ p ∧ (0 ≤ z → Sm (.pair .str (.pair (.int .i64) .bool)) x) := by
  unfold R.laws_szEdit
  have b1 : x.1.length ≤ 9223372036854775807 := hw.1
  have e1 : IntKind.i64.wrap (p - (x.1.length : Int)) = p - (x.1.length : Int) := wrap_id (by omega) (by omega)
  simp only [e1]
  by_cases c1 : p - (x.1.length : Int) < 0
  · simp only [c1, decide_true, cond_true]
    exact ⟨-1, rfl, by omega, fun h => by omega⟩
  simp only [c1, decide_false, cond_false]
  exact ⟨_, rfl, by omega, fun h => ⟨(show x.1.length ≤ 1048576 by omega), ⟨trivial, trivial⟩⟩⟩

theorem szEditS_ok (hK : 9223372036854775807 < K) (x : List ((List UInt8) × ((Int) × (Bool)))) (p : Int) (h0 : 0 ≤ p) (h1 : p ≤ 1048576) (hw : Wd (.sl (.pair .str (.pair (.int .i64) .bool))) x) : ∃ z, R.laws_szEditS K x p = some ((z, ()), ()) ∧ z ≤ p ∧ (0 ≤ z → Sm (.sl (.pair .str (.pair (.int .i64) .bool))) x) := by
  have hl : x.length ≤ 9223372036854775807 := hw.1
  have e0 : IntKind.i64.wrap (p - (x.length : Int)) = p - x.length := wrap_id (by omega) (by omega)
  unfold R.laws_szEditS
  simp only [e0]
  by_cases c0 : p - (x.length : Int) < 0
  · simp only [c0, decide_true, cond_true]
    exact ⟨-1, rfl, by omega, fun h => by omega⟩
  · simp only [c0, decide_false, cond_false]
    have := sz_loop (L := fun n i p => R.L_laws_szEditS_0 K n (x, p, 0, (i : Nat), ())) (len := x.length) (S := fun i => Sm (.pair .str (.pair (.int .i64) .bool)) (x.getD i ([], (0, false)))) (fun n p => by simp only [R.L_laws_szEditS_0, idx_end, cond_false]) (fun n i p hi hp hp' => by
      obtain ⟨z, e, l, s⟩ := szEdit_ok hK (x.getD i ([], (0, false))) p hp hp' (hw.2 _ (getD_mem _ hi))
      refine ⟨z, l, s, ?_⟩
      simp only [R.L_laws_szEditS_0, idx_lt hi, idx_nn, Bool.and_self, wrap_succ hi hl, Int.toNat_natCast, e, obind_some, cond_true]) x.length 0 K (p - x.length) (by omega) (by omega) (by omega) (by omega)
    have this : (∃ z, R.L_laws_szEditS_0 K K (x, p - x.length, 0, 0, ()) = some (.inl (z, 0, ())) ∧ _) ∨ R.L_laws_szEditS_0 K K (x, p - x.length, 0, 0, ()) = _ := this
    rcases this with ⟨z, e, g1, g2, g3⟩ | e
    · refine ⟨z, by simp only [e, obind_some], by omega, fun _ => ⟨by omega, fun y hy => ?_⟩⟩
      obtain ⟨j, hj, rfl⟩ := List.mem_iff_getElem.1 hy
      have := g3 j (by omega) hj
      rw [List.getD_eq_getElem?_getD, List.getElem?_eq_getElem hj] at this
      exact this
    · exact ⟨-1, by simp only [e, obind_some], by omega, fun h => by omega⟩

theorem szWish_ok (hK : 9223372036854775807 < K) (x : (Int) × ((List UInt8) × ((List UInt8) × ((List UInt8) × (List ((List UInt8) × ((Int) × (Bool)))))))) (p : Int) (h0 : 0 ≤ p) (h1 : p ≤ 1048576) (hw : Wd (.pair (.int .i64) (.pair .str (.pair .str (.pair .str (.sl (.pair .str (.pair (.int .i64) .bool))))))) x) : ∃ z, R.laws_szWish K x p = some ((z, ()), ()) ∧ z ≤ p ∧ (0 ≤ z → Sm (.pair (.int .i64) (.pair .str (.pair .str (.pair .str (.sl (.pair .str (.pair (.int .i64) .bool))))))) x) := by
  unfold R.laws_szWish
  have b1 : x.2.1.length ≤ 9223372036854775807 := hw.2.1
  have e1 : IntKind.i64.wrap (p - (x.2.1.length : Int)) = p - (x.2.1.length : Int) := wrap_id (by omega) (by omega)
  simp only [e1]
  by_cases c1 : p - (x.2.1.length : Int) < 0
  · simp only [c1, decide_true, cond_true]
    exact ⟨-1, rfl, by omega, fun h => by omega⟩
  simp only [c1, decide_false, cond_false]
  have b2 : x.2.2.1.length ≤ 9223372036854775807 := hw.2.2.1
  have e2 : IntKind.i64.wrap (p - (x.2.1.length : Int) - (x.2.2.1.length : Int)) = p - (x.2.1.length : Int) - (x.2.2.1.length : Int) := wrap_id (by omega) (by omega)
  simp only [e2]
  by_cases c2 : p - (x.2.1.length : Int) - (x.2.2.1.length : Int) < 0
  · simp only [c2, decide_true, cond_true]
    exact ⟨-1, rfl, by omega, fun h => by omega⟩
  simp only [c2, decide_false, cond_false]
  have b3 : x.2.2.2.1.length ≤ 9223372036854775807 := hw.2.2.2.1
  have e3 : IntKind.i64.wrap (p - (x.2.1.length : Int) - (x.2.2.1.length : Int) - (x.2.2.2.1.length : Int)) = p - (x.2.1.length : Int) - (x.2.2.1.length : Int) - (x.2.2.2.1.length : Int) := wrap_id (by omega) (by omega)
  simp only [e3]
  by_cases c3 : p - (x.2.1.length : Int) - (x.2.2.1.length : Int) - (x.2.2.2.1.length : Int) < 0
  · simp only [c3, decide_true, cond_true]
    exact ⟨-1, rfl, by omega, fun h => by omega⟩
  simp only [c3, decide_false, cond_false]
  obtain ⟨z4, e4, l4, s4⟩ := szEditS_ok hK x.2.2.2.2 (p - (x.2.1.length : Int) - (x.2.2.1.length : Int) - (x.2.2.2.1.length : Int)) (by omega) (by omega) hw.2.2.2.2
  simp only [e4, obind_some, pair_eta]
  by_cases c4 : z4 < 0
  · simp only [c4, decide_true, cond_true]
    exact ⟨-1, rfl, by omega, fun h => by omega⟩
  simp only [c4, decide_false, cond_false]
  exact ⟨_, rfl, by omega, fun h => ⟨trivial, ⟨(show x.2.1.length ≤ 1048576 by omega), ⟨(show x.2.2.1.length ≤ 1048576 by omega), ⟨(show x.2.2.2.1.length ≤ 1048576 by omega), (s4 (by omega))⟩⟩⟩⟩⟩

theorem szWishS_ok (hK : 9223372036854775807 < K) (x : List ((Int) × ((List UInt8) × ((List UInt8) × ((List UInt8) × (List ((List UInt8) × ((Int) × (Bool))))))))) (p : Int) (h0 : 0 ≤ p) (h1 : p ≤ 1048576) (hw : Wd (.sl (.pair (.int .i64) (.pair .str (.pair .str (.pair .str (.sl (.pair .str (.pair (.int .i64) .bool)))))))) x) : ∃ z, R.laws_szWishS K x p = some ((z, ()), ()) ∧ z ≤ p ∧ (0 ≤ z → Sm (.sl (.pair (.int .i64) (.pair .str (.pair .str (.pair .str (.sl (.pair .str (.pair (.int .i64) .bool)))))))) x) := by
  have hl : x.length ≤ 9223372036854775807 := hw.1
  have e0 : IntKind.i64.wrap (p - (x.length : Int)) = p - x.length := wrap_id (by omega) (by omega)
  unfold R.laws_szWishS
  simp only [e0]
  by_cases c0 : p - (x.length : Int) < 0
  · simp only [c0, decide_true, cond_true]
    exact ⟨-1, rfl, by omega, fun h => by omega⟩
  · simp only [c0, decide_false, cond_false]
    have := sz_loop (L := fun n i p => R.L_laws_szWishS_0 K n (x, p, 0, (i : Nat), ())) (len := x.length) (S := fun i => Sm (.pair (.int .i64) (.pair .str (.pair .str (.pair .str (.sl (.pair .str (.pair (.int .i64) .bool))))))) (x.getD i (0, ([], ([], ([], [])))))) (fun n p => by simp only [R.L_laws_szWishS_0, idx_end, cond_false]) (fun n i p hi hp hp' => by
      obtain ⟨z, e, l, s⟩ := szWish_ok hK (x.getD i (0, ([], ([], ([], []))))) p hp hp' (hw.2 _ (getD_mem _ hi))
      refine ⟨z, l, s, ?_⟩
      simp only [R.L_laws_szWishS_0, idx_lt hi, idx_nn, Bool.and_self, wrap_succ hi hl, Int.toNat_natCast, e, obind_some, cond_true]) x.length 0 K (p - x.length) (by omega) (by omega) (by omega) (by omega)
    have this : (∃ z, R.L_laws_szWishS_0 K K (x, p - x.length, 0, 0, ()) = some (.inl (z, 0, ())) ∧ _) ∨ R.L_laws_szWishS_0 K K (x, p - x.length, 0, 0, ()) = _ := this
    rcases this with ⟨z, e, g1, g2, g3⟩ | e
    · refine ⟨z, by simp only [e, obind_some], by omega, fun _ => ⟨by omega, fun y hy => ?_⟩⟩
      obtain ⟨j, hj, rfl⟩ := List.mem_iff_getElem.1 hy
      have := g3 j (by omega) hj
      rw [List.getD_eq_getElem?_getD, List.getElem?_eq_getElem hj] at this
      exact this
    · exact ⟨-1, by simp only [e, obind_some], by omega, fun h => by omega⟩

theorem szWishSS_ok (hK : 9223372036854775807 < K) (x : List (List ((Int) × ((List UInt8) × ((List UInt8) × ((List UInt8) × (List ((List UInt8) × ((Int) × (Bool)))))))))) (p : Int) (h0 : 0 ≤ p) (h1 : p ≤ 1048576) (hw : Wd (.sl (.sl (.pair (.int .i64) (.pair .str (.pair .str (.pair .str (.sl (.pair .str (.pair (.int .i64) .bool))))))))) x) : ∃ z, R.laws_szWishSS K x p = some ((z, ()), ()) ∧ z ≤ p ∧ (0 ≤ z → Sm (.sl (.sl (.pair (.int .i64) (.pair .str (.pair .str (.pair .str (.sl (.pair .str (.pair (.int .i64) .bool))))))))) x) := by
  have hl : x.length ≤ 9223372036854775807 := hw.1
  have e0 : IntKind.i64.wrap (p - (x.length : Int)) = p - x.length := wrap_id (by omega) (by omega)
  unfold R.laws_szWishSS
  simp only [e0]
  by_cases c0 : p - (x.length : Int) < 0
  · simp only [c0, decide_true, cond_true]
    exact ⟨-1, rfl, by omega, fun h => by omega⟩
  · simp only [c0, decide_false, cond_false]
    have := sz_loop (L := fun n i p => R.L_laws_szWishSS_0 K n (x, p, 0, (i : Nat), ())) (len := x.length) (S := fun i => Sm (.sl (.pair (.int .i64) (.pair .str (.pair .str (.pair .str (.sl (.pair .str (.pair (.int .i64) .bool)))))))) (x.getD i [])) (fun n p => by simp only [R.L_laws_szWishSS_0, idx_end, cond_false]) (fun n i p hi hp hp' => by
      obtain ⟨z, e, l, s⟩ := szWishS_ok hK (x.getD i []) p hp hp' (hw.2 _ (getD_mem _ hi))
      refine ⟨z, l, s, ?_⟩
      simp only [R.L_laws_szWishSS_0, idx_lt hi, idx_nn, Bool.and_self, wrap_succ hi hl, Int.toNat_natCast, e, obind_some, cond_true]) x.length 0 K (p - x.length) (by omega) (by omega) (by omega) (by omega)
    have this : (∃ z, R.L_laws_szWishSS_0 K K (x, p - x.length, 0, 0, ()) = some (.inl (z, 0, ())) ∧ _) ∨ R.L_laws_szWishSS_0 K K (x, p - x.length, 0, 0, ()) = _ := this
    rcases this with ⟨z, e, g1, g2, g3⟩ | e
    · refine ⟨z, by simp only [e, obind_some], by omega, fun _ => ⟨by omega, fun y hy => ?_⟩⟩
      obtain ⟨j, hj, rfl⟩ := List.mem_iff_getElem.1 hy
      have := g3 j (by omega) hj
      rw [List.getD_eq_getElem?_getD, List.getElem?_eq_getElem hj] at this
      exact this
    · exact ⟨-1, by simp only [e, obind_some], by omega, fun h => by omega⟩

theorem szStringS_ok (hK : 9223372036854775807 < K) (x : List (List UInt8)) (p : Int) (h0 : 0 ≤ p) (h1 : p ≤ 1048576) (hw : Wd (.sl .str) x) : ∃ z, R.laws_szStringS K x p = some ((z, ()), ()) ∧ z ≤ p ∧ (0 ≤ z → Sm (.sl .str) x) := by
  have hl : x.length ≤ 9223372036854775807 := hw.1
  have e0 : IntKind.i64.wrap (p - (x.length : Int)) = p - x.length := wrap_id (by omega) (by omega)
  unfold R.laws_szStringS
  simp only [e0]
  by_cases c0 : p - (x.length : Int) < 0
  · simp only [c0, decide_true, cond_true]
    exact ⟨-1, rfl, by omega, fun h => by omega⟩
  · simp only [c0, decide_false, cond_false]
    have := sz_loop (L := fun n i p => R.L_laws_szStringS_0 K n (x, p, 0, (i : Nat), ())) (len := x.length) (S := fun i => Sm .str (x.getD i [])) (fun n p => by simp only [R.L_laws_szStringS_0, idx_end, cond_false]) (fun n i p hi hp hp' => by
      have hb : (x.getD i []).length ≤ 9223372036854775807 := hw.2 _ (getD_mem _ hi)
      have e : IntKind.i64.wrap (p - ((x.getD i []).length : Int)) = p - (x.getD i []).length := wrap_id (by omega) (by omega)
      refine ⟨p - (x.getD i []).length, by omega, fun h => ?_, ?_⟩
      · show (x.getD i []).length ≤ 1048576; omega
      · simp only [R.L_laws_szStringS_0, idx_lt hi, idx_nn, Bool.and_self, wrap_succ hi hl, Int.toNat_natCast, e, obind_some, cond_true]) x.length 0 K (p - x.length) (by omega) (by omega) (by omega) (by omega)
    have this : (∃ z, R.L_laws_szStringS_0 K K (x, p - x.length, 0, 0, ()) = some (.inl (z, 0, ())) ∧ _) ∨ R.L_laws_szStringS_0 K K (x, p - x.length, 0, 0, ()) = _ := this
    rcases this with ⟨z, e, g1, g2, g3⟩ | e
    · refine ⟨z, by simp only [e, obind_some], by omega, fun _ => ⟨by omega, fun y hy => ?_⟩⟩
      obtain ⟨j, hj, rfl⟩ := List.mem_iff_getElem.1 hy
      have := g3 j (by omega) hj
      rw [List.getD_eq_getElem?_getD, List.getElem?_eq_getElem hj] at this
      exact this
    · exact ⟨-1, by simp only [e, obind_some], by omega, fun h => by omega⟩

theorem toIntS_id (hK : 9223372036854775807 < K) (x : List (Int)) (hs : Sm (.sl (.int .i64)) x) : R.laws_toIntS K x = some ((x, ()), ()) := by
  have hx : x.length ≤ 268435456 := by have : x.length ≤ 1048576 := hs.1; omega
  have := fill_ok (L := fun n i ys => R.L_laws_toIntS_0 K n (x, (i : Nat), [], ys, ())) (len := x.length) (g := fun i => x.getD i 0) (fin := fun ys => Sum.inl ([], ys, ())) (ys0 := (List.replicate x.length 0 : List (Int)))
    (fun n ys hy => by simp only [R.L_laws_toIntS_0, idx_end, cond_false])
    (fun n i ys hy hi _ => by
      have hi' : i < ys.length := by omega
      simp only [R.L_laws_toIntS_0, wrap_succ hi (by omega), idx_lt hi, idx_lt hi', idx_nn, Bool.and_self, Int.toNat_natCast, obind_some, cond_true]) x.length 0 K (List.replicate x.length 0) (by omega) (by omega) (by simp) (by simp) (by simp)
  have e : (List.range x.length).map (fun i => x.getD i 0) = x := by
    apply List.ext_getElem (by simp)
    intro i h1 h2
    simp [List.getD_eq_getElem?_getD, h2]
  rw [e] at this
  have this : R.L_laws_toIntS_0 K K (x, 0, [], List.replicate x.length 0, ()) = some (Sum.inl ([], x, ())) := this
  have hle : (x.length : Int) ≤ 268435456 := by omega
  unfold R.laws_toIntS
  simp [hle, this, obind]

theorem toEntryS_id (hK : 9223372036854775807 < K) (x : List ((List UInt8) × (Int))) (hs : Sm (.sl (.pair .str (.int .i64))) x) : R.laws_toEntryS K x = some ((x, ()), ()) := by
  have hx : x.length ≤ 268435456 := by have : x.length ≤ 1048576 := hs.1; omega
  have := fill_ok (L := fun n i ys => R.L_laws_toEntryS_0 K n (x, (i : Nat), [], ys, ())) (len := x.length) (g := fun i => x.getD i ([], 0)) (fin := fun ys => Sum.inl ([], ys, ())) (ys0 := (List.replicate x.length ([], 0) : List ((List UInt8) × (Int))))
    (fun n ys hy => by simp only [R.L_laws_toEntryS_0, idx_end, cond_false])
    (fun n i ys hy hi _ => by
      have hi' : i < ys.length := by omega
      simp only [R.L_laws_toEntryS_0, wrap_succ hi (by omega), idx_lt hi, idx_lt hi', idx_nn, Bool.and_self, Int.toNat_natCast, obind_some, cond_true]) x.length 0 K (List.replicate x.length ([], 0)) (by omega) (by omega) (by simp) (by simp) (by simp)
  have e : (List.range x.length).map (fun i => x.getD i ([], 0)) = x := by
    apply List.ext_getElem (by simp)
    intro i h1 h2
    simp [List.getD_eq_getElem?_getD, h2]
  rw [e] at this
  have this : R.L_laws_toEntryS_0 K K (x, 0, [], List.replicate x.length ([], 0), ()) = some (Sum.inl ([], x, ())) := this
  have hle : (x.length : Int) ≤ 268435456 := by omega
  unfold R.laws_toEntryS
  simp [hle, this, obind]

theorem toCommit_id (hK : 9223372036854775807 < K) (x : (List (Int)) × (List ((List UInt8) × (Int)))) (hs : Sm (.pair (.sl (.int .i64)) (.sl (.pair .str (.int .i64)))) x) : R.laws_toCommit K x = some ((x, ()), ()) := by
  unfold R.laws_toCommit
  try simp only [toIntS_id hK x.1 hs.1, toEntryS_id hK x.2 hs.2, obind_some, pair_eta]
  try rfl

theorem toCommitS_id (hK : 9223372036854775807 < K) (x : List ((List (Int)) × (List ((List UInt8) × (Int))))) (hs : Sm (.sl (.pair (.sl (.int .i64)) (.sl (.pair .str (.int .i64))))) x) : R.laws_toCommitS K x = some ((x, ()), ()) := by
  have hx : x.length ≤ 268435456 := by have : x.length ≤ 1048576 := hs.1; omega
  have := fill_ok (L := fun n i ys => R.L_laws_toCommitS_0 K n (x, (i : Nat), [], ys, ())) (len := x.length) (g := fun i => x.getD i ([], [])) (fin := fun ys => Sum.inl ([], ys, ())) (ys0 := (List.replicate x.length ([], []) : List ((List (Int)) × (List ((List UInt8) × (Int))))))
    (fun n ys hy => by simp only [R.L_laws_toCommitS_0, idx_end, cond_false])
    (fun n i ys hy hi _ => by
      have hi' : i < ys.length := by omega
      simp only [R.L_laws_toCommitS_0, wrap_succ hi (by omega), idx_lt hi, idx_lt hi', idx_nn, Bool.and_self, Int.toNat_natCast, obind_some, cond_true, toCommit_id hK (x.getD i ([], [])) (hs.2 _ (getD_mem _ hi))]) x.length 0 K (List.replicate x.length ([], [])) (by omega) (by omega) (by simp) (by simp) (by simp)
  have e : (List.range x.length).map (fun i => x.getD i ([], [])) = x := by
    apply List.ext_getElem (by simp)
    intro i h1 h2
    simp [List.getD_eq_getElem?_getD, h2]
  rw [e] at this
  have this : R.L_laws_toCommitS_0 K K (x, 0, [], List.replicate x.length ([], []), ()) = some (Sum.inl ([], x, ())) := this
  have hle : (x.length : Int) ≤ 268435456 := by omega
  unfold R.laws_toCommitS
  simp [hle, this, obind]

theorem toRefS_id (hK : 9223372036854775807 < K) (x : List ((List UInt8) × ((Int) × ((Int) × (Bool))))) (hs : Sm (.sl (.pair .str (.pair (.int .i64) (.pair (.int .i64) .bool)))) x) : R.laws_toRefS K x = some ((x, ()), ()) := by
  have hx : x.length ≤ 268435456 := by have : x.length ≤ 1048576 := hs.1; omega
  have := fill_ok (L := fun n i ys => R.L_laws_toRefS_0 K n (x, (i : Nat), [], ys, ())) (len := x.length) (g := fun i => x.getD i ([], (0, (0, false)))) (fin := fun ys => Sum.inl ([], ys, ())) (ys0 := (List.replicate x.length ([], (0, (0, false))) : List ((List UInt8) × ((Int) × ((Int) × (Bool))))))
    (fun n ys hy => by simp only [R.L_laws_toRefS_0, idx_end, cond_false])
    (fun n i ys hy hi _ => by
      have hi' : i < ys.length := by omega
      simp only [R.L_laws_toRefS_0, wrap_succ hi (by omega), idx_lt hi, idx_lt hi', idx_nn, Bool.and_self, Int.toNat_natCast, obind_some, cond_true]) x.length 0 K (List.replicate x.length ([], (0, (0, false)))) (by omega) (by omega) (by simp) (by simp) (by simp)
  have e : (List.range x.length).map (fun i => x.getD i ([], (0, (0, false)))) = x := by
    apply List.ext_getElem (by simp)
    intro i h1 h2
    simp [List.getD_eq_getElem?_getD, h2]
  rw [e] at this
  have this : R.L_laws_toRefS_0 K K (x, 0, [], List.replicate x.length ([], (0, (0, false))), ()) = some (Sum.inl ([], x, ())) := this
  have hle : (x.length : Int) ≤ 268435456 := by omega
  unfold R.laws_toRefS
  simp [hle, this, obind]

theorem toBase_id (hK : 9223372036854775807 < K) (x : (List ((List (Int)) × (List ((List UInt8) × (Int))))) × (List ((List UInt8) × ((Int) × ((Int) × (Bool)))))) (hs : Sm (.pair (.sl (.pair (.sl (.int .i64)) (.sl (.pair .str (.int .i64))))) (.sl (.pair .str (.pair (.int .i64) (.pair (.int .i64) .bool))))) x) : R.laws_toBase K x = some ((x, ()), ()) := by
  unfold R.laws_toBase
  try simp only [toCommitS_id hK x.1 hs.1, toRefS_id hK x.2 hs.2, obind_some, pair_eta]
  try rfl

theorem toEditS_id (hK : 9223372036854775807 < K) (x : List ((List UInt8) × ((Int) × (Bool)))) (hs : Sm (.sl (.pair .str (.pair (.int .i64) .bool))) x) : R.laws_toEditS K x = some ((x, ()), ()) := by
  have hx : x.length ≤ 268435456 := by have : x.length ≤ 1048576 := hs.1; omega
  have := fill_ok (L := fun n i ys => R.L_laws_toEditS_0 K n (x, (i : Nat), [], ys, ())) (len := x.length) (g := fun i => x.getD i ([], (0, false))) (fin := fun ys => Sum.inl ([], ys, ())) (ys0 := (List.replicate x.length ([], (0, false)) : List ((List UInt8) × ((Int) × (Bool)))))
    (fun n ys hy => by simp only [R.L_laws_toEditS_0, idx_end, cond_false])
    (fun n i ys hy hi _ => by
      have hi' : i < ys.length := by omega
      simp only [R.L_laws_toEditS_0, wrap_succ hi (by omega), idx_lt hi, idx_lt hi', idx_nn, Bool.and_self, Int.toNat_natCast, obind_some, cond_true]) x.length 0 K (List.replicate x.length ([], (0, false))) (by omega) (by omega) (by simp) (by simp) (by simp)
  have e : (List.range x.length).map (fun i => x.getD i ([], (0, false))) = x := by
    apply List.ext_getElem (by simp)
    intro i h1 h2
    simp [List.getD_eq_getElem?_getD, h2]
  rw [e] at this
  have this : R.L_laws_toEditS_0 K K (x, 0, [], List.replicate x.length ([], (0, false)), ()) = some (Sum.inl ([], x, ())) := this
  have hle : (x.length : Int) ≤ 268435456 := by omega
  unfold R.laws_toEditS
  simp [hle, this, obind]

theorem toWish_id (hK : 9223372036854775807 < K) (x : (Int) × ((List UInt8) × ((List UInt8) × ((List UInt8) × (List ((List UInt8) × ((Int) × (Bool)))))))) (hs : Sm (.pair (.int .i64) (.pair .str (.pair .str (.pair .str (.sl (.pair .str (.pair (.int .i64) .bool))))))) x) : R.laws_toWish K x = some ((x, ()), ()) := by
  unfold R.laws_toWish
  try simp only [toEditS_id hK x.2.2.2.2 hs.2.2.2.2, obind_some, pair_eta]
  try rfl

theorem toWishS_id (hK : 9223372036854775807 < K) (x : List ((Int) × ((List UInt8) × ((List UInt8) × ((List UInt8) × (List ((List UInt8) × ((Int) × (Bool))))))))) (hs : Sm (.sl (.pair (.int .i64) (.pair .str (.pair .str (.pair .str (.sl (.pair .str (.pair (.int .i64) .bool)))))))) x) : R.laws_toWishS K x = some ((x, ()), ()) := by
  have hx : x.length ≤ 268435456 := by have : x.length ≤ 1048576 := hs.1; omega
  have := fill_ok (L := fun n i ys => R.L_laws_toWishS_0 K n (x, (i : Nat), [], ys, ())) (len := x.length) (g := fun i => x.getD i (0, ([], ([], ([], []))))) (fin := fun ys => Sum.inl ([], ys, ())) (ys0 := (List.replicate x.length (0, ([], ([], ([], [])))) : List ((Int) × ((List UInt8) × ((List UInt8) × ((List UInt8) × (List ((List UInt8) × ((Int) × (Bool))))))))))
    (fun n ys hy => by simp only [R.L_laws_toWishS_0, idx_end, cond_false])
    (fun n i ys hy hi _ => by
      have hi' : i < ys.length := by omega
      simp only [R.L_laws_toWishS_0, wrap_succ hi (by omega), idx_lt hi, idx_lt hi', idx_nn, Bool.and_self, Int.toNat_natCast, obind_some, cond_true, toWish_id hK (x.getD i (0, ([], ([], ([], []))))) (hs.2 _ (getD_mem _ hi))]) x.length 0 K (List.replicate x.length (0, ([], ([], ([], []))))) (by omega) (by omega) (by simp) (by simp) (by simp)
  have e : (List.range x.length).map (fun i => x.getD i (0, ([], ([], ([], []))))) = x := by
    apply List.ext_getElem (by simp)
    intro i h1 h2
    simp [List.getD_eq_getElem?_getD, h2]
  rw [e] at this
  have this : R.L_laws_toWishS_0 K K (x, 0, [], List.replicate x.length (0, ([], ([], ([], [])))), ()) = some (Sum.inl ([], x, ())) := this
  have hle : (x.length : Int) ≤ 268435456 := by omega
  unfold R.laws_toWishS
  simp [hle, this, obind]

theorem toWishSS_id (hK : 9223372036854775807 < K) (x : List (List ((Int) × ((List UInt8) × ((List UInt8) × ((List UInt8) × (List ((List UInt8) × ((Int) × (Bool)))))))))) (hs : Sm (.sl (.sl (.pair (.int .i64) (.pair .str (.pair .str (.pair .str (.sl (.pair .str (.pair (.int .i64) .bool))))))))) x) : R.laws_toWishSS K x = some ((x, ()), ()) := by
  have hx : x.length ≤ 268435456 := by have : x.length ≤ 1048576 := hs.1; omega
  have := fill_ok (L := fun n i ys => R.L_laws_toWishSS_0 K n (x, (i : Nat), [], ys, ())) (len := x.length) (g := fun i => x.getD i []) (fin := fun ys => Sum.inl ([], ys, ())) (ys0 := (List.replicate x.length [] : List (List ((Int) × ((List UInt8) × ((List UInt8) × ((List UInt8) × (List ((List UInt8) × ((Int) × (Bool)))))))))))
    (fun n ys hy => by simp only [R.L_laws_toWishSS_0, idx_end, cond_false])
    (fun n i ys hy hi _ => by
      have hi' : i < ys.length := by omega
      simp only [R.L_laws_toWishSS_0, wrap_succ hi (by omega), idx_lt hi, idx_lt hi', idx_nn, Bool.and_self, Int.toNat_natCast, obind_some, cond_true, toWishS_id hK (x.getD i []) (hs.2 _ (getD_mem _ hi))]) x.length 0 K (List.replicate x.length []) (by omega) (by omega) (by simp) (by simp) (by simp)
  have e : (List.range x.length).map (fun i => x.getD i []) = x := by
    apply List.ext_getElem (by simp)
    intro i h1 h2
    simp [List.getD_eq_getElem?_getD, h2]
  rw [e] at this
  have this : R.L_laws_toWishSS_0 K K (x, 0, [], List.replicate x.length [], ()) = some (Sum.inl ([], x, ())) := this
  have hle : (x.length : Int) ≤ 268435456 := by omega
  unfold R.laws_toWishSS
  simp [hle, this, obind]

theorem toStringS_id (hK : 9223372036854775807 < K) (x : List (List UInt8)) (hs : Sm (.sl .str) x) : R.laws_toStringS K x = some ((x, ()), ()) := by
  have hx : x.length ≤ 268435456 := by have : x.length ≤ 1048576 := hs.1; omega
  have := fill_ok (L := fun n i ys => R.L_laws_toStringS_0 K n (x, (i : Nat), [], ys, ())) (len := x.length) (g := fun i => x.getD i []) (fin := fun ys => Sum.inl ([], ys, ())) (ys0 := (List.replicate x.length [] : List (List UInt8)))
    (fun n ys hy => by simp only [R.L_laws_toStringS_0, idx_end, cond_false])
    (fun n i ys hy hi _ => by
      have hi' : i < ys.length := by omega
      simp only [R.L_laws_toStringS_0, wrap_succ hi (by omega), idx_lt hi, idx_lt hi', idx_nn, Bool.and_self, Int.toNat_natCast, obind_some, cond_true]) x.length 0 K (List.replicate x.length []) (by omega) (by omega) (by simp) (by simp) (by simp)
  have e : (List.range x.length).map (fun i => x.getD i []) = x := by
    apply List.ext_getElem (by simp)
    intro i h1 h2
    simp [List.getD_eq_getElem?_getD, h2]
  rw [e] at this
  have this : R.L_laws_toStringS_0 K K (x, 0, [], List.replicate x.length [], ()) = some (Sum.inl ([], x, ())) := this
  have hle : (x.length : Int) ≤ 268435456 := by omega
  unfold R.laws_toStringS
  simp [hle, this, obind]

theorem eqIntS_id (hK : 9223372036854775807 < K) (x : List (Int)) (hs : Sm (.sl (.int .i64)) x) : R.laws_eqIntS K x x = some ((true, ()), ()) := by
  have hx : x.length ≤ 9223372036854775807 := by have : x.length ≤ 1048576 := hs.1; omega
  have := all_ok (L := fun n i => R.L_laws_eqIntS_0 K n (x, x, false, (i : Nat), ())) (len := x.length) (p := fun _ => true) (t := Sum.inl (false, ())) (f := Sum.inr (false, ()))
    (fun n => by simp only [R.L_laws_eqIntS_0, idx_end, cond_false]) (fun n i hi => by
      simp only [R.L_laws_eqIntS_0, wrap_succ hi hx, idx_lt hi, idx_nn, Bool.and_self, Int.toNat_natCast, obind_some, cond_true, cond_false, Bool.not_true, bne_self_eq_false, beq_self_eq_true]) x.length 0 K (by omega) (by omega)
  have this : R.L_laws_eqIntS_0 K K (x, x, false, 0, ()) = some (Sum.inl (false, ())) := by simpa [all_true] using this
  unfold R.laws_eqIntS
  simp [this, obind]

theorem eqEntry_id (hK : 9223372036854775807 < K) (x : (List UInt8) × (Int)) (hs : Sm (.pair .str (.int .i64)) x) : R.laws_eqEntry K x x = some ((true, ()), ()) := by
  unfold R.laws_eqEntry
  simp [obind_some, pair_eta]

theorem eqEntryS_id (hK : 9223372036854775807 < K) (x : List ((List UInt8) × (Int))) (hs : Sm (.sl (.pair .str (.int .i64))) x) : R.laws_eqEntryS K x x = some ((true, ()), ()) := by
  have hx : x.length ≤ 9223372036854775807 := by have : x.length ≤ 1048576 := hs.1; omega
  have := all_ok (L := fun n i => R.L_laws_eqEntryS_0 K n (x, x, false, (i : Nat), ())) (len := x.length) (p := fun _ => true) (t := Sum.inl (false, ())) (f := Sum.inr (false, ()))
    (fun n => by simp only [R.L_laws_eqEntryS_0, idx_end, cond_false]) (fun n i hi => by
      simp only [R.L_laws_eqEntryS_0, wrap_succ hi hx, idx_lt hi, idx_nn, Bool.and_self, Int.toNat_natCast, obind_some, cond_true, cond_false, Bool.not_true, bne_self_eq_false, beq_self_eq_true, eqEntry_id hK (x.getD i ([], 0)) (hs.2 _ (getD_mem _ hi))]) x.length 0 K (by omega) (by omega)
  have this : R.L_laws_eqEntryS_0 K K (x, x, false, 0, ()) = some (Sum.inl (false, ())) := by simpa [all_true] using this
  unfold R.laws_eqEntryS
  simp [this, obind]

theorem eqCommit_id (hK : 9223372036854775807 < K) (x : (List (Int)) × (List ((List UInt8) × (Int)))) (hs : Sm (.pair (.sl (.int .i64)) (.sl (.pair .str (.int .i64)))) x) : R.laws_eqCommit K x x = some ((true, ()), ()) := by
  unfold R.laws_eqCommit
  simp [eqIntS_id hK x.1 hs.1, eqEntryS_id hK x.2 hs.2, obind_some, pair_eta]

theorem eqCommitS_id (hK : 9223372036854775807 < K) (x : List ((List (Int)) × (List ((List UInt8) × (Int))))) (hs : Sm (.sl (.pair (.sl (.int .i64)) (.sl (.pair .str (.int .i64))))) x) : R.laws_eqCommitS K x x = some ((true, ()), ()) := by
  have hx : x.length ≤ 9223372036854775807 := by have : x.length ≤ 1048576 := hs.1; omega
  have := all_ok (L := fun n i => R.L_laws_eqCommitS_0 K n (x, x, false, (i : Nat), ())) (len := x.length) (p := fun _ => true) (t := Sum.inl (false, ())) (f := Sum.inr (false, ()))
    (fun n => by simp only [R.L_laws_eqCommitS_0, idx_end, cond_false]) (fun n i hi => by
      simp only [R.L_laws_eqCommitS_0, wrap_succ hi hx, idx_lt hi, idx_nn, Bool.and_self, Int.toNat_natCast, obind_some, cond_true, cond_false, Bool.not_true, bne_self_eq_false, beq_self_eq_true, eqCommit_id hK (x.getD i ([], [])) (hs.2 _ (getD_mem _ hi))]) x.length 0 K (by omega) (by omega)
  have this : R.L_laws_eqCommitS_0 K K (x, x, false, 0, ()) = some (Sum.inl (false, ())) := by simpa [all_true] using this
  unfold R.laws_eqCommitS
  simp [this, obind]

theorem eqRef_id (hK : 9223372036854775807 < K) (x : (List UInt8) × ((Int) × ((Int) × (Bool)))) (hs : Sm (.pair .str (.pair (.int .i64) (.pair (.int .i64) .bool))) x) : R.laws_eqRef K x x = some ((true, ()), ()) := by
  unfold R.laws_eqRef
  simp [obind_some, pair_eta]

theorem eqRefS_id (hK : 9223372036854775807 < K) (x : List ((List UInt8) × ((Int) × ((Int) × (Bool))))) (hs : Sm (.sl (.pair .str (.pair (.int .i64) (.pair (.int .i64) .bool)))) x) : R.laws_eqRefS K x x = some ((true, ()), ()) := by
  have hx : x.length ≤ 9223372036854775807 := by have : x.length ≤ 1048576 := hs.1; omega
  have := all_ok (L := fun n i => R.L_laws_eqRefS_0 K n (x, x, false, (i : Nat), ())) (len := x.length) (p := fun _ => true) (t := Sum.inl (false, ())) (f := Sum.inr (false, ()))
    (fun n => by simp only [R.L_laws_eqRefS_0, idx_end, cond_false]) (fun n i hi => by
      simp only [R.L_laws_eqRefS_0, wrap_succ hi hx, idx_lt hi, idx_nn, Bool.and_self, Int.toNat_natCast, obind_some, cond_true, cond_false, Bool.not_true, bne_self_eq_false, beq_self_eq_true, eqRef_id hK (x.getD i ([], (0, (0, false)))) (hs.2 _ (getD_mem _ hi))]) x.length 0 K (by omega) (by omega)
  have this : R.L_laws_eqRefS_0 K K (x, x, false, 0, ()) = some (Sum.inl (false, ())) := by simpa [all_true] using this
  unfold R.laws_eqRefS
  simp [this, obind]

theorem eqBase_id (hK : 9223372036854775807 < K) (x : (List ((List (Int)) × (List ((List UInt8) × (Int))))) × (List ((List UInt8) × ((Int) × ((Int) × (Bool)))))) (hs : Sm (.pair (.sl (.pair (.sl (.int .i64)) (.sl (.pair .str (.int .i64))))) (.sl (.pair .str (.pair (.int .i64) (.pair (.int .i64) .bool))))) x) : R.laws_eqBase K x x = some ((true, ()), ()) := by
  unfold R.laws_eqBase
  simp [eqCommitS_id hK x.1 hs.1, eqRefS_id hK x.2 hs.2, obind_some, pair_eta]

theorem eqEdit_id (hK : 9223372036854775807 < K) (x : (List UInt8) × ((Int) × (Bool))) (hs : Sm (.pair .str (.pair (.int .i64) .bool)) x) : R.laws_eqEdit K x x = some ((true, ()), ()) := by
  unfold R.laws_eqEdit
  simp [obind_some, pair_eta]

theorem eqEditS_id (hK : 9223372036854775807 < K) (x : List ((List UInt8) × ((Int) × (Bool)))) (hs : Sm (.sl (.pair .str (.pair (.int .i64) .bool))) x) : R.laws_eqEditS K x x = some ((true, ()), ()) := by
  have hx : x.length ≤ 9223372036854775807 := by have : x.length ≤ 1048576 := hs.1; omega
  have := all_ok (L := fun n i => R.L_laws_eqEditS_0 K n (x, x, false, (i : Nat), ())) (len := x.length) (p := fun _ => true) (t := Sum.inl (false, ())) (f := Sum.inr (false, ()))
    (fun n => by simp only [R.L_laws_eqEditS_0, idx_end, cond_false]) (fun n i hi => by
      simp only [R.L_laws_eqEditS_0, wrap_succ hi hx, idx_lt hi, idx_nn, Bool.and_self, Int.toNat_natCast, obind_some, cond_true, cond_false, Bool.not_true, bne_self_eq_false, beq_self_eq_true, eqEdit_id hK (x.getD i ([], (0, false))) (hs.2 _ (getD_mem _ hi))]) x.length 0 K (by omega) (by omega)
  have this : R.L_laws_eqEditS_0 K K (x, x, false, 0, ()) = some (Sum.inl (false, ())) := by simpa [all_true] using this
  unfold R.laws_eqEditS
  simp [this, obind]

theorem eqWish_id (hK : 9223372036854775807 < K) (x : (Int) × ((List UInt8) × ((List UInt8) × ((List UInt8) × (List ((List UInt8) × ((Int) × (Bool)))))))) (hs : Sm (.pair (.int .i64) (.pair .str (.pair .str (.pair .str (.sl (.pair .str (.pair (.int .i64) .bool))))))) x) : R.laws_eqWish K x x = some ((true, ()), ()) := by
  unfold R.laws_eqWish
  simp [eqEditS_id hK x.2.2.2.2 hs.2.2.2.2, obind_some, pair_eta]

theorem eqWishS_id (hK : 9223372036854775807 < K) (x : List ((Int) × ((List UInt8) × ((List UInt8) × ((List UInt8) × (List ((List UInt8) × ((Int) × (Bool))))))))) (hs : Sm (.sl (.pair (.int .i64) (.pair .str (.pair .str (.pair .str (.sl (.pair .str (.pair (.int .i64) .bool)))))))) x) : R.laws_eqWishS K x x = some ((true, ()), ()) := by
  have hx : x.length ≤ 9223372036854775807 := by have : x.length ≤ 1048576 := hs.1; omega
  have := all_ok (L := fun n i => R.L_laws_eqWishS_0 K n (x, x, false, (i : Nat), ())) (len := x.length) (p := fun _ => true) (t := Sum.inl (false, ())) (f := Sum.inr (false, ()))
    (fun n => by simp only [R.L_laws_eqWishS_0, idx_end, cond_false]) (fun n i hi => by
      simp only [R.L_laws_eqWishS_0, wrap_succ hi hx, idx_lt hi, idx_nn, Bool.and_self, Int.toNat_natCast, obind_some, cond_true, cond_false, Bool.not_true, bne_self_eq_false, beq_self_eq_true, eqWish_id hK (x.getD i (0, ([], ([], ([], []))))) (hs.2 _ (getD_mem _ hi))]) x.length 0 K (by omega) (by omega)
  have this : R.L_laws_eqWishS_0 K K (x, x, false, 0, ()) = some (Sum.inl (false, ())) := by simpa [all_true] using this
  unfold R.laws_eqWishS
  simp [this, obind]

theorem eqClient_id (hK : 9223372036854775807 < K) (x : (List ((Int) × ((List UInt8) × ((List UInt8) × ((List UInt8) × (List ((List UInt8) × ((Int) × (Bool))))))))) × ((Int) × ((Int) × ((Int) × ((Int) × ((Int) × ((Int) × ((Int) × (List ((List UInt8) × (Int))))))))))) (hs : Sm (.pair (.sl (.pair (.int .i64) (.pair .str (.pair .str (.pair .str (.sl (.pair .str (.pair (.int .i64) .bool)))))))) (.pair (.int .i64) (.pair (.int .i64) (.pair (.int .i64) (.pair (.int .i64) (.pair (.int .i64) (.pair (.int .i64) (.pair (.int .i64) (.sl (.pair .str (.int .i64))))))))))) x) : R.laws_eqClient K x x = some ((true, ()), ()) := by
  unfold R.laws_eqClient
  simp [eqWishS_id hK x.1 hs.1, eqEntryS_id hK x.2.2.2.2.2.2.2.2 hs.2.2.2.2.2.2.2.2, obind_some, pair_eta]

theorem eqClientS_id (hK : 9223372036854775807 < K) (x : List ((List ((Int) × ((List UInt8) × ((List UInt8) × ((List UInt8) × (List ((List UInt8) × ((Int) × (Bool))))))))) × ((Int) × ((Int) × ((Int) × ((Int) × ((Int) × ((Int) × ((Int) × (List ((List UInt8) × (Int)))))))))))) (hs : Sm (.sl (.pair (.sl (.pair (.int .i64) (.pair .str (.pair .str (.pair .str (.sl (.pair .str (.pair (.int .i64) .bool)))))))) (.pair (.int .i64) (.pair (.int .i64) (.pair (.int .i64) (.pair (.int .i64) (.pair (.int .i64) (.pair (.int .i64) (.pair (.int .i64) (.sl (.pair .str (.int .i64)))))))))))) x) : R.laws_eqClientS K x x = some ((true, ()), ()) := by
  have hx : x.length ≤ 9223372036854775807 := by have : x.length ≤ 1048576 := hs.1; omega
  have := all_ok (L := fun n i => R.L_laws_eqClientS_0 K n (x, x, false, (i : Nat), ())) (len := x.length) (p := fun _ => true) (t := Sum.inl (false, ())) (f := Sum.inr (false, ()))
    (fun n => by simp only [R.L_laws_eqClientS_0, idx_end, cond_false]) (fun n i hi => by
      simp only [R.L_laws_eqClientS_0, wrap_succ hi hx, idx_lt hi, idx_nn, Bool.and_self, Int.toNat_natCast, obind_some, cond_true, cond_false, Bool.not_true, bne_self_eq_false, beq_self_eq_true, eqClient_id hK (x.getD i ([], (0, (0, (0, (0, (0, (0, (0, []))))))))) (hs.2 _ (getD_mem _ hi))]) x.length 0 K (by omega) (by omega)
  have this : R.L_laws_eqClientS_0 K K (x, x, false, 0, ()) = some (Sum.inl (false, ())) := by simpa [all_true] using this
  unfold R.laws_eqClientS
  simp [this, obind]

theorem eqEvent_id (hK : 9223372036854775807 < K) (x : (Int) × ((Int) × (Bool))) (hs : Sm (.pair (.int .i64) (.pair (.int .i64) .bool)) x) : R.laws_eqEvent K x x = some ((true, ()), ()) := by
  unfold R.laws_eqEvent
  simp [obind_some, pair_eta]

theorem eqEventS_id (hK : 9223372036854775807 < K) (x : List ((Int) × ((Int) × (Bool)))) (hs : Sm (.sl (.pair (.int .i64) (.pair (.int .i64) .bool))) x) : R.laws_eqEventS K x x = some ((true, ()), ()) := by
  have hx : x.length ≤ 9223372036854775807 := by have : x.length ≤ 1048576 := hs.1; omega
  have := all_ok (L := fun n i => R.L_laws_eqEventS_0 K n (x, x, false, (i : Nat), ())) (len := x.length) (p := fun _ => true) (t := Sum.inl (false, ())) (f := Sum.inr (false, ()))
    (fun n => by simp only [R.L_laws_eqEventS_0, idx_end, cond_false]) (fun n i hi => by
      simp only [R.L_laws_eqEventS_0, wrap_succ hi hx, idx_lt hi, idx_nn, Bool.and_self, Int.toNat_natCast, obind_some, cond_true, cond_false, Bool.not_true, bne_self_eq_false, beq_self_eq_true, eqEvent_id hK (x.getD i (0, (0, false))) (hs.2 _ (getD_mem _ hi))]) x.length 0 K (by omega) (by omega)
  have this : R.L_laws_eqEventS_0 K K (x, x, false, 0, ()) = some (Sum.inl (false, ())) := by simpa [all_true] using this
  unfold R.laws_eqEventS
  simp [this, obind]

theorem eqWatch_id (hK : 9223372036854775807 < K) (x : (List UInt8) × ((Int) × (List ((Int) × ((Int) × (Bool)))))) (hs : Sm (.pair .str (.pair (.int .i64) (.sl (.pair (.int .i64) (.pair (.int .i64) .bool))))) x) : R.laws_eqWatch K x x = some ((true, ()), ()) := by
  unfold R.laws_eqWatch
  simp [eqEventS_id hK x.2.2 hs.2.2, obind_some, pair_eta]

theorem eqWatchS_id (hK : 9223372036854775807 < K) (x : List ((List UInt8) × ((Int) × (List ((Int) × ((Int) × (Bool))))))) (hs : Sm (.sl (.pair .str (.pair (.int .i64) (.sl (.pair (.int .i64) (.pair (.int .i64) .bool)))))) x) : R.laws_eqWatchS K x x = some ((true, ()), ()) := by
  have hx : x.length ≤ 9223372036854775807 := by have : x.length ≤ 1048576 := hs.1; omega
  have := all_ok (L := fun n i => R.L_laws_eqWatchS_0 K n (x, x, false, (i : Nat), ())) (len := x.length) (p := fun _ => true) (t := Sum.inl (false, ())) (f := Sum.inr (false, ()))
    (fun n => by simp only [R.L_laws_eqWatchS_0, idx_end, cond_false]) (fun n i hi => by
      simp only [R.L_laws_eqWatchS_0, wrap_succ hi hx, idx_lt hi, idx_nn, Bool.and_self, Int.toNat_natCast, obind_some, cond_true, cond_false, Bool.not_true, bne_self_eq_false, beq_self_eq_true, eqWatch_id hK (x.getD i ([], (0, []))) (hs.2 _ (getD_mem _ hi))]) x.length 0 K (by omega) (by omega)
  have this : R.L_laws_eqWatchS_0 K K (x, x, false, 0, ()) = some (Sum.inl (false, ())) := by simpa [all_true] using this
  unfold R.laws_eqWatchS
  simp [this, obind]

theorem eqOp_id (hK : 9223372036854775807 < K) (x : (Int) × ((Int) × ((List UInt8) × ((List UInt8) × (List ((List UInt8) × ((Int) × (Bool)))))))) (hs : Sm (.pair (.int .i64) (.pair (.int .i64) (.pair .str (.pair .str (.sl (.pair .str (.pair (.int .i64) .bool))))))) x) : R.laws_eqOp K x x = some ((true, ()), ()) := by
  unfold R.laws_eqOp
  simp [eqEditS_id hK x.2.2.2.2 hs.2.2.2.2, obind_some, pair_eta]

theorem eqStringS_id (hK : 9223372036854775807 < K) (x : List (List UInt8)) (hs : Sm (.sl .str) x) : R.laws_eqStringS K x x = some ((true, ()), ()) := by
  have hx : x.length ≤ 9223372036854775807 := by have : x.length ≤ 1048576 := hs.1; omega
  have := all_ok (L := fun n i => R.L_laws_eqStringS_0 K n (x, x, false, (i : Nat), ())) (len := x.length) (p := fun _ => true) (t := Sum.inl (false, ())) (f := Sum.inr (false, ()))
    (fun n => by simp only [R.L_laws_eqStringS_0, idx_end, cond_false]) (fun n i hi => by
      simp only [R.L_laws_eqStringS_0, wrap_succ hi hx, idx_lt hi, idx_nn, Bool.and_self, Int.toNat_natCast, obind_some, cond_true, cond_false, Bool.not_true, bne_self_eq_false, beq_self_eq_true]) x.length 0 K (by omega) (by omega)
  have this : R.L_laws_eqStringS_0 K K (x, x, false, 0, ()) = some (Sum.inl (false, ())) := by simpa [all_true] using this
  unfold R.laws_eqStringS
  simp [this, obind]

theorem eqResult_id (hK : 9223372036854775807 < K) (x : (Int) × ((Int) × ((Int) × ((List (List UInt8)) × (List ((List UInt8) × (Int))))))) (hs : Sm (.pair (.int .i64) (.pair (.int .i64) (.pair (.int .i64) (.pair (.sl .str) (.sl (.pair .str (.int .i64))))))) x) : R.laws_eqResult K x x = some ((true, ()), ()) := by
  unfold R.laws_eqResult
  simp [eqStringS_id hK x.2.2.2.1 hs.2.2.2.1, eqEntryS_id hK x.2.2.2.2 hs.2.2.2.2, obind_some, pair_eta]

theorem eqMoment_id (hK : 9223372036854775807 < K) (x : (Int) × ((Int) × ((Int) × (((Int) × ((Int) × ((List UInt8) × ((List UInt8) × (List ((List UInt8) × ((Int) × (Bool)))))))) × ((Int) × ((Int) × ((Int) × ((List (List UInt8)) × (List ((List UInt8) × (Int))))))))))) (hs : Sm (.pair (.int .i64) (.pair (.int .i64) (.pair (.int .i64) (.pair (.pair (.int .i64) (.pair (.int .i64) (.pair .str (.pair .str (.sl (.pair .str (.pair (.int .i64) .bool))))))) (.pair (.int .i64) (.pair (.int .i64) (.pair (.int .i64) (.pair (.sl .str) (.sl (.pair .str (.int .i64))))))))))) x) : R.laws_eqMoment K x x = some ((true, ()), ()) := by
  unfold R.laws_eqMoment
  simp [eqOp_id hK x.2.2.2.1 hs.2.2.2.1, eqResult_id hK x.2.2.2.2 hs.2.2.2.2, obind_some, pair_eta]

theorem eqMomentS_id (hK : 9223372036854775807 < K) (x : List ((Int) × ((Int) × ((Int) × (((Int) × ((Int) × ((List UInt8) × ((List UInt8) × (List ((List UInt8) × ((Int) × (Bool)))))))) × ((Int) × ((Int) × ((Int) × ((List (List UInt8)) × (List ((List UInt8) × (Int)))))))))))) (hs : Sm (.sl (.pair (.int .i64) (.pair (.int .i64) (.pair (.int .i64) (.pair (.pair (.int .i64) (.pair (.int .i64) (.pair .str (.pair .str (.sl (.pair .str (.pair (.int .i64) .bool))))))) (.pair (.int .i64) (.pair (.int .i64) (.pair (.int .i64) (.pair (.sl .str) (.sl (.pair .str (.int .i64)))))))))))) x) : R.laws_eqMomentS K x x = some ((true, ()), ()) := by
  have hx : x.length ≤ 9223372036854775807 := by have : x.length ≤ 1048576 := hs.1; omega
  have := all_ok (L := fun n i => R.L_laws_eqMomentS_0 K n (x, x, false, (i : Nat), ())) (len := x.length) (p := fun _ => true) (t := Sum.inl (false, ())) (f := Sum.inr (false, ()))
    (fun n => by simp only [R.L_laws_eqMomentS_0, idx_end, cond_false]) (fun n i hi => by
      simp only [R.L_laws_eqMomentS_0, wrap_succ hi hx, idx_lt hi, idx_nn, Bool.and_self, Int.toNat_natCast, obind_some, cond_true, cond_false, Bool.not_true, bne_self_eq_false, beq_self_eq_true, eqMoment_id hK (x.getD i (0, (0, (0, ((0, (0, ([], ([], [])))), (0, (0, (0, ([], []))))))))) (hs.2 _ (getD_mem _ hi))]) x.length 0 K (by omega) (by omega)
  have this : R.L_laws_eqMomentS_0 K K (x, x, false, 0, ()) = some (Sum.inl (false, ())) := by simpa [all_true] using this
  unfold R.laws_eqMomentS
  simp [this, obind]

theorem eqWorld_id (hK : 9223372036854775807 < K) (x : ((List ((List (Int)) × (List ((List UInt8) × (Int))))) × (List ((List UInt8) × ((Int) × ((Int) × (Bool)))))) × ((List ((List ((Int) × ((List UInt8) × ((List UInt8) × ((List UInt8) × (List ((List UInt8) × ((Int) × (Bool))))))))) × ((Int) × ((Int) × ((Int) × ((Int) × ((Int) × ((Int) × ((Int) × (List ((List UInt8) × (Int)))))))))))) × ((List ((List UInt8) × ((Int) × (List ((Int) × ((Int) × (Bool))))))) × ((List ((Int) × ((Int) × ((Int) × (((Int) × ((Int) × ((List UInt8) × ((List UInt8) × (List ((List UInt8) × ((Int) × (Bool)))))))) × ((Int) × ((Int) × ((Int) × ((List (List UInt8)) × (List ((List UInt8) × (Int)))))))))))) × (Int))))) (hs : Sm (.pair (.pair (.sl (.pair (.sl (.int .i64)) (.sl (.pair .str (.int .i64))))) (.sl (.pair .str (.pair (.int .i64) (.pair (.int .i64) .bool))))) (.pair (.sl (.pair (.sl (.pair (.int .i64) (.pair .str (.pair .str (.pair .str (.sl (.pair .str (.pair (.int .i64) .bool)))))))) (.pair (.int .i64) (.pair (.int .i64) (.pair (.int .i64) (.pair (.int .i64) (.pair (.int .i64) (.pair (.int .i64) (.pair (.int .i64) (.sl (.pair .str (.int .i64)))))))))))) (.pair (.sl (.pair .str (.pair (.int .i64) (.sl (.pair (.int .i64) (.pair (.int .i64) .bool)))))) (.pair (.sl (.pair (.int .i64) (.pair (.int .i64) (.pair (.int .i64) (.pair (.pair (.int .i64) (.pair (.int .i64) (.pair .str (.pair .str (.sl (.pair .str (.pair (.int .i64) .bool))))))) (.pair (.int .i64) (.pair (.int .i64) (.pair (.int .i64) (.pair (.sl .str) (.sl (.pair .str (.int .i64)))))))))))) (.int .i64))))) x) : R.laws_eqWorld K x x = some ((true, ()), ()) := by
  unfold R.laws_eqWorld
  simp [eqBase_id hK x.1 hs.1, eqClientS_id hK x.2.1 hs.2.1, eqWatchS_id hK x.2.2.1 hs.2.2.1, eqMomentS_id hK x.2.2.2.1 hs.2.2.2.1, obind_some, pair_eta]

theorem eqWishSS_id (hK : 9223372036854775807 < K) (x : List (List ((Int) × ((List UInt8) × ((List UInt8) × ((List UInt8) × (List ((List UInt8) × ((Int) × (Bool)))))))))) (hs : Sm (.sl (.sl (.pair (.int .i64) (.pair .str (.pair .str (.pair .str (.sl (.pair .str (.pair (.int .i64) .bool))))))))) x) : R.laws_eqWishSS K x x = some ((true, ()), ()) := by
  have hx : x.length ≤ 9223372036854775807 := by have : x.length ≤ 1048576 := hs.1; omega
  have := all_ok (L := fun n i => R.L_laws_eqWishSS_0 K n (x, x, false, (i : Nat), ())) (len := x.length) (p := fun _ => true) (t := Sum.inl (false, ())) (f := Sum.inr (false, ()))
    (fun n => by simp only [R.L_laws_eqWishSS_0, idx_end, cond_false]) (fun n i hi => by
      simp only [R.L_laws_eqWishSS_0, wrap_succ hi hx, idx_lt hi, idx_nn, Bool.and_self, Int.toNat_natCast, obind_some, cond_true, cond_false, Bool.not_true, bne_self_eq_false, beq_self_eq_true, eqWishS_id hK (x.getD i []) (hs.2 _ (getD_mem _ hi))]) x.length 0 K (by omega) (by omega)
  have this : R.L_laws_eqWishSS_0 K K (x, x, false, 0, ()) = some (Sum.inl (false, ())) := by simpa [all_true] using this
  unfold R.laws_eqWishSS
  simp [this, obind]

-- key IntS go
theorem markIntS_go (hK : 9223372036854775807 < K) (x : List (Int)) (hs : Sm (.sl (.int .i64)) x) (k : Int) (h0 : 0 ≤ k) (h1 : k + 1048576 ≤ 9223372036854775807) :
    ∃ k' y, R.laws_markIntS K x k = some ((k', ()), (y, ())) ∧ k ≤ k' ∧ k' ≤ k + 1048576 := by
  have hl : x.length ≤ 1048576 := hs.1
  have ml := mark_loop (d := 0) (L := fun n i k xs => R.L_laws_markIntS_0 K n (k, 0, (i : Nat), xs, ())) (len := x.length) (fin := fun k ys => (Sum.inl (k, 0, ys, ()))) (c := 1) (B := 9223372036854775807) (H := fun _ _ _ => True) (Good := Sm (.int .i64)) (by omega)
    (fun n k xs hx => by simp only [R.L_laws_markIntS_0, hx, idx_end, cond_false]) (fun n i k xs hi hx h0 h1 hs => by
      have hi' : i < xs.length := by omega
      generalize ee : xs.getD i 0 = e at hs
      have w1 : IntKind.i64.wrap (k + 1) = k + 1 := wrap_id (by omega) (by omega)
      refine ⟨k + 1, k, by omega, by omega, trivial, ?_⟩
      · simp only [R.L_laws_markIntS_0, idx_lt hi', idx_nn, Bool.and_self, Int.toNat_natCast, cond_true, cond_false, ee, w1, obind_some, wrap_succ hi' (by omega : xs.length ≤ 9223372036854775807), List.length_set, List.set_set, getD_set hi', nbeq, bleC, Nat.reduceAdd, Nat.reduceLeDiff])
    x.length 0 K k x (by omega) (by omega) rfl h0 (by omega) (fun j _ hj => hs.2 _ (getD_mem _ hj))
  obtain ⟨k', ys, e, g1, g2, g3, _, g5⟩ := ml
  have e : R.L_laws_markIntS_0 K K (k, 0, 0, x, ()) = some (Sum.inl (k', 0, ys, ())) := e
  refine ⟨k', ys, ?_, g1, by omega⟩
  · simp only [R.laws_markIntS, e, obind_some]

-- key IntS ok

def HIntS (K : Nat) (k : Int) (y : Int) (k' : Int) : Prop := ∀ (n i : Nat) (xs : List (Int)), i < xs.length → xs.length ≤ 9223372036854775807 → xs.getD i 0 = y → R.L_laws_heldIntS_0 K (n + 1) (xs, k, 0, (i : Nat), ()) = R.L_laws_heldIntS_0 K n (xs, k', 0, ((i + 1 : Nat) : Int), ())

theorem markIntS_ok (hK : 9223372036854775807 < K) (x : List (Int)) (hs : Sm (.sl (.int .i64)) x) (k : Int) (h0 : 0 ≤ k) (h1 : k + 1048576 ≤ 9223372036854775807) :
    ∃ k' y, R.laws_markIntS K x k = some ((k', ()), (y, ())) ∧ k ≤ k' ∧ k' ≤ k + 1048576 ∧ R.laws_heldIntS K y k = some ((k', ()), ()) := by
  have hl : x.length ≤ 1048576 := hs.1
  have ml := mark_loop (d := 0) (L := fun n i k xs => R.L_laws_markIntS_0 K n (k, 0, (i : Nat), xs, ())) (len := x.length) (fin := fun k ys => (Sum.inl (k, 0, ys, ()))) (c := 1) (B := 9223372036854775807) (H := HIntS K) (Good := Sm (.int .i64)) (by omega)
    (fun n k xs hx => by simp only [R.L_laws_markIntS_0, hx, idx_end, cond_false]) (fun n i k xs hi hx h0 h1 hs => by
      have hi' : i < xs.length := by omega
      generalize ee : xs.getD i 0 = e at hs
      have w1 : IntKind.i64.wrap (k + 1) = k + 1 := wrap_id (by omega) (by omega)
      refine ⟨k + 1, k, by omega, by omega, fun n j ys hj hy ey => ?_, ?_⟩
      · simp only [R.L_laws_heldIntS_0, idx_lt hj, idx_nn, Bool.and_self, Int.toNat_natCast, cond_true, cond_false, ey, w1, obind_some, wrap_succ hj hy, bne_self_eq_false, beq_self_eq_true, Bool.not_true, nbeq]
      · simp only [R.L_laws_markIntS_0, idx_lt hi', idx_nn, Bool.and_self, Int.toNat_natCast, cond_true, cond_false, ee, w1, obind_some, wrap_succ hi' (by omega : xs.length ≤ 9223372036854775807), List.length_set, List.set_set, getD_set hi', nbeq, bleC, Nat.reduceAdd, Nat.reduceLeDiff])
    x.length 0 K k x (by omega) (by omega) rfl h0 (by omega) (fun j _ hj => hs.2 _ (getD_mem _ hj))
  obtain ⟨k', ys, e, g1, g2, g3, _, g5⟩ := ml
  have e : R.L_laws_markIntS_0 K K (k, 0, 0, x, ()) = some (Sum.inl (k', 0, ys, ())) := e
  have hd := held_loop (d := 0) (ys := ys) (L := fun n i k => R.L_laws_heldIntS_0 K n (ys, k, 0, (i : Nat), ())) (len := x.length) (fin := fun k => (Sum.inl (k, 0, ()))) (H := HIntS K)
    (fun n k => by rw [← g3]; simp only [R.L_laws_heldIntS_0, idx_end, cond_false]) (fun n i k k' hi h => h n i ys (by omega) (by omega) rfl) x.length 0 K k k' (by omega) (by omega) g5
  have hd : R.L_laws_heldIntS_0 K K (ys, k, 0, 0, ()) = some (Sum.inl (k', 0, ())) := hd
  refine ⟨k', ys, ?_, g1, by omega, ?_⟩
  · simp only [R.laws_markIntS, e, obind_some]
  · simp only [R.laws_heldIntS, hd, obind_some]

-- key EntryS go

theorem markEntryS_go (hK : 9223372036854775807 < K) (x : List ((List UInt8) × (Int))) (hs : Sm (.sl (.pair .str (.int .i64))) x) (k : Int) (h0 : 0 ≤ k) (h1 : k + 2097152 ≤ 9223372036854775807) :
    ∃ k' y, R.laws_markEntryS K x k = some ((k', ()), (y, ())) ∧ k ≤ k' ∧ k' ≤ k + 2097152 := by
  have hl : x.length ≤ 1048576 := hs.1
  have ml := mark_loop (d := ([], 0)) (L := fun n i k xs => R.L_laws_markEntryS_0 K n (k, 0, (i : Nat), xs, ())) (len := x.length) (fin := fun k ys => (Sum.inl (k, 0, ys, ()))) (c := 2) (B := 9223372036854775807) (H := fun _ _ _ => True) (Good := Sm (.pair .str (.int .i64))) (by omega)
    (fun n k xs hx => by simp only [R.L_laws_markEntryS_0, hx, idx_end, cond_false]) (fun n i k xs hi hx h0 h1 hs => by
      have hi' : i < xs.length := by omega
      generalize ee : xs.getD i ([], 0) = e at hs
      obtain ⟨t1, e1⟩ := markText_ok hK (k) (by omega) (by omega)
      have w2 : IntKind.i64.wrap (k + 1) = k + 1 := wrap_id (by omega) (by omega)
      have w3 : IntKind.i64.wrap (k + 1 + 1) = k + 1 + 1 := wrap_id (by omega) (by omega)
      refine ⟨k + 1 + 1, (t1, k + 1), by omega, by omega, trivial, ?_⟩
      · simp only [R.L_laws_markEntryS_0, idx_lt hi', idx_nn, Bool.and_self, Int.toNat_natCast, cond_true, cond_false, ee, e1, w2, w3, obind_some, wrap_succ hi' (by omega : xs.length ≤ 9223372036854775807), List.length_set, List.set_set, getD_set hi', nbeq, bleC, Nat.reduceAdd, Nat.reduceLeDiff])
    x.length 0 K k x (by omega) (by omega) rfl h0 (by omega) (fun j _ hj => hs.2 _ (getD_mem _ hj))
  obtain ⟨k', ys, e, g1, g2, g3, _, g5⟩ := ml
  have e : R.L_laws_markEntryS_0 K K (k, 0, 0, x, ()) = some (Sum.inl (k', 0, ys, ())) := e
  refine ⟨k', ys, ?_, g1, by omega⟩
  · simp only [R.laws_markEntryS, e, obind_some]

-- key EntryS ok

def HEntryS (K : Nat) (k : Int) (y : (List UInt8) × (Int)) (k' : Int) : Prop := ∀ (n i : Nat) (xs : List ((List UInt8) × (Int))), i < xs.length → xs.length ≤ 9223372036854775807 → xs.getD i ([], 0) = y → R.L_laws_heldEntryS_0 K (n + 1) (xs, k, 0, (i : Nat), ()) = R.L_laws_heldEntryS_0 K n (xs, k', 0, ((i + 1 : Nat) : Int), ())

theorem markEntryS_ok (hK : 9223372036854775807 < K) (x : List ((List UInt8) × (Int))) (hs : Sm (.sl (.pair .str (.int .i64))) x) (k : Int) (h0 : 0 ≤ k) (h1 : k + 2097152 ≤ 9223372036854775807) :
    ∃ k' y, R.laws_markEntryS K x k = some ((k', ()), (y, ())) ∧ k ≤ k' ∧ k' ≤ k + 2097152 ∧ R.laws_heldEntryS K y k = some ((k', ()), ()) := by
  have hl : x.length ≤ 1048576 := hs.1
  have ml := mark_loop (d := ([], 0)) (L := fun n i k xs => R.L_laws_markEntryS_0 K n (k, 0, (i : Nat), xs, ())) (len := x.length) (fin := fun k ys => (Sum.inl (k, 0, ys, ()))) (c := 2) (B := 9223372036854775807) (H := HEntryS K) (Good := Sm (.pair .str (.int .i64))) (by omega)
    (fun n k xs hx => by simp only [R.L_laws_markEntryS_0, hx, idx_end, cond_false]) (fun n i k xs hi hx h0 h1 hs => by
      have hi' : i < xs.length := by omega
      generalize ee : xs.getD i ([], 0) = e at hs
      obtain ⟨t1, e1⟩ := markText_ok hK (k) (by omega) (by omega)
      have w2 : IntKind.i64.wrap (k + 1) = k + 1 := wrap_id (by omega) (by omega)
      have w3 : IntKind.i64.wrap (k + 1 + 1) = k + 1 + 1 := wrap_id (by omega) (by omega)
      refine ⟨k + 1 + 1, (t1, k + 1), by omega, by omega, fun n j ys hj hy ey => ?_, ?_⟩
      · simp only [R.L_laws_heldEntryS_0, idx_lt hj, idx_nn, Bool.and_self, Int.toNat_natCast, cond_true, cond_false, ey, e1, w2, w3, obind_some, wrap_succ hj hy, bne_self_eq_false, beq_self_eq_true, Bool.not_true, nbeq]
      · simp only [R.L_laws_markEntryS_0, idx_lt hi', idx_nn, Bool.and_self, Int.toNat_natCast, cond_true, cond_false, ee, e1, w2, w3, obind_some, wrap_succ hi' (by omega : xs.length ≤ 9223372036854775807), List.length_set, List.set_set, getD_set hi', nbeq, bleC, Nat.reduceAdd, Nat.reduceLeDiff])
    x.length 0 K k x (by omega) (by omega) rfl h0 (by omega) (fun j _ hj => hs.2 _ (getD_mem _ hj))
  obtain ⟨k', ys, e, g1, g2, g3, _, g5⟩ := ml
  have e : R.L_laws_markEntryS_0 K K (k, 0, 0, x, ()) = some (Sum.inl (k', 0, ys, ())) := e
  have hd := held_loop (d := ([], 0)) (ys := ys) (L := fun n i k => R.L_laws_heldEntryS_0 K n (ys, k, 0, (i : Nat), ())) (len := x.length) (fin := fun k => (Sum.inl (k, 0, ()))) (H := HEntryS K)
    (fun n k => by rw [← g3]; simp only [R.L_laws_heldEntryS_0, idx_end, cond_false]) (fun n i k k' hi h => h n i ys (by omega) (by omega) rfl) x.length 0 K k k' (by omega) (by omega) g5
  have hd : R.L_laws_heldEntryS_0 K K (ys, k, 0, 0, ()) = some (Sum.inl (k', 0, ())) := hd
  refine ⟨k', ys, ?_, g1, by omega, ?_⟩
  · simp only [R.laws_markEntryS, e, obind_some]
  · simp only [R.laws_heldEntryS, hd, obind_some]

-- key CommitS go

theorem markCommitS_go (hK : 9223372036854775807 < K) (x : List ((List (Int)) × (List ((List UInt8) × (Int))))) (hs : Sm (.sl (.pair (.sl (.int .i64)) (.sl (.pair .str (.int .i64))))) x) (k : Int) (h0 : 0 ≤ k) (h1 : k + 3298534883328 ≤ 9223372036854775807) :
    ∃ k' y, R.laws_markCommitS K x k = some ((k', ()), (y, ())) ∧ k ≤ k' ∧ k' ≤ k + 3298534883328 := by
  have hl : x.length ≤ 1048576 := hs.1
  have ml := mark_loop (d := ([], [])) (L := fun n i k xs => R.L_laws_markCommitS_0 K n (k, 0, (i : Nat), xs, ())) (len := x.length) (fin := fun k ys => (Sum.inl (k, 0, ys, ()))) (c := 3145728) (B := 9223372036854775807) (H := fun _ _ _ => True) (Good := Sm (.pair (.sl (.int .i64)) (.sl (.pair .str (.int .i64))))) (by omega)
    (fun n k xs hx => by simp only [R.L_laws_markCommitS_0, hx, idx_end, cond_false]) (fun n i k xs hi hx h0 h1 hs => by
      have hi' : i < xs.length := by omega
      generalize ee : xs.getD i ([], []) = e at hs
      obtain ⟨k1, y1, m1, a1, b1⟩ := markIntS_go hK e.1 hs.1 (k) (by omega) (by omega)
      have z1 := lt0 (show 0 ≤ k1 by omega)
      obtain ⟨k2, y2, m2, a2, b2⟩ := markEntryS_go hK e.2 hs.2 (k1) (by omega) (by omega)
      have z2 := lt0 (show 0 ≤ k2 by omega)
      refine ⟨k2, (y1, y2), by omega, by omega, trivial, ?_⟩
      · simp only [R.L_laws_markCommitS_0, idx_lt hi', idx_nn, Bool.and_self, Int.toNat_natCast, cond_true, cond_false, ee, m1, z1, m2, z2, obind_some, wrap_succ hi' (by omega : xs.length ≤ 9223372036854775807), List.length_set, List.set_set, getD_set hi', nbeq, bleC, Nat.reduceAdd, Nat.reduceLeDiff])
    x.length 0 K k x (by omega) (by omega) rfl h0 (by omega) (fun j _ hj => hs.2 _ (getD_mem _ hj))
  obtain ⟨k', ys, e, g1, g2, g3, _, g5⟩ := ml
  have e : R.L_laws_markCommitS_0 K K (k, 0, 0, x, ()) = some (Sum.inl (k', 0, ys, ())) := e
  refine ⟨k', ys, ?_, g1, by omega⟩
  · simp only [R.laws_markCommitS, e, obind_some]

-- key CommitS ok

def HCommitS (K : Nat) (k : Int) (y : (List (Int)) × (List ((List UInt8) × (Int)))) (k' : Int) : Prop := ∀ (n i : Nat) (xs : List ((List (Int)) × (List ((List UInt8) × (Int))))), i < xs.length → xs.length ≤ 9223372036854775807 → xs.getD i ([], []) = y → R.L_laws_heldCommitS_0 K (n + 1) (xs, k, 0, (i : Nat), ()) = R.L_laws_heldCommitS_0 K n (xs, k', 0, ((i + 1 : Nat) : Int), ())

theorem markCommitS_ok (hK : 9223372036854775807 < K) (x : List ((List (Int)) × (List ((List UInt8) × (Int))))) (hs : Sm (.sl (.pair (.sl (.int .i64)) (.sl (.pair .str (.int .i64))))) x) (k : Int) (h0 : 0 ≤ k) (h1 : k + 3298534883328 ≤ 9223372036854775807) :
    ∃ k' y, R.laws_markCommitS K x k = some ((k', ()), (y, ())) ∧ k ≤ k' ∧ k' ≤ k + 3298534883328 ∧ R.laws_heldCommitS K y k = some ((k', ()), ()) := by
  have hl : x.length ≤ 1048576 := hs.1
  have ml := mark_loop (d := ([], [])) (L := fun n i k xs => R.L_laws_markCommitS_0 K n (k, 0, (i : Nat), xs, ())) (len := x.length) (fin := fun k ys => (Sum.inl (k, 0, ys, ()))) (c := 3145728) (B := 9223372036854775807) (H := HCommitS K) (Good := Sm (.pair (.sl (.int .i64)) (.sl (.pair .str (.int .i64))))) (by omega)
    (fun n k xs hx => by simp only [R.L_laws_markCommitS_0, hx, idx_end, cond_false]) (fun n i k xs hi hx h0 h1 hs => by
      have hi' : i < xs.length := by omega
      generalize ee : xs.getD i ([], []) = e at hs
      obtain ⟨k1, y1, m1, a1, b1, u1⟩ := markIntS_ok hK e.1 hs.1 (k) (by omega) (by omega)
      have z1 := lt0 (show 0 ≤ k1 by omega)
      obtain ⟨k2, y2, m2, a2, b2, u2⟩ := markEntryS_ok hK e.2 hs.2 (k1) (by omega) (by omega)
      have z2 := lt0 (show 0 ≤ k2 by omega)
      refine ⟨k2, (y1, y2), by omega, by omega, fun n j ys hj hy ey => ?_, ?_⟩
      · simp only [R.L_laws_heldCommitS_0, idx_lt hj, idx_nn, Bool.and_self, Int.toNat_natCast, cond_true, cond_false, ey, m1, u1, z1, m2, u2, z2, obind_some, wrap_succ hj hy, bne_self_eq_false, beq_self_eq_true, Bool.not_true, nbeq]
      · simp only [R.L_laws_markCommitS_0, idx_lt hi', idx_nn, Bool.and_self, Int.toNat_natCast, cond_true, cond_false, ee, m1, u1, z1, m2, u2, z2, obind_some, wrap_succ hi' (by omega : xs.length ≤ 9223372036854775807), List.length_set, List.set_set, getD_set hi', nbeq, bleC, Nat.reduceAdd, Nat.reduceLeDiff])
    x.length 0 K k x (by omega) (by omega) rfl h0 (by omega) (fun j _ hj => hs.2 _ (getD_mem _ hj))
  obtain ⟨k', ys, e, g1, g2, g3, _, g5⟩ := ml
  have e : R.L_laws_markCommitS_0 K K (k, 0, 0, x, ()) = some (Sum.inl (k', 0, ys, ())) := e
  have hd := held_loop (d := ([], [])) (ys := ys) (L := fun n i k => R.L_laws_heldCommitS_0 K n (ys, k, 0, (i : Nat), ())) (len := x.length) (fin := fun k => (Sum.inl (k, 0, ()))) (H := HCommitS K)
    (fun n k => by rw [← g3]; simp only [R.L_laws_heldCommitS_0, idx_end, cond_false]) (fun n i k k' hi h => h n i ys (by omega) (by omega) rfl) x.length 0 K k k' (by omega) (by omega) g5
  have hd : R.L_laws_heldCommitS_0 K K (ys, k, 0, 0, ()) = some (Sum.inl (k', 0, ())) := hd
  refine ⟨k', ys, ?_, g1, by omega, ?_⟩
  · simp only [R.laws_markCommitS, e, obind_some]
  · simp only [R.laws_heldCommitS, hd, obind_some]

-- key RefS go

theorem markRefS_go (hK : 9223372036854775807 < K) (x : List ((List UInt8) × ((Int) × ((Int) × (Bool))))) (hs : Sm (.sl (.pair .str (.pair (.int .i64) (.pair (.int .i64) .bool)))) x) (k : Int) (h0 : 0 ≤ k) (h1 : k + 4194304 ≤ 9223372036854775807) :
    ∃ k' y, R.laws_markRefS K x k = some ((k', ()), (y, ())) ∧ k ≤ k' ∧ k' ≤ k + 4194304 := by
  have hl : x.length ≤ 1048576 := hs.1
  have ml := mark_loop (d := ([], (0, (0, false)))) (L := fun n i k xs => R.L_laws_markRefS_0 K n (k, 0, (i : Nat), xs, ())) (len := x.length) (fin := fun k ys => (Sum.inl (k, 0, ys, ()))) (c := 4) (B := 9223372036854775807) (H := fun _ _ _ => True) (Good := Sm (.pair .str (.pair (.int .i64) (.pair (.int .i64) .bool)))) (by omega)
    (fun n k xs hx => by simp only [R.L_laws_markRefS_0, hx, idx_end, cond_false]) (fun n i k xs hi hx h0 h1 hs => by
      have hi' : i < xs.length := by omega
      generalize ee : xs.getD i ([], (0, (0, false))) = e at hs
      obtain ⟨t1, e1⟩ := markText_ok hK (k) (by omega) (by omega)
      have w2 : IntKind.i64.wrap (k + 1) = k + 1 := wrap_id (by omega) (by omega)
      have w3 : IntKind.i64.wrap (k + 1 + 1) = k + 1 + 1 := wrap_id (by omega) (by omega)
      have w4 : IntKind.i64.wrap (k + 1 + 1 + 1) = k + 1 + 1 + 1 := wrap_id (by omega) (by omega)
      have w5 : IntKind.i64.wrap (k + 1 + 1 + 1 + 1) = k + 1 + 1 + 1 + 1 := wrap_id (by omega) (by omega)
      refine ⟨k + 1 + 1 + 1 + 1, (t1, (k + 1, (k + 1 + 1, (Int.tmod (k + 1 + 1 + 1) 3 == 0)))), by omega, by omega, trivial, ?_⟩
      · simp only [R.L_laws_markRefS_0, idx_lt hi', idx_nn, Bool.and_self, Int.toNat_natCast, cond_true, cond_false, ee, e1, w2, w3, w4, w5, obind_some, wrap_succ hi' (by omega : xs.length ≤ 9223372036854775807), List.length_set, List.set_set, getD_set hi', nbeq, bleC, Nat.reduceAdd, Nat.reduceLeDiff])
    x.length 0 K k x (by omega) (by omega) rfl h0 (by omega) (fun j _ hj => hs.2 _ (getD_mem _ hj))
  obtain ⟨k', ys, e, g1, g2, g3, _, g5⟩ := ml
  have e : R.L_laws_markRefS_0 K K (k, 0, 0, x, ()) = some (Sum.inl (k', 0, ys, ())) := e
  refine ⟨k', ys, ?_, g1, by omega⟩
  · simp only [R.laws_markRefS, e, obind_some]

-- key RefS ok

def HRefS (K : Nat) (k : Int) (y : (List UInt8) × ((Int) × ((Int) × (Bool)))) (k' : Int) : Prop := ∀ (n i : Nat) (xs : List ((List UInt8) × ((Int) × ((Int) × (Bool))))), i < xs.length → xs.length ≤ 9223372036854775807 → xs.getD i ([], (0, (0, false))) = y → R.L_laws_heldRefS_0 K (n + 1) (xs, k, 0, (i : Nat), ()) = R.L_laws_heldRefS_0 K n (xs, k', 0, ((i + 1 : Nat) : Int), ())

theorem markRefS_ok (hK : 9223372036854775807 < K) (x : List ((List UInt8) × ((Int) × ((Int) × (Bool))))) (hs : Sm (.sl (.pair .str (.pair (.int .i64) (.pair (.int .i64) .bool)))) x) (k : Int) (h0 : 0 ≤ k) (h1 : k + 4194304 ≤ 9223372036854775807) :
    ∃ k' y, R.laws_markRefS K x k = some ((k', ()), (y, ())) ∧ k ≤ k' ∧ k' ≤ k + 4194304 ∧ R.laws_heldRefS K y k = some ((k', ()), ()) := by
  have hl : x.length ≤ 1048576 := hs.1
  have ml := mark_loop (d := ([], (0, (0, false)))) (L := fun n i k xs => R.L_laws_markRefS_0 K n (k, 0, (i : Nat), xs, ())) (len := x.length) (fin := fun k ys => (Sum.inl (k, 0, ys, ()))) (c := 4) (B := 9223372036854775807) (H := HRefS K) (Good := Sm (.pair .str (.pair (.int .i64) (.pair (.int .i64) .bool)))) (by omega)
    (fun n k xs hx => by simp only [R.L_laws_markRefS_0, hx, idx_end, cond_false]) (fun n i k xs hi hx h0 h1 hs => by
      have hi' : i < xs.length := by omega
      generalize ee : xs.getD i ([], (0, (0, false))) = e at hs
      obtain ⟨t1, e1⟩ := markText_ok hK (k) (by omega) (by omega)
      have w2 : IntKind.i64.wrap (k + 1) = k + 1 := wrap_id (by omega) (by omega)
      have w3 : IntKind.i64.wrap (k + 1 + 1) = k + 1 + 1 := wrap_id (by omega) (by omega)
      have w4 : IntKind.i64.wrap (k + 1 + 1 + 1) = k + 1 + 1 + 1 := wrap_id (by omega) (by omega)
      have w5 : IntKind.i64.wrap (k + 1 + 1 + 1 + 1) = k + 1 + 1 + 1 + 1 := wrap_id (by omega) (by omega)
      refine ⟨k + 1 + 1 + 1 + 1, (t1, (k + 1, (k + 1 + 1, (Int.tmod (k + 1 + 1 + 1) 3 == 0)))), by omega, by omega, fun n j ys hj hy ey => ?_, ?_⟩
      · simp only [R.L_laws_heldRefS_0, idx_lt hj, idx_nn, Bool.and_self, Int.toNat_natCast, cond_true, cond_false, ey, e1, w2, w3, w4, w5, obind_some, wrap_succ hj hy, bne_self_eq_false, beq_self_eq_true, Bool.not_true, nbeq]
      · simp only [R.L_laws_markRefS_0, idx_lt hi', idx_nn, Bool.and_self, Int.toNat_natCast, cond_true, cond_false, ee, e1, w2, w3, w4, w5, obind_some, wrap_succ hi' (by omega : xs.length ≤ 9223372036854775807), List.length_set, List.set_set, getD_set hi', nbeq, bleC, Nat.reduceAdd, Nat.reduceLeDiff])
    x.length 0 K k x (by omega) (by omega) rfl h0 (by omega) (fun j _ hj => hs.2 _ (getD_mem _ hj))
  obtain ⟨k', ys, e, g1, g2, g3, _, g5⟩ := ml
  have e : R.L_laws_markRefS_0 K K (k, 0, 0, x, ()) = some (Sum.inl (k', 0, ys, ())) := e
  have hd := held_loop (d := ([], (0, (0, false)))) (ys := ys) (L := fun n i k => R.L_laws_heldRefS_0 K n (ys, k, 0, (i : Nat), ())) (len := x.length) (fin := fun k => (Sum.inl (k, 0, ()))) (H := HRefS K)
    (fun n k => by rw [← g3]; simp only [R.L_laws_heldRefS_0, idx_end, cond_false]) (fun n i k k' hi h => h n i ys (by omega) (by omega) rfl) x.length 0 K k k' (by omega) (by omega) g5
  have hd : R.L_laws_heldRefS_0 K K (ys, k, 0, 0, ()) = some (Sum.inl (k', 0, ())) := hd
  refine ⟨k', ys, ?_, g1, by omega, ?_⟩
  · simp only [R.laws_markRefS, e, obind_some]
  · simp only [R.laws_heldRefS, hd, obind_some]

-- key Base go

theorem markBase_go (hK : 9223372036854775807 < K) (x : (List ((List (Int)) × (List ((List UInt8) × (Int))))) × (List ((List UInt8) × ((Int) × ((Int) × (Bool)))))) (hs : Sm (.pair (.sl (.pair (.sl (.int .i64)) (.sl (.pair .str (.int .i64))))) (.sl (.pair .str (.pair (.int .i64) (.pair (.int .i64) .bool))))) x) (k : Int) (h0 : 0 ≤ k) (h1 : k + 3298539077632 ≤ 9223372036854775807) :
    ∃ k' y, R.laws_markBase K x k = some ((k', ()), (y, ())) ∧ k ≤ k' ∧ k' ≤ k + 3298539077632 := by
  obtain ⟨k1, y1, m1, a1, b1⟩ := markCommitS_go hK x.1 hs.1 (k) (by omega) (by omega)
  have z1 := lt0 (show 0 ≤ k1 by omega)
  obtain ⟨k2, y2, m2, a2, b2⟩ := markRefS_go hK x.2 hs.2 (k1) (by omega) (by omega)
  have z2 := lt0 (show 0 ≤ k2 by omega)
  refine ⟨k2, (y1, y2), ?_, by omega, by omega⟩
  · simp only [R.laws_markBase, m1, z1, m2, z2, obind_some]

-- key Base ok

theorem markBase_ok (hK : 9223372036854775807 < K) (x : (List ((List (Int)) × (List ((List UInt8) × (Int))))) × (List ((List UInt8) × ((Int) × ((Int) × (Bool)))))) (hs : Sm (.pair (.sl (.pair (.sl (.int .i64)) (.sl (.pair .str (.int .i64))))) (.sl (.pair .str (.pair (.int .i64) (.pair (.int .i64) .bool))))) x) (k : Int) (h0 : 0 ≤ k) (h1 : k + 3298539077632 ≤ 9223372036854775807) :
    ∃ k' y, R.laws_markBase K x k = some ((k', ()), (y, ())) ∧ k ≤ k' ∧ k' ≤ k + 3298539077632 ∧ R.laws_heldBase K y k = some ((k', ()), ()) := by
  obtain ⟨k1, y1, m1, a1, b1, u1⟩ := markCommitS_ok hK x.1 hs.1 (k) (by omega) (by omega)
  have z1 := lt0 (show 0 ≤ k1 by omega)
  obtain ⟨k2, y2, m2, a2, b2, u2⟩ := markRefS_ok hK x.2 hs.2 (k1) (by omega) (by omega)
  have z2 := lt0 (show 0 ≤ k2 by omega)
  refine ⟨k2, (y1, y2), ?_, by omega, by omega, ?_⟩
  · simp only [R.laws_markBase, m1, u1, z1, m2, u2, z2, obind_some]
  · simp only [R.laws_heldBase, m1, u1, z1, m2, u2, z2, obind_some, cond_false]

-- key EditS go

theorem markEditS_go (hK : 9223372036854775807 < K) (x : List ((List UInt8) × ((Int) × (Bool)))) (hs : Sm (.sl (.pair .str (.pair (.int .i64) .bool))) x) (k : Int) (h0 : 0 ≤ k) (h1 : k + 3145728 ≤ 9223372036854775807) :
    ∃ k' y, R.laws_markEditS K x k = some ((k', ()), (y, ())) ∧ k ≤ k' ∧ k' ≤ k + 3145728 := by
  have hl : x.length ≤ 1048576 := hs.1
  have ml := mark_loop (d := ([], (0, false))) (L := fun n i k xs => R.L_laws_markEditS_0 K n (k, 0, (i : Nat), xs, ())) (len := x.length) (fin := fun k ys => (Sum.inl (k, 0, ys, ()))) (c := 3) (B := 9223372036854775807) (H := fun _ _ _ => True) (Good := Sm (.pair .str (.pair (.int .i64) .bool))) (by omega)
    (fun n k xs hx => by simp only [R.L_laws_markEditS_0, hx, idx_end, cond_false]) (fun n i k xs hi hx h0 h1 hs => by
      have hi' : i < xs.length := by omega
      generalize ee : xs.getD i ([], (0, false)) = e at hs
      obtain ⟨t1, e1⟩ := markText_ok hK (k) (by omega) (by omega)
      have w2 : IntKind.i64.wrap (k + 1) = k + 1 := wrap_id (by omega) (by omega)
      have w3 : IntKind.i64.wrap (k + 1 + 1) = k + 1 + 1 := wrap_id (by omega) (by omega)
      have w4 : IntKind.i64.wrap (k + 1 + 1 + 1) = k + 1 + 1 + 1 := wrap_id (by omega) (by omega)
      refine ⟨k + 1 + 1 + 1, (t1, (k + 1, (Int.tmod (k + 1 + 1) 3 == 0))), by omega, by omega, trivial, ?_⟩
      · simp only [R.L_laws_markEditS_0, idx_lt hi', idx_nn, Bool.and_self, Int.toNat_natCast, cond_true, cond_false, ee, e1, w2, w3, w4, obind_some, wrap_succ hi' (by omega : xs.length ≤ 9223372036854775807), List.length_set, List.set_set, getD_set hi', nbeq, bleC, Nat.reduceAdd, Nat.reduceLeDiff])
    x.length 0 K k x (by omega) (by omega) rfl h0 (by omega) (fun j _ hj => hs.2 _ (getD_mem _ hj))
  obtain ⟨k', ys, e, g1, g2, g3, _, g5⟩ := ml
  have e : R.L_laws_markEditS_0 K K (k, 0, 0, x, ()) = some (Sum.inl (k', 0, ys, ())) := e
  refine ⟨k', ys, ?_, g1, by omega⟩
  · simp only [R.laws_markEditS, e, obind_some]

-- key EditS ok

def HEditS (K : Nat) (k : Int) (y : (List UInt8) × ((Int) × (Bool))) (k' : Int) : Prop := ∀ (n i : Nat) (xs : List ((List UInt8) × ((Int) × (Bool)))), i < xs.length → xs.length ≤ 9223372036854775807 → xs.getD i ([], (0, false)) = y → R.L_laws_heldEditS_0 K (n + 1) (xs, k, 0, (i : Nat), ()) = R.L_laws_heldEditS_0 K n (xs, k', 0, ((i + 1 : Nat) : Int), ())

theorem markEditS_ok (hK : 9223372036854775807 < K) (x : List ((List UInt8) × ((Int) × (Bool)))) (hs : Sm (.sl (.pair .str (.pair (.int .i64) .bool))) x) (k : Int) (h0 : 0 ≤ k) (h1 : k + 3145728 ≤ 9223372036854775807) :
    ∃ k' y, R.laws_markEditS K x k = some ((k', ()), (y, ())) ∧ k ≤ k' ∧ k' ≤ k + 3145728 ∧ R.laws_heldEditS K y k = some ((k', ()), ()) := by
  have hl : x.length ≤ 1048576 := hs.1
  have ml := mark_loop (d := ([], (0, false))) (L := fun n i k xs => R.L_laws_markEditS_0 K n (k, 0, (i : Nat), xs, ())) (len := x.length) (fin := fun k ys => (Sum.inl (k, 0, ys, ()))) (c := 3) (B := 9223372036854775807) (H := HEditS K) (Good := Sm (.pair .str (.pair (.int .i64) .bool))) (by omega)
    (fun n k xs hx => by simp only [R.L_laws_markEditS_0, hx, idx_end, cond_false]) (fun n i k xs hi hx h0 h1 hs => by
      have hi' : i < xs.length := by omega
      generalize ee : xs.getD i ([], (0, false)) = e at hs
      obtain ⟨t1, e1⟩ := markText_ok hK (k) (by omega) (by omega)
      have w2 : IntKind.i64.wrap (k + 1) = k + 1 := wrap_id (by omega) (by omega)
      have w3 : IntKind.i64.wrap (k + 1 + 1) = k + 1 + 1 := wrap_id (by omega) (by omega)
      have w4 : IntKind.i64.wrap (k + 1 + 1 + 1) = k + 1 + 1 + 1 := wrap_id (by omega) (by omega)
      refine ⟨k + 1 + 1 + 1, (t1, (k + 1, (Int.tmod (k + 1 + 1) 3 == 0))), by omega, by omega, fun n j ys hj hy ey => ?_, ?_⟩
      · simp only [R.L_laws_heldEditS_0, idx_lt hj, idx_nn, Bool.and_self, Int.toNat_natCast, cond_true, cond_false, ey, e1, w2, w3, w4, obind_some, wrap_succ hj hy, bne_self_eq_false, beq_self_eq_true, Bool.not_true, nbeq]
      · simp only [R.L_laws_markEditS_0, idx_lt hi', idx_nn, Bool.and_self, Int.toNat_natCast, cond_true, cond_false, ee, e1, w2, w3, w4, obind_some, wrap_succ hi' (by omega : xs.length ≤ 9223372036854775807), List.length_set, List.set_set, getD_set hi', nbeq, bleC, Nat.reduceAdd, Nat.reduceLeDiff])
    x.length 0 K k x (by omega) (by omega) rfl h0 (by omega) (fun j _ hj => hs.2 _ (getD_mem _ hj))
  obtain ⟨k', ys, e, g1, g2, g3, _, g5⟩ := ml
  have e : R.L_laws_markEditS_0 K K (k, 0, 0, x, ()) = some (Sum.inl (k', 0, ys, ())) := e
  have hd := held_loop (d := ([], (0, false))) (ys := ys) (L := fun n i k => R.L_laws_heldEditS_0 K n (ys, k, 0, (i : Nat), ())) (len := x.length) (fin := fun k => (Sum.inl (k, 0, ()))) (H := HEditS K)
    (fun n k => by rw [← g3]; simp only [R.L_laws_heldEditS_0, idx_end, cond_false]) (fun n i k k' hi h => h n i ys (by omega) (by omega) rfl) x.length 0 K k k' (by omega) (by omega) g5
  have hd : R.L_laws_heldEditS_0 K K (ys, k, 0, 0, ()) = some (Sum.inl (k', 0, ())) := hd
  refine ⟨k', ys, ?_, g1, by omega, ?_⟩
  · simp only [R.laws_markEditS, e, obind_some]
  · simp only [R.laws_heldEditS, hd, obind_some]

-- key WishS go

theorem markWishS_go (hK : 9223372036854775807 < K) (x : List ((Int) × ((List UInt8) × ((List UInt8) × ((List UInt8) × (List ((List UInt8) × ((Int) × (Bool))))))))) (hs : Sm (.sl (.pair (.int .i64) (.pair .str (.pair .str (.pair .str (.sl (.pair .str (.pair (.int .i64) .bool)))))))) x) (k : Int) (h0 : 0 ≤ k) (h1 : k + 3298539077632 ≤ 9223372036854775807) :
    ∃ k' y, R.laws_markWishS K x k = some ((k', ()), (y, ())) ∧ k ≤ k' ∧ k' ≤ k + 3298539077632 := by
  have hl : x.length ≤ 1048576 := hs.1
  have ml := mark_loop (d := (0, ([], ([], ([], []))))) (L := fun n i k xs => R.L_laws_markWishS_0 K n (k, 0, (i : Nat), xs, ())) (len := x.length) (fin := fun k ys => (Sum.inl (k, 0, ys, ()))) (c := 3145732) (B := 9223372036854775807) (H := fun _ _ _ => True) (Good := Sm (.pair (.int .i64) (.pair .str (.pair .str (.pair .str (.sl (.pair .str (.pair (.int .i64) .bool)))))))) (by omega)
    (fun n k xs hx => by simp only [R.L_laws_markWishS_0, hx, idx_end, cond_false]) (fun n i k xs hi hx h0 h1 hs => by
      have hi' : i < xs.length := by omega
      generalize ee : xs.getD i (0, ([], ([], ([], [])))) = e at hs
      have w1 : IntKind.i64.wrap (k + 1) = k + 1 := wrap_id (by omega) (by omega)
      obtain ⟨t2, e2⟩ := markText_ok hK (k + 1) (by omega) (by omega)
      have w3 : IntKind.i64.wrap (k + 1 + 1) = k + 1 + 1 := wrap_id (by omega) (by omega)
      obtain ⟨t4, e4⟩ := markText_ok hK (k + 1 + 1) (by omega) (by omega)
      have w5 : IntKind.i64.wrap (k + 1 + 1 + 1) = k + 1 + 1 + 1 := wrap_id (by omega) (by omega)
      obtain ⟨t6, e6⟩ := markText_ok hK (k + 1 + 1 + 1) (by omega) (by omega)
      have w7 : IntKind.i64.wrap (k + 1 + 1 + 1 + 1) = k + 1 + 1 + 1 + 1 := wrap_id (by omega) (by omega)
      obtain ⟨k8, y8, m8, a8, b8⟩ := markEditS_go hK e.2.2.2.2 hs.2.2.2.2 (k + 1 + 1 + 1 + 1) (by omega) (by omega)
      have z8 := lt0 (show 0 ≤ k8 by omega)
      refine ⟨k8, (k, (t2, (t4, (t6, y8)))), by omega, by omega, trivial, ?_⟩
      · simp only [R.L_laws_markWishS_0, idx_lt hi', idx_nn, Bool.and_self, Int.toNat_natCast, cond_true, cond_false, ee, w1, e2, w3, e4, w5, e6, w7, m8, z8, obind_some, wrap_succ hi' (by omega : xs.length ≤ 9223372036854775807), List.length_set, List.set_set, getD_set hi', nbeq, bleC, Nat.reduceAdd, Nat.reduceLeDiff])
    x.length 0 K k x (by omega) (by omega) rfl h0 (by omega) (fun j _ hj => hs.2 _ (getD_mem _ hj))
  obtain ⟨k', ys, e, g1, g2, g3, _, g5⟩ := ml
  have e : R.L_laws_markWishS_0 K K (k, 0, 0, x, ()) = some (Sum.inl (k', 0, ys, ())) := e
  refine ⟨k', ys, ?_, g1, by omega⟩
  · simp only [R.laws_markWishS, e, obind_some]

-- key WishS ok

def HWishS (K : Nat) (k : Int) (y : (Int) × ((List UInt8) × ((List UInt8) × ((List UInt8) × (List ((List UInt8) × ((Int) × (Bool)))))))) (k' : Int) : Prop := ∀ (n i : Nat) (xs : List ((Int) × ((List UInt8) × ((List UInt8) × ((List UInt8) × (List ((List UInt8) × ((Int) × (Bool))))))))), i < xs.length → xs.length ≤ 9223372036854775807 → xs.getD i (0, ([], ([], ([], [])))) = y → R.L_laws_heldWishS_0 K (n + 1) (xs, k, 0, (i : Nat), ()) = R.L_laws_heldWishS_0 K n (xs, k', 0, ((i + 1 : Nat) : Int), ())

theorem markWishS_ok (hK : 9223372036854775807 < K) (x : List ((Int) × ((List UInt8) × ((List UInt8) × ((List UInt8) × (List ((List UInt8) × ((Int) × (Bool))))))))) (hs : Sm (.sl (.pair (.int .i64) (.pair .str (.pair .str (.pair .str (.sl (.pair .str (.pair (.int .i64) .bool)))))))) x) (k : Int) (h0 : 0 ≤ k) (h1 : k + 3298539077632 ≤ 9223372036854775807) :
    ∃ k' y, R.laws_markWishS K x k = some ((k', ()), (y, ())) ∧ k ≤ k' ∧ k' ≤ k + 3298539077632 ∧ R.laws_heldWishS K y k = some ((k', ()), ()) := by
  have hl : x.length ≤ 1048576 := hs.1
  have ml := mark_loop (d := (0, ([], ([], ([], []))))) (L := fun n i k xs => R.L_laws_markWishS_0 K n (k, 0, (i : Nat), xs, ())) (len := x.length) (fin := fun k ys => (Sum.inl (k, 0, ys, ()))) (c := 3145732) (B := 9223372036854775807) (H := HWishS K) (Good := Sm (.pair (.int .i64) (.pair .str (.pair .str (.pair .str (.sl (.pair .str (.pair (.int .i64) .bool)))))))) (by omega)
    (fun n k xs hx => by simp only [R.L_laws_markWishS_0, hx, idx_end, cond_false]) (fun n i k xs hi hx h0 h1 hs => by
      have hi' : i < xs.length := by omega
      generalize ee : xs.getD i (0, ([], ([], ([], [])))) = e at hs
      have w1 : IntKind.i64.wrap (k + 1) = k + 1 := wrap_id (by omega) (by omega)
      obtain ⟨t2, e2⟩ := markText_ok hK (k + 1) (by omega) (by omega)
      have w3 : IntKind.i64.wrap (k + 1 + 1) = k + 1 + 1 := wrap_id (by omega) (by omega)
      obtain ⟨t4, e4⟩ := markText_ok hK (k + 1 + 1) (by omega) (by omega)
      have w5 : IntKind.i64.wrap (k + 1 + 1 + 1) = k + 1 + 1 + 1 := wrap_id (by omega) (by omega)
      obtain ⟨t6, e6⟩ := markText_ok hK (k + 1 + 1 + 1) (by omega) (by omega)
      have w7 : IntKind.i64.wrap (k + 1 + 1 + 1 + 1) = k + 1 + 1 + 1 + 1 := wrap_id (by omega) (by omega)
      obtain ⟨k8, y8, m8, a8, b8, u8⟩ := markEditS_ok hK e.2.2.2.2 hs.2.2.2.2 (k + 1 + 1 + 1 + 1) (by omega) (by omega)
      have z8 := lt0 (show 0 ≤ k8 by omega)
      refine ⟨k8, (k, (t2, (t4, (t6, y8)))), by omega, by omega, fun n j ys hj hy ey => ?_, ?_⟩
      · simp only [R.L_laws_heldWishS_0, idx_lt hj, idx_nn, Bool.and_self, Int.toNat_natCast, cond_true, cond_false, ey, w1, e2, w3, e4, w5, e6, w7, m8, u8, z8, obind_some, wrap_succ hj hy, bne_self_eq_false, beq_self_eq_true, Bool.not_true, nbeq]
      · simp only [R.L_laws_markWishS_0, idx_lt hi', idx_nn, Bool.and_self, Int.toNat_natCast, cond_true, cond_false, ee, w1, e2, w3, e4, w5, e6, w7, m8, u8, z8, obind_some, wrap_succ hi' (by omega : xs.length ≤ 9223372036854775807), List.length_set, List.set_set, getD_set hi', nbeq, bleC, Nat.reduceAdd, Nat.reduceLeDiff])
    x.length 0 K k x (by omega) (by omega) rfl h0 (by omega) (fun j _ hj => hs.2 _ (getD_mem _ hj))
  obtain ⟨k', ys, e, g1, g2, g3, _, g5⟩ := ml
  have e : R.L_laws_markWishS_0 K K (k, 0, 0, x, ()) = some (Sum.inl (k', 0, ys, ())) := e
  have hd := held_loop (d := (0, ([], ([], ([], []))))) (ys := ys) (L := fun n i k => R.L_laws_heldWishS_0 K n (ys, k, 0, (i : Nat), ())) (len := x.length) (fin := fun k => (Sum.inl (k, 0, ()))) (H := HWishS K)
    (fun n k => by rw [← g3]; simp only [R.L_laws_heldWishS_0, idx_end, cond_false]) (fun n i k k' hi h => h n i ys (by omega) (by omega) rfl) x.length 0 K k k' (by omega) (by omega) g5
  have hd : R.L_laws_heldWishS_0 K K (ys, k, 0, 0, ()) = some (Sum.inl (k', 0, ())) := hd
  refine ⟨k', ys, ?_, g1, by omega, ?_⟩
  · simp only [R.laws_markWishS, e, obind_some]
  · simp only [R.laws_heldWishS, hd, obind_some]

-- key WishSS go

theorem markWishSS_go (hK : 9223372036854775807 < K) (x : List (List ((Int) × ((List UInt8) × ((List UInt8) × ((List UInt8) × (List ((List UInt8) × ((Int) × (Bool)))))))))) (hs : Sm (.sl (.sl (.pair (.int .i64) (.pair .str (.pair .str (.pair .str (.sl (.pair .str (.pair (.int .i64) .bool))))))))) x) (k : Int) (h0 : 0 ≤ k) (h1 : k + 3458768911867052032 ≤ 9223372036854775807) :
    ∃ k' y, R.laws_markWishSS K x k = some ((k', ()), (y, ())) ∧ k ≤ k' ∧ k' ≤ k + 3458768911867052032 := by
  have hl : x.length ≤ 1048576 := hs.1
  have ml := mark_loop (d := []) (L := fun n i k xs => R.L_laws_markWishSS_0 K n (k, 0, (i : Nat), xs, ())) (len := x.length) (fin := fun k ys => (Sum.inl (k, 0, ys, ()))) (c := 3298539077632) (B := 9223372036854775807) (H := fun _ _ _ => True) (Good := Sm (.sl (.pair (.int .i64) (.pair .str (.pair .str (.pair .str (.sl (.pair .str (.pair (.int .i64) .bool))))))))) (by omega)
    (fun n k xs hx => by simp only [R.L_laws_markWishSS_0, hx, idx_end, cond_false]) (fun n i k xs hi hx h0 h1 hs => by
      have hi' : i < xs.length := by omega
      generalize ee : xs.getD i [] = e at hs
      obtain ⟨k1, y1, m1, a1, b1⟩ := markWishS_go hK e hs (k) (by omega) (by omega)
      have z1 := lt0 (show 0 ≤ k1 by omega)
      refine ⟨k1, y1, by omega, by omega, trivial, ?_⟩
      · simp only [R.L_laws_markWishSS_0, idx_lt hi', idx_nn, Bool.and_self, Int.toNat_natCast, cond_true, cond_false, ee, m1, z1, obind_some, wrap_succ hi' (by omega : xs.length ≤ 9223372036854775807), List.length_set, List.set_set, getD_set hi', nbeq, bleC, Nat.reduceAdd, Nat.reduceLeDiff])
    x.length 0 K k x (by omega) (by omega) rfl h0 (by omega) (fun j _ hj => hs.2 _ (getD_mem _ hj))
  obtain ⟨k', ys, e, g1, g2, g3, _, g5⟩ := ml
  have e : R.L_laws_markWishSS_0 K K (k, 0, 0, x, ()) = some (Sum.inl (k', 0, ys, ())) := e
  refine ⟨k', ys, ?_, g1, by omega⟩
  · simp only [R.laws_markWishSS, e, obind_some]

-- key StringS go

theorem markStringS_go (hK : 9223372036854775807 < K) (x : List (List UInt8)) (hs : Sm (.sl .str) x) (k : Int) (h0 : 0 ≤ k) (h1 : k + 1048576 ≤ 9223372036854775807) :
    ∃ k' y, R.laws_markStringS K x k = some ((k', ()), (y, ())) ∧ k ≤ k' ∧ k' ≤ k + 1048576 := by
  have hl : x.length ≤ 1048576 := hs.1
  have ml := mark_loop (d := []) (L := fun n i k xs => R.L_laws_markStringS_0 K n (k, 0, (i : Nat), xs, ())) (len := x.length) (fin := fun k ys => (Sum.inl (k, 0, ys, ()))) (c := 1) (B := 9223372036854775807) (H := fun _ _ _ => True) (Good := Sm .str) (by omega)
    (fun n k xs hx => by simp only [R.L_laws_markStringS_0, hx, idx_end, cond_false]) (fun n i k xs hi hx h0 h1 hs => by
      have hi' : i < xs.length := by omega
      generalize ee : xs.getD i [] = e at hs
      obtain ⟨t1, e1⟩ := markText_ok hK (k) (by omega) (by omega)
      have w2 : IntKind.i64.wrap (k + 1) = k + 1 := wrap_id (by omega) (by omega)
      refine ⟨k + 1, t1, by omega, by omega, trivial, ?_⟩
      · simp only [R.L_laws_markStringS_0, idx_lt hi', idx_nn, Bool.and_self, Int.toNat_natCast, cond_true, cond_false, ee, e1, w2, obind_some, wrap_succ hi' (by omega : xs.length ≤ 9223372036854775807), List.length_set, List.set_set, getD_set hi', nbeq, bleC, Nat.reduceAdd, Nat.reduceLeDiff])
    x.length 0 K k x (by omega) (by omega) rfl h0 (by omega) (fun j _ hj => hs.2 _ (getD_mem _ hj))
  obtain ⟨k', ys, e, g1, g2, g3, _, g5⟩ := ml
  have e : R.L_laws_markStringS_0 K K (k, 0, 0, x, ()) = some (Sum.inl (k', 0, ys, ())) := e
  refine ⟨k', ys, ?_, g1, by omega⟩
  · simp only [R.laws_markStringS, e, obind_some]

-- key StringS ok

def HStringS (K : Nat) (k : Int) (y : List UInt8) (k' : Int) : Prop := ∀ (n i : Nat) (xs : List (List UInt8)), i < xs.length → xs.length ≤ 9223372036854775807 → xs.getD i [] = y → R.L_laws_heldStringS_0 K (n + 1) (xs, k, 0, (i : Nat), ()) = R.L_laws_heldStringS_0 K n (xs, k', 0, ((i + 1 : Nat) : Int), ())

theorem markStringS_ok (hK : 9223372036854775807 < K) (x : List (List UInt8)) (hs : Sm (.sl .str) x) (k : Int) (h0 : 0 ≤ k) (h1 : k + 1048576 ≤ 9223372036854775807) :
    ∃ k' y, R.laws_markStringS K x k = some ((k', ()), (y, ())) ∧ k ≤ k' ∧ k' ≤ k + 1048576 ∧ R.laws_heldStringS K y k = some ((k', ()), ()) := by
  have hl : x.length ≤ 1048576 := hs.1
  have ml := mark_loop (d := []) (L := fun n i k xs => R.L_laws_markStringS_0 K n (k, 0, (i : Nat), xs, ())) (len := x.length) (fin := fun k ys => (Sum.inl (k, 0, ys, ()))) (c := 1) (B := 9223372036854775807) (H := HStringS K) (Good := Sm .str) (by omega)
    (fun n k xs hx => by simp only [R.L_laws_markStringS_0, hx, idx_end, cond_false]) (fun n i k xs hi hx h0 h1 hs => by
      have hi' : i < xs.length := by omega
      generalize ee : xs.getD i [] = e at hs
      obtain ⟨t1, e1⟩ := markText_ok hK (k) (by omega) (by omega)
      have w2 : IntKind.i64.wrap (k + 1) = k + 1 := wrap_id (by omega) (by omega)
      refine ⟨k + 1, t1, by omega, by omega, fun n j ys hj hy ey => ?_, ?_⟩
      · simp only [R.L_laws_heldStringS_0, idx_lt hj, idx_nn, Bool.and_self, Int.toNat_natCast, cond_true, cond_false, ey, e1, w2, obind_some, wrap_succ hj hy, bne_self_eq_false, beq_self_eq_true, Bool.not_true, nbeq]
      · simp only [R.L_laws_markStringS_0, idx_lt hi', idx_nn, Bool.and_self, Int.toNat_natCast, cond_true, cond_false, ee, e1, w2, obind_some, wrap_succ hi' (by omega : xs.length ≤ 9223372036854775807), List.length_set, List.set_set, getD_set hi', nbeq, bleC, Nat.reduceAdd, Nat.reduceLeDiff])
    x.length 0 K k x (by omega) (by omega) rfl h0 (by omega) (fun j _ hj => hs.2 _ (getD_mem _ hj))
  obtain ⟨k', ys, e, g1, g2, g3, _, g5⟩ := ml
  have e : R.L_laws_markStringS_0 K K (k, 0, 0, x, ()) = some (Sum.inl (k', 0, ys, ())) := e
  have hd := held_loop (d := []) (ys := ys) (L := fun n i k => R.L_laws_heldStringS_0 K n (ys, k, 0, (i : Nat), ())) (len := x.length) (fin := fun k => (Sum.inl (k, 0, ()))) (H := HStringS K)
    (fun n k => by rw [← g3]; simp only [R.L_laws_heldStringS_0, idx_end, cond_false]) (fun n i k k' hi h => h n i ys (by omega) (by omega) rfl) x.length 0 K k k' (by omega) (by omega) g5
  have hd : R.L_laws_heldStringS_0 K K (ys, k, 0, 0, ()) = some (Sum.inl (k', 0, ())) := hd
  refine ⟨k', ys, ?_, g1, by omega, ?_⟩
  · simp only [R.laws_markStringS, e, obind_some]
  · simp only [R.laws_heldStringS, hd, obind_some]

-- key ClientS go

def HClientS (K : Nat) (k : Int) (y : (List ((Int) × ((List UInt8) × ((List UInt8) × ((List UInt8) × (List ((List UInt8) × ((Int) × (Bool))))))))) × ((Int) × ((Int) × ((Int) × ((Int) × ((Int) × ((Int) × ((Int) × (List ((List UInt8) × (Int))))))))))) (k' : Int) : Prop := ∀ (n i : Nat) (xs : List ((List ((Int) × ((List UInt8) × ((List UInt8) × ((List UInt8) × (List ((List UInt8) × ((Int) × (Bool))))))))) × ((Int) × ((Int) × ((Int) × ((Int) × ((Int) × ((Int) × ((Int) × (List ((List UInt8) × (Int)))))))))))), i < xs.length → xs.length ≤ 9223372036854775807 → xs.getD i ([], (0, (0, (0, (0, (0, (0, (0, [])))))))) = y → R.L_laws_heldClientS_0 K (n + 1) (xs, k, 0, (i : Nat), ()) = R.L_laws_heldClientS_0 K n (xs, k', 0, ((i + 1 : Nat) : Int), ())

theorem markClientS_ok (hK : 9223372036854775807 < K) (x : List ((List ((Int) × ((List UInt8) × ((List UInt8) × ((List UInt8) × (List ((List UInt8) × ((Int) × (Bool))))))))) × ((Int) × ((Int) × ((Int) × ((Int) × ((Int) × ((Int) × ((Int) × (List ((List UInt8) × (Int)))))))))))) (hs : Sm (.sl (.pair (.sl (.pair (.int .i64) (.pair .str (.pair .str (.pair .str (.sl (.pair .str (.pair (.int .i64) .bool)))))))) (.pair (.int .i64) (.pair (.int .i64) (.pair (.int .i64) (.pair (.int .i64) (.pair (.int .i64) (.pair (.int .i64) (.pair (.int .i64) (.sl (.pair .str (.int .i64)))))))))))) x) (k : Int) (h0 : 0 ≤ k) (h1 : k + 3458771110897647616 ≤ 9223372036854775807) :
    ∃ k' y, R.laws_markClientS K x k = some ((k', ()), (y, ())) ∧ k ≤ k' ∧ k' ≤ k + 3458771110897647616 ∧ R.laws_heldClientS K y k = some ((k', ()), ()) := by
  have hl : x.length ≤ 1048576 := hs.1
  have ml := mark_loop (d := ([], (0, (0, (0, (0, (0, (0, (0, []))))))))) (L := fun n i k xs => R.L_laws_markClientS_0 K n (k, 0, (i : Nat), xs, ())) (len := x.length) (fin := fun k ys => (Sum.inl (k, 0, ys, ()))) (c := 3298541174791) (B := 9223372036854775807) (H := HClientS K) (Good := Sm (.pair (.sl (.pair (.int .i64) (.pair .str (.pair .str (.pair .str (.sl (.pair .str (.pair (.int .i64) .bool)))))))) (.pair (.int .i64) (.pair (.int .i64) (.pair (.int .i64) (.pair (.int .i64) (.pair (.int .i64) (.pair (.int .i64) (.pair (.int .i64) (.sl (.pair .str (.int .i64)))))))))))) (by omega)
    (fun n k xs hx => by simp only [R.L_laws_markClientS_0, hx, idx_end, cond_false]) (fun n i k xs hi hx h0 h1 hs => by
      have hi' : i < xs.length := by omega
      generalize ee : xs.getD i ([], (0, (0, (0, (0, (0, (0, (0, [])))))))) = e at hs
      obtain ⟨k1, y1, m1, a1, b1, u1⟩ := markWishS_ok hK e.1 hs.1 (k) (by omega) (by omega)
      have z1 := lt0 (show 0 ≤ k1 by omega)
      have w2 : IntKind.i64.wrap (k1 + 1) = k1 + 1 := wrap_id (by omega) (by omega)
      have w3 : IntKind.i64.wrap (k1 + 1 + 1) = k1 + 1 + 1 := wrap_id (by omega) (by omega)
      have w4 : IntKind.i64.wrap (k1 + 1 + 1 + 1) = k1 + 1 + 1 + 1 := wrap_id (by omega) (by omega)
      have w5 : IntKind.i64.wrap (k1 + 1 + 1 + 1 + 1) = k1 + 1 + 1 + 1 + 1 := wrap_id (by omega) (by omega)
      have w6 : IntKind.i64.wrap (k1 + 1 + 1 + 1 + 1 + 1) = k1 + 1 + 1 + 1 + 1 + 1 := wrap_id (by omega) (by omega)
      have w7 : IntKind.i64.wrap (k1 + 1 + 1 + 1 + 1 + 1 + 1) = k1 + 1 + 1 + 1 + 1 + 1 + 1 := wrap_id (by omega) (by omega)
      have w8 : IntKind.i64.wrap (k1 + 1 + 1 + 1 + 1 + 1 + 1 + 1) = k1 + 1 + 1 + 1 + 1 + 1 + 1 + 1 := wrap_id (by omega) (by omega)
      obtain ⟨k9, y9, m9, a9, b9, u9⟩ := markEntryS_ok hK e.2.2.2.2.2.2.2.2 hs.2.2.2.2.2.2.2.2 (k1 + 1 + 1 + 1 + 1 + 1 + 1 + 1) (by omega) (by omega)
      have z9 := lt0 (show 0 ≤ k9 by omega)
      refine ⟨k9, (y1, (k1, (k1 + 1, (k1 + 1 + 1, (k1 + 1 + 1 + 1, (k1 + 1 + 1 + 1 + 1, (k1 + 1 + 1 + 1 + 1 + 1, (k1 + 1 + 1 + 1 + 1 + 1 + 1, y9)))))))), by omega, by omega, fun n j ys hj hy ey => ?_, ?_⟩
      · simp only [R.L_laws_heldClientS_0, idx_lt hj, idx_nn, Bool.and_self, Int.toNat_natCast, cond_true, cond_false, ey, m1, u1, z1, w2, w3, w4, w5, w6, w7, w8, m9, u9, z9, obind_some, wrap_succ hj hy, bne_self_eq_false, beq_self_eq_true, Bool.not_true, nbeq]
      · simp only [R.L_laws_markClientS_0, idx_lt hi', idx_nn, Bool.and_self, Int.toNat_natCast, cond_true, cond_false, ee, m1, u1, z1, w2, w3, w4, w5, w6, w7, w8, m9, u9, z9, obind_some, wrap_succ hi' (by omega : xs.length ≤ 9223372036854775807), List.length_set, List.set_set, getD_set hi', nbeq, bleC, Nat.reduceAdd, Nat.reduceLeDiff])
    x.length 0 K k x (by omega) (by omega) rfl h0 (by omega) (fun j _ hj => hs.2 _ (getD_mem _ hj))
  obtain ⟨k', ys, e, g1, g2, g3, _, g5⟩ := ml
  have e : R.L_laws_markClientS_0 K K (k, 0, 0, x, ()) = some (Sum.inl (k', 0, ys, ())) := e
  have hd := held_loop (d := ([], (0, (0, (0, (0, (0, (0, (0, []))))))))) (ys := ys) (L := fun n i k => R.L_laws_heldClientS_0 K n (ys, k, 0, (i : Nat), ())) (len := x.length) (fin := fun k => (Sum.inl (k, 0, ()))) (H := HClientS K)
    (fun n k => by rw [← g3]; simp only [R.L_laws_heldClientS_0, idx_end, cond_false]) (fun n i k k' hi h => h n i ys (by omega) (by omega) rfl) x.length 0 K k k' (by omega) (by omega) g5
  have hd : R.L_laws_heldClientS_0 K K (ys, k, 0, 0, ()) = some (Sum.inl (k', 0, ())) := hd
  refine ⟨k', ys, ?_, g1, by omega, ?_⟩
  · simp only [R.laws_markClientS, e, obind_some]
  · simp only [R.laws_heldClientS, hd, obind_some]

-- key EventS go

def HEventS (K : Nat) (k : Int) (y : (Int) × ((Int) × (Bool))) (k' : Int) : Prop := ∀ (n i : Nat) (xs : List ((Int) × ((Int) × (Bool)))), i < xs.length → xs.length ≤ 9223372036854775807 → xs.getD i (0, (0, false)) = y → R.L_laws_heldEventS_0 K (n + 1) (xs, k, 0, (i : Nat), ()) = R.L_laws_heldEventS_0 K n (xs, k', 0, ((i + 1 : Nat) : Int), ())

theorem markEventS_ok (hK : 9223372036854775807 < K) (x : List ((Int) × ((Int) × (Bool)))) (hs : Sm (.sl (.pair (.int .i64) (.pair (.int .i64) .bool))) x) (k : Int) (h0 : 0 ≤ k) (h1 : k + 3145728 ≤ 9223372036854775807) :
    ∃ k' y, R.laws_markEventS K x k = some ((k', ()), (y, ())) ∧ k ≤ k' ∧ k' ≤ k + 3145728 ∧ R.laws_heldEventS K y k = some ((k', ()), ()) := by
  have hl : x.length ≤ 1048576 := hs.1
  have ml := mark_loop (d := (0, (0, false))) (L := fun n i k xs => R.L_laws_markEventS_0 K n (k, 0, (i : Nat), xs, ())) (len := x.length) (fin := fun k ys => (Sum.inl (k, 0, ys, ()))) (c := 3) (B := 9223372036854775807) (H := HEventS K) (Good := Sm (.pair (.int .i64) (.pair (.int .i64) .bool))) (by omega)
    (fun n k xs hx => by simp only [R.L_laws_markEventS_0, hx, idx_end, cond_false]) (fun n i k xs hi hx h0 h1 hs => by
      have hi' : i < xs.length := by omega
      generalize ee : xs.getD i (0, (0, false)) = e at hs
      have w1 : IntKind.i64.wrap (k + 1) = k + 1 := wrap_id (by omega) (by omega)
      have w2 : IntKind.i64.wrap (k + 1 + 1) = k + 1 + 1 := wrap_id (by omega) (by omega)
      have w3 : IntKind.i64.wrap (k + 1 + 1 + 1) = k + 1 + 1 + 1 := wrap_id (by omega) (by omega)
      refine ⟨k + 1 + 1 + 1, (k, (k + 1, (Int.tmod (k + 1 + 1) 3 == 0))), by omega, by omega, fun n j ys hj hy ey => ?_, ?_⟩
      · simp only [R.L_laws_heldEventS_0, idx_lt hj, idx_nn, Bool.and_self, Int.toNat_natCast, cond_true, cond_false, ey, w1, w2, w3, obind_some, wrap_succ hj hy, bne_self_eq_false, beq_self_eq_true, Bool.not_true, nbeq]
      · simp only [R.L_laws_markEventS_0, idx_lt hi', idx_nn, Bool.and_self, Int.toNat_natCast, cond_true, cond_false, ee, w1, w2, w3, obind_some, wrap_succ hi' (by omega : xs.length ≤ 9223372036854775807), List.length_set, List.set_set, getD_set hi', nbeq, bleC, Nat.reduceAdd, Nat.reduceLeDiff])
    x.length 0 K k x (by omega) (by omega) rfl h0 (by omega) (fun j _ hj => hs.2 _ (getD_mem _ hj))
  obtain ⟨k', ys, e, g1, g2, g3, _, g5⟩ := ml
  have e : R.L_laws_markEventS_0 K K (k, 0, 0, x, ()) = some (Sum.inl (k', 0, ys, ())) := e
  have hd := held_loop (d := (0, (0, false))) (ys := ys) (L := fun n i k => R.L_laws_heldEventS_0 K n (ys, k, 0, (i : Nat), ())) (len := x.length) (fin := fun k => (Sum.inl (k, 0, ()))) (H := HEventS K)
    (fun n k => by rw [← g3]; simp only [R.L_laws_heldEventS_0, idx_end, cond_false]) (fun n i k k' hi h => h n i ys (by omega) (by omega) rfl) x.length 0 K k k' (by omega) (by omega) g5
  have hd : R.L_laws_heldEventS_0 K K (ys, k, 0, 0, ()) = some (Sum.inl (k', 0, ())) := hd
  refine ⟨k', ys, ?_, g1, by omega, ?_⟩
  · simp only [R.laws_markEventS, e, obind_some]
  · simp only [R.laws_heldEventS, hd, obind_some]

-- key WatchS go

def HWatchS (K : Nat) (k : Int) (y : (List UInt8) × ((Int) × (List ((Int) × ((Int) × (Bool)))))) (k' : Int) : Prop := ∀ (n i : Nat) (xs : List ((List UInt8) × ((Int) × (List ((Int) × ((Int) × (Bool))))))), i < xs.length → xs.length ≤ 9223372036854775807 → xs.getD i ([], (0, [])) = y → R.L_laws_heldWatchS_0 K (n + 1) (xs, k, 0, (i : Nat), ()) = R.L_laws_heldWatchS_0 K n (xs, k', 0, ((i + 1 : Nat) : Int), ())

theorem markWatchS_ok (hK : 9223372036854775807 < K) (x : List ((List UInt8) × ((Int) × (List ((Int) × ((Int) × (Bool))))))) (hs : Sm (.sl (.pair .str (.pair (.int .i64) (.sl (.pair (.int .i64) (.pair (.int .i64) .bool)))))) x) (k : Int) (h0 : 0 ≤ k) (h1 : k + 3298536980480 ≤ 9223372036854775807) :
    ∃ k' y, R.laws_markWatchS K x k = some ((k', ()), (y, ())) ∧ k ≤ k' ∧ k' ≤ k + 3298536980480 ∧ R.laws_heldWatchS K y k = some ((k', ()), ()) := by
  have hl : x.length ≤ 1048576 := hs.1
  have ml := mark_loop (d := ([], (0, []))) (L := fun n i k xs => R.L_laws_markWatchS_0 K n (k, 0, (i : Nat), xs, ())) (len := x.length) (fin := fun k ys => (Sum.inl (k, 0, ys, ()))) (c := 3145730) (B := 9223372036854775807) (H := HWatchS K) (Good := Sm (.pair .str (.pair (.int .i64) (.sl (.pair (.int .i64) (.pair (.int .i64) .bool)))))) (by omega)
    (fun n k xs hx => by simp only [R.L_laws_markWatchS_0, hx, idx_end, cond_false]) (fun n i k xs hi hx h0 h1 hs => by
      have hi' : i < xs.length := by omega
      generalize ee : xs.getD i ([], (0, [])) = e at hs
      obtain ⟨t1, e1⟩ := markText_ok hK (k) (by omega) (by omega)
      have w2 : IntKind.i64.wrap (k + 1) = k + 1 := wrap_id (by omega) (by omega)
      have w3 : IntKind.i64.wrap (k + 1 + 1) = k + 1 + 1 := wrap_id (by omega) (by omega)
      obtain ⟨k4, y4, m4, a4, b4, u4⟩ := markEventS_ok hK e.2.2 hs.2.2 (k + 1 + 1) (by omega) (by omega)
      have z4 := lt0 (show 0 ≤ k4 by omega)
      refine ⟨k4, (t1, (k + 1, y4)), by omega, by omega, fun n j ys hj hy ey => ?_, ?_⟩
      · simp only [R.L_laws_heldWatchS_0, idx_lt hj, idx_nn, Bool.and_self, Int.toNat_natCast, cond_true, cond_false, ey, e1, w2, w3, m4, u4, z4, obind_some, wrap_succ hj hy, bne_self_eq_false, beq_self_eq_true, Bool.not_true, nbeq]
      · simp only [R.L_laws_markWatchS_0, idx_lt hi', idx_nn, Bool.and_self, Int.toNat_natCast, cond_true, cond_false, ee, e1, w2, w3, m4, u4, z4, obind_some, wrap_succ hi' (by omega : xs.length ≤ 9223372036854775807), List.length_set, List.set_set, getD_set hi', nbeq, bleC, Nat.reduceAdd, Nat.reduceLeDiff])
    x.length 0 K k x (by omega) (by omega) rfl h0 (by omega) (fun j _ hj => hs.2 _ (getD_mem _ hj))
  obtain ⟨k', ys, e, g1, g2, g3, _, g5⟩ := ml
  have e : R.L_laws_markWatchS_0 K K (k, 0, 0, x, ()) = some (Sum.inl (k', 0, ys, ())) := e
  have hd := held_loop (d := ([], (0, []))) (ys := ys) (L := fun n i k => R.L_laws_heldWatchS_0 K n (ys, k, 0, (i : Nat), ())) (len := x.length) (fin := fun k => (Sum.inl (k, 0, ()))) (H := HWatchS K)
    (fun n k => by rw [← g3]; simp only [R.L_laws_heldWatchS_0, idx_end, cond_false]) (fun n i k k' hi h => h n i ys (by omega) (by omega) rfl) x.length 0 K k k' (by omega) (by omega) g5
  have hd : R.L_laws_heldWatchS_0 K K (ys, k, 0, 0, ()) = some (Sum.inl (k', 0, ())) := hd
  refine ⟨k', ys, ?_, g1, by omega, ?_⟩
  · simp only [R.laws_markWatchS, e, obind_some]
  · simp only [R.laws_heldWatchS, hd, obind_some]

-- key MomentS go

def HMomentS (K : Nat) (k : Int) (y : (Int) × ((Int) × ((Int) × (((Int) × ((Int) × ((List UInt8) × ((List UInt8) × (List ((List UInt8) × ((Int) × (Bool)))))))) × ((Int) × ((Int) × ((Int) × ((List (List UInt8)) × (List ((List UInt8) × (Int))))))))))) (k' : Int) : Prop := ∀ (n i : Nat) (xs : List ((Int) × ((Int) × ((Int) × (((Int) × ((Int) × ((List UInt8) × ((List UInt8) × (List ((List UInt8) × ((Int) × (Bool)))))))) × ((Int) × ((Int) × ((Int) × ((List (List UInt8)) × (List ((List UInt8) × (Int)))))))))))), i < xs.length → xs.length ≤ 9223372036854775807 → xs.getD i (0, (0, (0, ((0, (0, ([], ([], [])))), (0, (0, (0, ([], [])))))))) = y → R.L_laws_heldMomentS_0 K (n + 1) (xs, k, 0, (i : Nat), ()) = R.L_laws_heldMomentS_0 K n (xs, k', 0, ((i + 1 : Nat) : Int), ())

theorem markMomentS_ok (hK : 9223372036854775807 < K) (x : List ((Int) × ((Int) × ((Int) × (((Int) × ((Int) × ((List UInt8) × ((List UInt8) × (List ((List UInt8) × ((Int) × (Bool)))))))) × ((Int) × ((Int) × ((Int) × ((List (List UInt8)) × (List ((List UInt8) × (Int)))))))))))) (hs : Sm (.sl (.pair (.int .i64) (.pair (.int .i64) (.pair (.int .i64) (.pair (.pair (.int .i64) (.pair (.int .i64) (.pair .str (.pair .str (.sl (.pair .str (.pair (.int .i64) .bool))))))) (.pair (.int .i64) (.pair (.int .i64) (.pair (.int .i64) (.pair (.sl .str) (.sl (.pair .str (.int .i64)))))))))))) x) (k : Int) (h0 : 0 ≤ k) (h1 : k + 6597080252416 ≤ 9223372036854775807) :
    ∃ k' y, R.laws_markMomentS K x k = some ((k', ()), (y, ())) ∧ k ≤ k' ∧ k' ≤ k + 6597080252416 ∧ R.laws_heldMomentS K y k = some ((k', ()), ()) := by
  have hl : x.length ≤ 1048576 := hs.1
  have ml := mark_loop (d := (0, (0, (0, ((0, (0, ([], ([], [])))), (0, (0, (0, ([], []))))))))) (L := fun n i k xs => R.L_laws_markMomentS_0 K n (k, 0, (i : Nat), xs, ())) (len := x.length) (fin := fun k ys => (Sum.inl (k, 0, ys, ()))) (c := 6291466) (B := 9223372036854775807) (H := HMomentS K) (Good := Sm (.pair (.int .i64) (.pair (.int .i64) (.pair (.int .i64) (.pair (.pair (.int .i64) (.pair (.int .i64) (.pair .str (.pair .str (.sl (.pair .str (.pair (.int .i64) .bool))))))) (.pair (.int .i64) (.pair (.int .i64) (.pair (.int .i64) (.pair (.sl .str) (.sl (.pair .str (.int .i64)))))))))))) (by omega)
    (fun n k xs hx => by simp only [R.L_laws_markMomentS_0, hx, idx_end, cond_false]) (fun n i k xs hi hx h0 h1 hs => by
      have hi' : i < xs.length := by omega
      generalize ee : xs.getD i (0, (0, (0, ((0, (0, ([], ([], [])))), (0, (0, (0, ([], [])))))))) = e at hs
      have w1 : IntKind.i64.wrap (k + 1) = k + 1 := wrap_id (by omega) (by omega)
      have w2 : IntKind.i64.wrap (k + 1 + 1) = k + 1 + 1 := wrap_id (by omega) (by omega)
      have w3 : IntKind.i64.wrap (k + 1 + 1 + 1) = k + 1 + 1 + 1 := wrap_id (by omega) (by omega)
      have w4 : IntKind.i64.wrap (k + 1 + 1 + 1 + 1) = k + 1 + 1 + 1 + 1 := wrap_id (by omega) (by omega)
      have w5 : IntKind.i64.wrap (k + 1 + 1 + 1 + 1 + 1) = k + 1 + 1 + 1 + 1 + 1 := wrap_id (by omega) (by omega)
      obtain ⟨t6, e6⟩ := markText_ok hK (k + 1 + 1 + 1 + 1 + 1) (by omega) (by omega)
      have w7 : IntKind.i64.wrap (k + 1 + 1 + 1 + 1 + 1 + 1) = k + 1 + 1 + 1 + 1 + 1 + 1 := wrap_id (by omega) (by omega)
      obtain ⟨t8, e8⟩ := markText_ok hK (k + 1 + 1 + 1 + 1 + 1 + 1) (by omega) (by omega)
      have w9 : IntKind.i64.wrap (k + 1 + 1 + 1 + 1 + 1 + 1 + 1) = k + 1 + 1 + 1 + 1 + 1 + 1 + 1 := wrap_id (by omega) (by omega)
      obtain ⟨k10, y10, m10, a10, b10, u10⟩ := markEditS_ok hK e.2.2.2.1.2.2.2.2 hs.2.2.2.1.2.2.2.2 (k + 1 + 1 + 1 + 1 + 1 + 1 + 1) (by omega) (by omega)
      have z10 := lt0 (show 0 ≤ k10 by omega)
      have w11 : IntKind.i64.wrap (k10 + 1) = k10 + 1 := wrap_id (by omega) (by omega)
      have w12 : IntKind.i64.wrap (k10 + 1 + 1) = k10 + 1 + 1 := wrap_id (by omega) (by omega)
      have w13 : IntKind.i64.wrap (k10 + 1 + 1 + 1) = k10 + 1 + 1 + 1 := wrap_id (by omega) (by omega)
      obtain ⟨k14, y14, m14, a14, b14, u14⟩ := markStringS_ok hK e.2.2.2.2.2.2.2.1 hs.2.2.2.2.2.2.2.1 (k10 + 1 + 1 + 1) (by omega) (by omega)
      have z14 := lt0 (show 0 ≤ k14 by omega)
      obtain ⟨k15, y15, m15, a15, b15, u15⟩ := markEntryS_ok hK e.2.2.2.2.2.2.2.2 hs.2.2.2.2.2.2.2.2 (k14) (by omega) (by omega)
      have z15 := lt0 (show 0 ≤ k15 by omega)
      refine ⟨k15, (k, (k + 1, (k + 1 + 1, ((k + 1 + 1 + 1, (k + 1 + 1 + 1 + 1, (t6, (t8, y10)))), (k10, (k10 + 1, (k10 + 1 + 1, (y14, y15)))))))), by omega, by omega, fun n j ys hj hy ey => ?_, ?_⟩
      · simp only [R.L_laws_heldMomentS_0, idx_lt hj, idx_nn, Bool.and_self, Int.toNat_natCast, cond_true, cond_false, ey, w1, w2, w3, w4, w5, e6, w7, e8, w9, m10, u10, z10, w11, w12, w13, m14, u14, z14, m15, u15, z15, obind_some, wrap_succ hj hy, bne_self_eq_false, beq_self_eq_true, Bool.not_true, nbeq]
      · simp only [R.L_laws_markMomentS_0, idx_lt hi', idx_nn, Bool.and_self, Int.toNat_natCast, cond_true, cond_false, ee, w1, w2, w3, w4, w5, e6, w7, e8, w9, m10, u10, z10, w11, w12, w13, m14, u14, z14, m15, u15, z15, obind_some, wrap_succ hi' (by omega : xs.length ≤ 9223372036854775807), List.length_set, List.set_set, getD_set hi', nbeq, bleC, Nat.reduceAdd, Nat.reduceLeDiff])
    x.length 0 K k x (by omega) (by omega) rfl h0 (by omega) (fun j _ hj => hs.2 _ (getD_mem _ hj))
  obtain ⟨k', ys, e, g1, g2, g3, _, g5⟩ := ml
  have e : R.L_laws_markMomentS_0 K K (k, 0, 0, x, ()) = some (Sum.inl (k', 0, ys, ())) := e
  have hd := held_loop (d := (0, (0, (0, ((0, (0, ([], ([], [])))), (0, (0, (0, ([], []))))))))) (ys := ys) (L := fun n i k => R.L_laws_heldMomentS_0 K n (ys, k, 0, (i : Nat), ())) (len := x.length) (fin := fun k => (Sum.inl (k, 0, ()))) (H := HMomentS K)
    (fun n k => by rw [← g3]; simp only [R.L_laws_heldMomentS_0, idx_end, cond_false]) (fun n i k k' hi h => h n i ys (by omega) (by omega) rfl) x.length 0 K k k' (by omega) (by omega) g5
  have hd : R.L_laws_heldMomentS_0 K K (ys, k, 0, 0, ()) = some (Sum.inl (k', 0, ())) := hd
  refine ⟨k', ys, ?_, g1, by omega, ?_⟩
  · simp only [R.laws_markMomentS, e, obind_some]
  · simp only [R.laws_heldMomentS, hd, obind_some]

-- key World go

theorem markWorld_ok (hK : 9223372036854775807 < K) (x : ((List ((List (Int)) × (List ((List UInt8) × (Int))))) × (List ((List UInt8) × ((Int) × ((Int) × (Bool)))))) × ((List ((List ((Int) × ((List UInt8) × ((List UInt8) × ((List UInt8) × (List ((List UInt8) × ((Int) × (Bool))))))))) × ((Int) × ((Int) × ((Int) × ((Int) × ((Int) × ((Int) × ((Int) × (List ((List UInt8) × (Int)))))))))))) × ((List ((List UInt8) × ((Int) × (List ((Int) × ((Int) × (Bool))))))) × ((List ((Int) × ((Int) × ((Int) × (((Int) × ((Int) × ((List UInt8) × ((List UInt8) × (List ((List UInt8) × ((Int) × (Bool)))))))) × ((Int) × ((Int) × ((Int) × ((List (List UInt8)) × (List ((List UInt8) × (Int)))))))))))) × (Int))))) (hs : Sm (.pair (.pair (.sl (.pair (.sl (.int .i64)) (.sl (.pair .str (.int .i64))))) (.sl (.pair .str (.pair (.int .i64) (.pair (.int .i64) .bool))))) (.pair (.sl (.pair (.sl (.pair (.int .i64) (.pair .str (.pair .str (.pair .str (.sl (.pair .str (.pair (.int .i64) .bool)))))))) (.pair (.int .i64) (.pair (.int .i64) (.pair (.int .i64) (.pair (.int .i64) (.pair (.int .i64) (.pair (.int .i64) (.pair (.int .i64) (.sl (.pair .str (.int .i64)))))))))))) (.pair (.sl (.pair .str (.pair (.int .i64) (.sl (.pair (.int .i64) (.pair (.int .i64) .bool)))))) (.pair (.sl (.pair (.int .i64) (.pair (.int .i64) (.pair (.int .i64) (.pair (.pair (.int .i64) (.pair (.int .i64) (.pair .str (.pair .str (.sl (.pair .str (.pair (.int .i64) .bool))))))) (.pair (.int .i64) (.pair (.int .i64) (.pair (.int .i64) (.pair (.sl .str) (.sl (.pair .str (.int .i64)))))))))))) (.int .i64))))) x) (k : Int) (h0 : 0 ≤ k) (h1 : k + 3458784305053958144 ≤ 9223372036854775807) :
    ∃ k' y, R.laws_markWorld K x k = some ((k', ()), (y, ())) ∧ k ≤ k' ∧ k' ≤ k + 3458784305053958144 ∧ R.laws_heldWorld K y k = some ((k', ()), ()) := by
  obtain ⟨k1, y1, m1, a1, b1, u1⟩ := markBase_ok hK x.1 hs.1 (k) (by omega) (by omega)
  have z1 := lt0 (show 0 ≤ k1 by omega)
  obtain ⟨k2, y2, m2, a2, b2, u2⟩ := markClientS_ok hK x.2.1 hs.2.1 (k1) (by omega) (by omega)
  have z2 := lt0 (show 0 ≤ k2 by omega)
  obtain ⟨k3, y3, m3, a3, b3, u3⟩ := markWatchS_ok hK x.2.2.1 hs.2.2.1 (k2) (by omega) (by omega)
  have z3 := lt0 (show 0 ≤ k3 by omega)
  obtain ⟨k4, y4, m4, a4, b4, u4⟩ := markMomentS_ok hK x.2.2.2.1 hs.2.2.2.1 (k3) (by omega) (by omega)
  have z4 := lt0 (show 0 ≤ k4 by omega)
  refine ⟨k4, (y1, (y2, (y3, (y4, x.2.2.2.2)))), ?_, by omega, by omega, ?_⟩
  · simp only [R.laws_markWorld, m1, u1, z1, m2, u2, z2, m3, u3, z3, m4, u4, z4, obind_some]
  · simp only [R.laws_heldWorld, m1, u1, z1, m2, u2, z2, m3, u3, z3, m4, u4, z4, obind_some, cond_false]

-- key Commit go

abbrev tEn : Ty := .pair .str (.int .i64)

abbrev tCm : Ty := .pair (.sl (.int .i64)) (.sl tEn)

abbrev tRf : Ty := .pair .str (.pair (.int .i64) (.pair (.int .i64) .bool))

abbrev tBa : Ty := .pair (.sl tCm) (.sl tRf)

/-- a loop that makes a list longer and longer -/
theorem app_ok {α τ : Type} {L : Nat → Nat → List α → Option τ} {len : Nat} {g : Nat → α} {fin : List α → τ} (h0 : ∀ n s, L (n + 1) len s = some (fin s))
    (h1 : ∀ n i s, i < len → s.length ≤ i → L (n + 1) i s = L n (i + 1) (s ++ [g i])) :
    ∀ (m i n : Nat) (s : List α), i + m = len → m < n → s.length ≤ i → L n i s = some (fin (s ++ (List.range' i m).map g))
  | 0, i, n + 1, s, hi, _, _ => by
    have : i = len := by omega
    subst this
    rw [h0]
    simp
  | m + 1, i, n + 1, s, hi, hn, hs => by
    rw [h1 n i s (by omega) hs, app_ok h0 h1 m (i + 1) n (s ++ [g i]) (by omega) (by omega) (by simp; omega), List.range'_succ, List.map_cons, List.append_assoc]
    rfl

abbrev Ed := List UInt8 × Int × Bool

/-- is the edit at 'i' well placed -/
def edOK (m : List Ed) (i : Nat) : Bool := wordM (m.getD i ([], 0, false)).1 && inV (m.getD i ([], 0, false)).2.1 && !((m.getD i ([], 0, false)).2.2 && ((m.getD i ([], 0, false)).2.1 != 0)) && (decide (i = 0) || sless (m.getD (i - 1) ([], 0, false)).1 (m.getD i ([], 0, false)).1)

def editsM (m : List Ed) : Bool := decide (m.length ≤ 6) && (List.range' 0 m.length).all (edOK m)

theorem l01Edits_eq (hK : 9223372036854775807 < K) (m : List Ed) : R.spec_l01Edits K m = some ((editsM m, ()), ()) := by
  unfold R.spec_l01Edits editsM
  by_cases h : m.length ≤ 6
  · have := all_ok (L := fun n i => R.L_spec_l01Edits_0 K n (m, false, (i : Nat), ())) (len := m.length) (p := edOK m) (t := Sum.inl (false, ())) (f := Sum.inr (false, ()))
      (fun n => by simp only [R.L_spec_l01Edits_0, idx_end, cond_false]) (fun n i hi => by
        simp only [R.L_spec_l01Edits_0, wrap_succ hi (by omega), idx_lt hi, idx_nn, Bool.and_self, Int.toNat_natCast, word_eq hK, in_eq, obind_some, cond_true, edOK, inV]
        cases i with
        | zero =>
          cases wordM (m.getD 0 ([], 0, false)).1 <;> cases decide (-1000000 ≤ (m.getD 0 ([], 0, false)).2.1) && decide ((m.getD 0 ([], 0, false)).2.1 ≤ 1000000) <;> cases (m.getD 0 ([], 0, false)).2.2 <;> cases (m.getD 0 ([], 0, false)).2.1 != 0 <;> rfl
        | succ i =>
          have g1 : (((i + 1 : Nat) : Int) > 0) := by omega
          have g2 : i < m.length := by omega
          simp only [wrap_pred hi (by omega), Int.toNat_natCast, Nat.add_sub_cancel, idx_lt g2, idx_nn, Bool.and_self, g1, decide_true, cond_true, show ¬ (i + 1 = 0) by omega, decide_false, Bool.false_or]
          rw [← sless_tri]
          cases wordM (m.getD (i + 1) ([], 0, false)).1 <;> cases decide (-1000000 ≤ (m.getD (i + 1) ([], 0, false)).2.1) && decide ((m.getD (i + 1) ([], 0, false)).2.1 ≤ 1000000) <;> cases (m.getD (i + 1) ([], 0, false)).2.2 <;> cases (m.getD (i + 1) ([], 0, false)).2.1 != 0 <;> cases sless (m.getD i ([], 0, false)).1 (m.getD (i + 1) ([], 0, false)).1 <;> rfl) m.length 0 K (by omega) (by omega)
    have this : R.L_spec_l01Edits_0 K K (m, false, 0, ()) = _ := this
    simp only [this, h, show ¬ ((m.length : Int) > 6) by omega, obind_some, decide_true, decide_false, cond_false, Bool.true_and]
    cases (List.range' 0 m.length).all (edOK m) <;> rfl
  · simp [h, show (m.length : Int) > 6 by omega]

theorem EditsOK_eq (hK : 9223372036854775807 < K) (m : List Ed) (hx : m.length ≤ 9223372036854775807) : R.impl_EditsOK K m = some ((editsM m, ()), ()) := by
  have := all_ok (L := fun n i => R.L_impl_EditsOK_0 K n (m, false, m, (m.length : Int), (i : Nat), ())) (len := m.length) (p := edOK m) (t := Sum.inl (m, false, ())) (f := Sum.inr (false, ()))
      (fun n => by simp only [R.L_impl_EditsOK_0, idx_end, cond_false]) (fun n i hi => by
        simp only [R.L_impl_EditsOK_0, wrap_succ hi hx, idx_lt hi, idx_nn, Bool.and_self, Int.toNat_natCast, NameOK_eq hK, isValue_eq, obind_some, cond_true, edOK]
        cases i with
        | zero =>
          cases wordM (m.getD 0 ([], 0, false)).1 <;> cases inV (m.getD 0 ([], 0, false)).2.1 <;> cases (m.getD 0 ([], 0, false)).2.2 <;> cases (m.getD 0 ([], 0, false)).2.1 != 0 <;> rfl
        | succ i =>
          have g1 : (((i + 1 : Nat) : Int) > 0) := by omega
          have g2 : i < m.length := by omega
          simp only [wrap_pred hi hx, Int.toNat_natCast, Nat.add_sub_cancel, idx_lt g2, idx_nn, Bool.and_self, g1, decide_true, cond_true, show ¬ (i + 1 = 0) by omega, decide_false, Bool.false_or]
          cases wordM (m.getD (i + 1) ([], 0, false)).1 <;> cases inV (m.getD (i + 1) ([], 0, false)).2.1 <;> cases (m.getD (i + 1) ([], 0, false)).2.2 <;> cases (m.getD (i + 1) ([], 0, false)).2.1 != 0 <;> cases sless (m.getD i ([], 0, false)).1 (m.getD (i + 1) ([], 0, false)).1 <;> rfl) m.length 0 K (by omega) (by omega)
  have this : R.L_impl_EditsOK_0 K K (m, false, m, (m.length : Int), 0, ()) = _ := this
  unfold R.impl_EditsOK editsM
  rw [this]
  cases (List.range' 0 m.length).all (edOK m)
  · simp [obind]
  · by_cases h : m.length ≤ 6
    · simp [obind, h, show (m.length : Int) ≤ 6 by omega]
    · simp [obind, h, show ¬ (m.length : Int) ≤ 6 by omega]

abbrev tEd : Ty := .pair .str (.pair (.int .i64) .bool)

abbrev Wi := Int × List UInt8 × List UInt8 × List UInt8 × List Ed

def wishM (w : Wi) : Bool := wordM w.2.1 && (decide (1 ≤ w.1) && decide (w.1 ≤ 6)) && editsM w.2.2.2.2 && (w.1 == 3 || decide (w.2.2.2.2.length = 0)) && (bif w.1 == 1 || w.1 == 4 then wordM w.2.2.1 else w.2.2.1 == []) && (bif w.1 == 5 then wordM w.2.2.2.1 else w.2.2.2.1 == [])

theorem kinds {k : Int} (h1 : 1 ≤ k) (h2 : k ≤ 6) : k = 1 ∨ k = 2 ∨ k = 3 ∨ k = 4 ∨ k = 5 ∨ k = 6 := by omega

theorem gt0 {n : Nat} : decide ((n : Int) > 0) = !decide (n = 0) := by
  by_cases h : n = 0
  · simp [h]
  · have : (n : Int) > 0 := by omega
    simp [h]; omega

theorem l07Wish_eq (hK : 9223372036854775807 < K) (w : Wi) : R.spec_l07Wish K w = some ((wishM w, ()), ()) := by
  unfold R.spec_l07Wish wishM
  simp only [word_eq hK, in_eq, l01Edits_eq hK, obind_some, gt0]
  obtain ⟨k, name, src, key, ed⟩ := w
  dsimp only
  cases wordM name
  · rfl
  by_cases h1 : k < 1
  · simp [show ¬ 1 ≤ k by omega]
  have h1 : 1 ≤ k := by omega
  by_cases h2 : 6 < k
  · simp [show ¬ k ≤ 6 by omega]
  have h2 : k ≤ 6 := by omega
  cases editsM ed
  · simp [h1, h2]
  simp only [h1, h2, decide_true, Bool.and_self, Bool.not_true, cond_false, Bool.true_and]
  have hs : ∀ t : List UInt8, (t == Array.toList (ByteArray.data (ByteArray.mk #[]))) = (t == []) := fun _ => rfl
  rcases kinds h1 h2 with rfl | rfl | rfl | rfl | rfl | rfl <;>
    cases decide (ed.length = 0) <;> cases wordM src <;> cases wordM key <;> cases src == [] <;> cases key == [] <;> rfl

theorem Clone_Ed_eq (xs : List Ed) (hx : xs.length ≤ 268435456) : R.slices_Clone_impl_Edit K xs = some ((xs, ()), ()) := by
  unfold R.slices_Clone_impl_Edit
  cases xs with
  | nil =>
    simp [alt]
    rfl
  | cons a r =>
    have : Nat.ble (0 + (a :: r).length) 268435456 = true := Nat.ble_eq_true_of_le (by simpa using hx)
    simp only [List.isEmpty_cons, cond_false, this, cond_true]

theorem WishOK_eq (hK : 9223372036854775807 < K) (w : Wi) (hx : w.2.2.2.2.length ≤ 268435456) : R.impl_WishOK K w = some ((wishM w, ()), ()) := by
  unfold R.impl_WishOK wishM R.impl_hasSource R.impl_Wish_op R.impl_OpOK
  obtain ⟨k, name, src, key, ed⟩ := w
  have hs : ∀ t : List UInt8, (t == Array.toList (ByteArray.data (ByteArray.mk #[]))) = (t == []) := fun _ => rfl
  have hx : ed.length ≤ 268435456 := hx
  simp only [Clone_Ed_eq ed hx, NameOK_eq hK, EditsOK_eq hK ed (by omega), within_eq, R.impl_isHead, obind_some, gt0, hs]
  by_cases h1 : 1 ≤ k
  · by_cases h2 : k ≤ 6
    · simp only [h1, h2, decide_true, Bool.and_self, Bool.true_and]
      have e0 : ed.length = 0 → editsM ed = true := fun h => by
        have : ed = [] := List.eq_nil_of_length_eq_zero h
        subst this; rfl
      by_cases he : ed.length = 0
      · rw [e0 he]
        rcases kinds h1 h2 with rfl | rfl | rfl | rfl | rfl | rfl <;>
          simp only [he, decide_true] <;> cases wordM name <;> cases wordM src <;> cases wordM key <;> cases src == [] <;> cases key == [] <;> rfl
      · rcases kinds h1 h2 with rfl | rfl | rfl | rfl | rfl | rfl <;>
          simp only [he, decide_false] <;> cases wordM name <;> cases wordM src <;> cases wordM key <;> cases src == [] <;> cases key == [] <;> cases editsM ed <;> rfl
    · have n1 : (k == 1) = false := by simp; omega
      have n2 : (k == 2) = false := by simp; omega
      have n3 : (k == 3) = false := by simp; omega
      have n4 : (k == 4) = false := by simp; omega
      have n5 : (k == 5) = false := by simp; omega
      have n6 : (k == 6) = false := by simp; omega
      simp only [h1, h2, bne, n1, n2, n3, n4, n5, n6, decide_true, decide_false, Bool.and_false, Bool.false_and, cond_false, Bool.not_false, cond_true]
      cases decide (ed.length = 0) <;> cases wordM name <;> cases src == [] <;> cases key == [] <;> rfl
  · have n1 : (k == 1) = false := by simp; omega
    have n2 : (k == 2) = false := by simp; omega
    have n3 : (k == 3) = false := by simp; omega
    have n4 : (k == 4) = false := by simp; omega
    have n5 : (k == 5) = false := by simp; omega
    have n6 : (k == 6) = false := by simp; omega
    simp only [h1, bne, n1, n2, n3, n4, n5, n6, decide_true, decide_false, Bool.and_false, Bool.false_and, cond_false, Bool.not_false, cond_true]
    cases decide (ed.length = 0) <;> cases wordM name <;> cases src == [] <;> cases key == [] <;> rfl

abbrev tWi : Ty := .pair (.int .i64) (.pair .str (.pair .str (.pair .str (.sl tEd))))

abbrev Rs := Int × Int × Int × List (List UInt8) × List En

abbrev tRs : Ty := .pair (.int .i64) (.pair (.int .i64) (.pair (.int .i64) (.pair (.sl .str) (.sl tEn))))

abbrev OpT := Int × Int × List UInt8 × List UInt8 × List Ed

abbrev Mo := Int × Int × Int × OpT × Rs

abbrev tOp : Ty := .pair (.int .i64) (.pair (.int .i64) (.pair .str (.pair .str (.sl tEd))))

abbrev tMo : Ty := .pair (.int .i64) (.pair (.int .i64) (.pair (.int .i64) (.pair tOp tRs)))

theorem Clone_int_eq (xs : List Int) (hx : xs.length ≤ 268435456) : R.slices_Clone_int K xs = some ((xs, ()), ()) := by
  unfold R.slices_Clone_int
  cases xs with
  | nil =>
    simp [alt]
    rfl
  | cons a r =>
    have : Nat.ble (0 + (a :: r).length) 268435456 = true := Nat.ble_eq_true_of_le (by simpa using hx)
    simp only [List.isEmpty_cons, cond_false, this, cond_true]

theorem Clone_En_eq (xs : List En) (hx : xs.length ≤ 268435456) : R.slices_Clone_impl_Entry K xs = some ((xs, ()), ()) := by
  unfold R.slices_Clone_impl_Entry
  cases xs with
  | nil =>
    simp [alt]
    rfl
  | cons a r =>
    have : Nat.ble (0 + (a :: r).length) 268435456 = true := Nat.ble_eq_true_of_le (by simpa using hx)
    simp only [List.isEmpty_cons, cond_false, this, cond_true]

/-- a commit of no more than so many parents and keys -/
def CmB (c : Cm) : Prop := c.1.length ≤ 1048576 ∧ c.2.length ≤ 1048576

theorem Commit_own_eq (c : Cm) (h : CmB c) : R.impl_Commit_own K c = some ((c, ()), ()) := by
  unfold R.impl_Commit_own
  have h1 : c.1.length ≤ 1048576 := h.1
  have h2 : c.2.length ≤ 1048576 := h.2
  rw [Clone_int_eq _ (by omega), Clone_En_eq _ (by omega)]
  rfl

theorem l03Own_eq (c : Cm) (h : CmB c) : R.spec_l03Own K c = some ((c, ()), ()) := by
  unfold R.spec_l03Own
  have h1 : c.1.length ≤ 1048576 := h.1
  have h2 : c.2.length ≤ 1048576 := h.2
  have e1 : Nat.ble (0 + c.1.length) 268435456 = true := Nat.ble_eq_true_of_le (by omega)
  have e2 : Nat.ble (0 + c.2.length) 268435456 = true := Nat.ble_eq_true_of_le (by omega)
  simp only [e1, e2, cond_true, dup_eq, alt_self, obind_some]

theorem map_range_getD {α : Type} (d : α) (s : List α) : (List.range' 0 s.length).map (fun i => s.getD i d) = s := by
  apply List.ext_getElem (by simp)
  intro i h1 h2
  simp [List.getD_eq_getElem?_getD, h2]

theorem ownStore_eq (hK : 9223372036854775807 < K) (s : List Cm) (hs : s.length ≤ 1048576) (h : ∀ c ∈ s, CmB c) : R.impl_ownStore K s = some ((s, ()), ()) := by
  have := app_ok (L := fun n i ys => R.L_impl_ownStore_0 K n (s, (s.length : Nat), (i : Nat), [], ys, ())) (len := s.length) (g := fun i => s.getD i ([], [])) (fin := fun ys => Sum.inl ([], ys, ()))
    (fun n ys => by simp only [R.L_impl_ownStore_0, idx_end, cond_false])
    (fun n i ys hi hy => by
      have hb : Nat.ble (ys.length + 1) 268435456 = true := Nat.ble_eq_true_of_le (by omega)
      simp only [R.L_impl_ownStore_0, idx_lt hi, idx_nn, Bool.and_self, Int.toNat_natCast, cond_true, Commit_own_eq _ (h _ (getD_mem _ hi)), obind_some, hb, wrap_succ hi (by omega)]) s.length 0 K [] (by omega) (by omega) (by simp)
  rw [map_range_getD, List.nil_append] at this
  have this : R.L_impl_ownStore_0 K K (s, (s.length : Int), 0, [], [], ()) = some (Sum.inl ([], s, ())) := this
  unfold R.impl_ownStore
  simp only [this, obind_some]

theorem l03Copy_eq (hK : 9223372036854775807 < K) (s : List Cm) (hs : s.length ≤ 1048576) (h : ∀ c ∈ s, CmB c) : R.spec_l03Copy K s = some ((s, ()), ()) := by
  have := app_ok (L := fun n i ys => R.L_spec_l03Copy_0 K n (s, (i : Nat), [], ys, ())) (len := s.length) (g := fun i => s.getD i ([], [])) (fin := fun ys => Sum.inl ([], ys, ()))
    (fun n ys => by simp only [R.L_spec_l03Copy_0, idx_end, cond_false])
    (fun n i ys hi hy => by
      have hb : Nat.ble (ys.length + 1) 268435456 = true := Nat.ble_eq_true_of_le (by omega)
      simp only [R.L_spec_l03Copy_0, idx_lt hi, idx_nn, Bool.and_self, Int.toNat_natCast, cond_true, l03Own_eq _ (h _ (getD_mem _ hi)), obind_some, hb, wrap_succ hi (by omega)]) s.length 0 K [] (by omega) (by omega) (by simp)
  rw [map_range_getD, List.nil_append] at this
  have this : R.L_spec_l03Copy_0 K K (s, 0, [], [], ()) = some (Sum.inl ([], s, ())) := this
  unfold R.spec_l03Copy
  simp only [this, obind_some]

theorem len4096 {n : Nat} : decide ((n : Int) > 4096) = !decide (n ≤ 4096) := by
  rw [Bool.eq_iff_iff]; simp; omega

theorem le4096 {n : Nat} : decide ((n : Int) ≤ 4096) = decide (n ≤ 4096) := by
  rw [Bool.eq_iff_iff]; simp; omega

abbrev RSt := Nat × Bool

/-- it never reads beyond the end; what was wrong stays wrong -/
def Good {α : Type} (t : List UInt8) (f : RSt → α × RSt) : Prop := ∀ s : RSt, s.1 ≤ t.length → (f s).2.1 ≤ t.length ∧ (s.2 = true → (f s).2.2 = true)

abbrev Cl := List Wi × Int × Int × Int × Int × Int × Int × Int × List En

abbrev Wo := Ba × List Cl × List Wa × List Mo × Int

/-- as long as lists may be -/
def WiB (w : Wi) : Prop := w.2.2.2.2.length ≤ 1048576

def WisB (ws : List Wi) : Prop := ws.length ≤ 1048576 ∧ ∀ w ∈ ws, WiB w

def BaB (b : Ba) : Prop := b.1.length ≤ 1048576 ∧ (∀ c ∈ b.1, CmB c) ∧ b.2.length ≤ 1048576 ∧ ∀ r ∈ b.2, r.1.length ≤ 1048576

def wishesM (ws : List Wi) : Bool := decide (ws.length ≤ 6) && (List.range' 0 ws.length).all fun i => wishM (ws.getD i (0, [], [], [], []))

def newClM (ws : List Wi) : Cl := (ws, 0, 0, 0, 0, 0, 0, 0, [])

def verM (xs : List Rf) (s : List UInt8) : Int := if refAt xs s ≥ 0 then (xs.getD (refAt xs s).toNat ([], 0, 0, false)).2.2.1 else 0

def newWaM (xs : List Rf) (s : List UInt8) : Wa := (s, verM xs s, [])

def worldM (b : Ba) (wi : List (List Wi)) (na : List (List UInt8)) : Wo := (b, wi.map newClM, na.map (newWaM b.2), [], 0)

def newWorldM (b : Ba) (wi : List (List Wi)) (na : List (List UInt8)) : Wo × Int :=
  if ¬ wi.length ≤ 4096 then ((([], []), [], [], [], 0), 2) else if ¬ na.length ≤ 4096 then ((([], []), [], [], [], 0), 2) else if baseM b = true then
    if wi.length > 5 then ((([], []), [], [], [], 0), 6) else if na.length > 3 then ((([], []), [], [], [], 0), 6) else
    if ((List.range' 0 wi.length).all fun i => wishesM (wi.getD i [])) = true then
      if ((List.range' 0 na.length).all fun i => wordM (na.getD i [])) = true then (worldM b wi na, 0) else ((([], []), [], [], [], 0), 10)
    else ((([], []), [], [], [], 0), 1)
  else ((([], []), [], [], [], 0), 1)

theorem areAll_WishOK_eq (hK : 9223372036854775807 < K) (xs : List Wi) (h : WisB xs) : R.impl_areAll_impl_Wish__impl_WishOK K xs = some (((List.range' 0 xs.length).all fun i => wishM (xs.getD i (0, [], [], [], [])), ()), ()) := by
  have hx := h.1
  obtain ⟨j, this⟩ := all_okI (L := fun n i => R.L_impl_areAll_impl_Wish__impl_WishOK_0 K n (xs, false, xs, xs, false, xs, xs, 0, (xs.length : Int), (i : Nat), ())) (len := xs.length) (p := fun i => wishM (xs.getD i (0, [], [], [], [])))
    (t := Sum.inl (xs, false, xs, xs, false, xs, 0, ())) (f := fun i => Sum.inr (xs, false, xs, xs, false, xs, (i : Int), ()))
    (fun n => by simp only [R.L_impl_areAll_impl_Wish__impl_WishOK_0, idx_end, cond_false]) (fun n i hi => by
      have hw : (xs.getD i (0, [], [], [], [])).2.2.2.2.length ≤ 1048576 := h.2 _ (getD_mem _ hi)
      simp only [R.L_impl_areAll_impl_Wish__impl_WishOK_0, wrap_succ hi (by omega), idx_lt hi, idx_nn, Bool.and_self, Int.toNat_natCast, cond_true, WishOK_eq hK _ (by omega : (xs.getD i (0, [], [], [], [])).2.2.2.2.length ≤ 268435456), obind_some]
      cases wishM (xs.getD i (0, [], [], [], [])) <;> rfl) xs.length 0 K (by omega) (by omega)
  have this : R.L_impl_areAll_impl_Wish__impl_WishOK_0 K K (xs, false, xs, xs, false, xs, xs, 0, (xs.length : Int), 0, ()) = _ := this
  unfold R.impl_areAll_impl_Wish__impl_WishOK
  rw [this]
  cases (List.range' 0 xs.length).all fun i => wishM (xs.getD i (0, [], [], [], [])) <;> simp [obind]

theorem l07Wishes_eq (hK : 9223372036854775807 < K) (xs : List Wi) : R.spec_l07Wishes K xs = some ((wishesM xs, ()), ()) := by
  unfold R.spec_l07Wishes wishesM
  by_cases hl : xs.length ≤ 6
  · have := all_ok (L := fun n i => R.L_spec_l07Wishes_0 K n (xs, false, (i : Nat), ())) (len := xs.length) (p := fun i => wishM (xs.getD i (0, [], [], [], [])))
      (t := Sum.inl (false, ())) (f := Sum.inr (false, ()))
      (fun n => by simp only [R.L_spec_l07Wishes_0, idx_end, cond_false]) (fun n i hi => by
        simp only [R.L_spec_l07Wishes_0, wrap_succ hi (by omega), idx_lt hi, idx_nn, Bool.and_self, Int.toNat_natCast, cond_true, l07Wish_eq hK, obind_some]
        cases wishM (xs.getD i (0, [], [], [], [])) <;> rfl) xs.length 0 K (by omega) (by omega)
    have this : R.L_spec_l07Wishes_0 K K (xs, false, 0, ()) = _ := this
    have e : decide ((xs.length : Int) > 6) = false := decide_eq_false (by omega)
    simp only [e, cond_false, this, obind_some, hl, decide_true, Bool.true_and]
    cases (List.range' 0 xs.length).all fun i => wishM (xs.getD i (0, [], [], [], [])) <;> rfl
  · have e : decide ((xs.length : Int) > 6) = true := decide_eq_true (by omega)
    simp only [e, cond_true, hl, decide_false, Bool.false_and]

theorem ownWishes_eq (hK : 9223372036854775807 < K) (s : List Wi) (h : WisB s) : R.impl_ownWishes K s = some ((s, ()), ()) := by
  have hs := h.1
  have := app_ok (L := fun n i ys => R.L_impl_ownWishes_0 K n (s, (s.length : Nat), (i : Nat), [], ys, ())) (len := s.length) (g := fun i => s.getD i (0, [], [], [], [])) (fin := fun ys => Sum.inl ([], ys, ()))
    (fun n ys => by simp only [R.L_impl_ownWishes_0, idx_end, cond_false])
    (fun n i ys hi hy => by
      have hb : Nat.ble (ys.length + 1) 268435456 = true := Nat.ble_eq_true_of_le (by omega)
      have hw : (s.getD i (0, [], [], [], [])).2.2.2.2.length ≤ 1048576 := h.2 _ (getD_mem _ hi)
      simp only [R.L_impl_ownWishes_0, idx_lt hi, idx_nn, Bool.and_self, Int.toNat_natCast, cond_true, Clone_Ed_eq _ (by omega : (s.getD i (0, [], [], [], [])).2.2.2.2.length ≤ 268435456), obind_some, hb, wrap_succ hi (by omega)]) s.length 0 K [] (by omega) (by omega) (by simp)
  rw [map_range_getD, List.nil_append] at this
  have this : R.L_impl_ownWishes_0 K K (s, (s.length : Int), 0, [], [], ()) = some (Sum.inl ([], s, ())) := this
  unfold R.impl_ownWishes
  simp only [this, obind_some]

theorem l07CopyWishes_eq (hK : 9223372036854775807 < K) (s : List Wi) (h : WisB s) : R.spec_l07CopyWishes K s = some ((s, ()), ()) := by
  have hs := h.1
  have := app_ok (L := fun n i ys => R.L_spec_l07CopyWishes_0 K n (s, (i : Nat), [], ys, ())) (len := s.length) (g := fun i => s.getD i (0, [], [], [], [])) (fin := fun ys => Sum.inl ([], ys, ()))
    (fun n ys => by simp only [R.L_spec_l07CopyWishes_0, idx_end, cond_false])
    (fun n i ys hi hy => by
      have hb : Nat.ble (ys.length + 1) 268435456 = true := Nat.ble_eq_true_of_le (by omega)
      have hw : (s.getD i (0, [], [], [], [])).2.2.2.2.length ≤ 1048576 := h.2 _ (getD_mem _ hi)
      have hb2 : Nat.ble (0 + (s.getD i (0, [], [], [], [])).2.2.2.2.length) 268435456 = true := Nat.ble_eq_true_of_le (by omega)
      simp only [R.L_spec_l07CopyWishes_0, idx_lt hi, idx_nn, Bool.and_self, Int.toNat_natCast, cond_true, obind_some, hb, hb2, wrap_succ hi (by omega)]) s.length 0 K [] (by omega) (by omega) (by simp)
  rw [map_range_getD, List.nil_append] at this
  have this : R.L_spec_l07CopyWishes_0 K K (s, 0, [], [], ()) = some (Sum.inl ([], s, ())) := this
  unfold R.spec_l07CopyWishes
  simp only [this, obind_some]

theorem NewClient_eq (hK : 9223372036854775807 < K) (ws : List Wi) (h : WisB ws) : ∃ c n, R.impl_NewClient K ws = some ((c, n, ()), ()) ∧ (n != 0) = !wishesM ws ∧ (wishesM ws = true → c = newClM ws) := by
  unfold R.impl_NewClient
  by_cases h0 : ws.length ≤ 4096
  · by_cases h6 : ws.length ≤ 6
    · have e : decide ((ws.length : Int) > 6) = false := decide_eq_false (by omega)
      have hw : wishesM ws = (List.range' 0 ws.length).all fun i => wishM (ws.getD i (0, [], [], [], [])) := by unfold wishesM; simp [h6]
      simp only [le4096, h0, decide_true, Bool.not_true, cond_false, e, areAll_WishOK_eq hK ws h, ownWishes_eq hK ws h, obind_some, ← hw]
      cases wishesM ws
      · exact ⟨_, _, rfl, rfl, fun h => by cases h⟩
      · exact ⟨_, _, rfl, rfl, fun _ => rfl⟩
    · have e : decide ((ws.length : Int) > 6) = true := decide_eq_true (by omega)
      have hw : wishesM ws = false := by unfold wishesM; simp [h6]
      simp only [le4096, h0, decide_true, Bool.not_true, cond_false, e, cond_true, hw]
      exact ⟨_, _, rfl, rfl, fun h => by cases h⟩
  · have hw : wishesM ws = false := by unfold wishesM; simp; intro h; omega
    simp only [le4096, h0, decide_false, Bool.not_false, cond_true, hw]
    exact ⟨_, _, rfl, rfl, fun h => by cases h⟩

theorem l07New_eq (hK : 9223372036854775807 < K) (ws : List Wi) (h : WisB ws) : R.spec_l07New K ws = some ((newClM ws, ()), ()) := by
  unfold R.spec_l07New
  simp only [l07CopyWishes_eq hK ws h, obind_some]
  rfl

theorem refAt_lt {xs : List Rf} {s : List UInt8} (h : refAt xs s ≥ 0) : refAt xs s < (xs.length : Int) := by
  unfold refAt at h ⊢
  cases e : (List.range' 0 xs.length).find? fun i => (xs.getD i ([], 0, 0, false)).1 == s with
  | none => rw [e] at h; simp at h
  | some j =>
    have := List.mem_of_find?_eq_some e
    simp at this
    simp only
    omega

theorem versionOf_eq (hK : 9223372036854775807 < K) (xs : List Rf) (hx : xs.length ≤ 9223372036854775807) (s : List UInt8) : R.impl_versionOf K xs s = some ((verM xs s, ()), ()) := by
  unfold R.impl_versionOf verM
  simp only [place_eq hK xs hx, obind_some]
  by_cases h : refAt xs s ≥ 0
  · have h' := refAt_lt h
    have h0 : 0 ≤ refAt xs s := h
    simp [h0, h']
  · simp [h]

theorem l06New_eq (hK : 9223372036854775807 < K) (xs : List Rf) (hx : xs.length ≤ 9223372036854775807) (s : List UInt8) : R.spec_l06New K xs s = some ((newWaM xs s, ()), ()) := by
  unfold R.spec_l06New newWaM verM
  simp only [l04At_eq hK xs hx, obind_some]
  by_cases h : refAt xs s ≥ 0
  · have h' := refAt_lt h
    have h0 : 0 ≤ refAt xs s := h
    simp [h0, h']
  · simp [h]

theorem Clone_Rf_eq (xs : List Rf) (hx : xs.length ≤ 268435456) : R.slices_Clone_impl_Ref K xs = some ((xs, ()), ()) := by
  unfold R.slices_Clone_impl_Ref
  cases xs with
  | nil =>
    simp [alt]
    rfl
  | cons a r =>
    have : Nat.ble (0 + (a :: r).length) 268435456 = true := Nat.ble_eq_true_of_le (by simpa using hx)
    simp only [List.isEmpty_cons, cond_false, this, cond_true]

theorem Base_own_eq (hK : 9223372036854775807 < K) (b : Ba) (h : BaB b) : R.impl_Base_own K b = some ((b, ()), ()) := by
  obtain ⟨h1, h2, h3, h4⟩ := h
  unfold R.impl_Base_own
  simp only [ownStore_eq hK b.1 h1 h2, Clone_Rf_eq b.2 (by omega), obind_some]

theorem l05Own_eq (hK : 9223372036854775807 < K) (b : Ba) (h : BaB b) : R.spec_l05Own K b = some ((b, ()), ()) := by
  obtain ⟨h1, h2, h3, h4⟩ := h
  have hb : Nat.ble (0 + b.2.length) 268435456 = true := Nat.ble_eq_true_of_le (by omega)
  unfold R.spec_l05Own
  simp only [l03Copy_eq hK b.1 h1 h2, hb, obind_some, cond_true, dup_eq, alt_self]

/-- a loop that makes a list longer, or ends ahead of it -/
theorem appAll_ok {α τ : Type} {L : Nat → Nat → List α → Option τ} {len : Nat} {p : Nat → Bool} {g : Nat → α} {fin : List α → τ} {f : τ} (h0 : ∀ n s, L (n + 1) len s = some (fin s))
    (h1 : ∀ n i s, i < len → s.length ≤ i → L (n + 1) i s = bif p i then L n (i + 1) (s ++ [g i]) else some f) :
    ∀ (m i n : Nat) (s : List α), i + m = len → m < n → s.length ≤ i → L n i s = some (bif (List.range' i m).all p then fin (s ++ (List.range' i m).map g) else f)
  | 0, i, n + 1, s, hi, _, _ => by
    have : i = len := by omega
    subst this
    rw [h0]
    simp
  | m + 1, i, n + 1, s, hi, hn, hs => by
    rw [h1 n i s (by omega) hs, List.range'_succ, List.map_cons, List.all_cons]
    cases hp : p i with
    | false => rfl
    | true =>
      simp only [cond_true, Bool.true_and]
      rw [appAll_ok h0 h1 m (i + 1) n (s ++ [g i]) (by omega) (by omega) (by simp; omega), List.append_assoc]
      rfl

theorem map_range_map {α β : Type} (d : α) (f : α → β) (s : List α) : (List.range' 0 s.length).map (fun i => f (s.getD i d)) = s.map f := by
  apply List.ext_getElem (by simp)
  intro i h1 h2
  have : i < s.length := by simpa using h2
  simp [List.getD_eq_getElem?_getD, this]

theorem l08New_eq (hK : 9223372036854775807 < K) (b : Ba) (wi : List (List Wi)) (na : List (List UInt8)) (hb : b.2.length ≤ 1048576) (h1 : wi.length ≤ 1048576) (hw : ∀ ws ∈ wi, WisB ws) (h2 : na.length ≤ 1048576) : R.spec_l08New K b wi na = some ((worldM b wi na, ()), ()) := by
  have e0 := app_ok (L := fun n i ys => R.L_spec_l08New_40 K n (wi, na, (i : Nat), b.1, b.2, 0, b.1, b.2, 0, [], [], [], [], [], ys, [], [], ())) (len := wi.length) (g := fun i => newClM (wi.getD i [])) (fin := fun ys => Sum.inl (na, b.1, b.2, 0, b.1, b.2, 0, [], [], [], [], [], ys, [], [], ()))
    (fun n ys => by simp only [R.L_spec_l08New_40, idx_end, cond_false])
    (fun n i ys hi hy => by
      have hb : Nat.ble (ys.length + 1) 268435456 = true := Nat.ble_eq_true_of_le (by omega)
      simp only [R.L_spec_l08New_40, idx_lt hi, idx_nn, Bool.and_self, Int.toNat_natCast, cond_true, l07New_eq hK _ (hw _ (getD_mem _ hi)), obind_some, hb, wrap_succ hi (by omega)]) wi.length 0 K [] (by omega) (by omega) (by simp)
  rw [map_range_map, List.nil_append] at e0
  have e0 : R.L_spec_l08New_40 K K (wi, na, 0, b.1, b.2, 0, b.1, b.2, 0, [], [], [], [], [], [], [], [], ()) = some (Sum.inl (na, b.1, b.2, 0, b.1, b.2, 0, [], [], [], [], [], wi.map newClM, [], [], ())) := e0
  have e1 := app_ok (L := fun n i ys => R.L_spec_l08New_41 K n (na, (i : Nat), b.1, b.2, 0, b.1, b.2, 0, [], [], [], [], [], wi.map newClM, ys, [], ())) (len := na.length) (g := fun i => newWaM b.2 (na.getD i [])) (fin := fun ys => Sum.inl (0, b.1, b.2, 0, [], [], [], [], [], wi.map newClM, ys, [], ()))
    (fun n ys => by simp only [R.L_spec_l08New_41, idx_end, cond_false])
    (fun n i ys hi hy => by
      have hb' : Nat.ble (ys.length + 1) 268435456 = true := Nat.ble_eq_true_of_le (by omega)
      simp only [R.L_spec_l08New_41, idx_lt hi, idx_nn, Bool.and_self, Int.toNat_natCast, cond_true, l06New_eq hK b.2 (by omega), obind_some, hb', wrap_succ hi (by omega)]) na.length 0 K [] (by omega) (by omega) (by simp)
  rw [map_range_map, List.nil_append] at e1
  have e1 : R.L_spec_l08New_41 K K (na, 0, b.1, b.2, 0, b.1, b.2, 0, [], [], [], [], [], wi.map newClM, [], [], ()) = some (Sum.inl (0, b.1, b.2, 0, [], [], [], [], [], wi.map newClM, na.map (newWaM b.2), [], ())) := e1
  unfold R.spec_l08New
  simp only [e0, e1, obind_some]
  rfl

def ClB (c : Cl) : Prop := WisB c.1 ∧ c.2.2.2.2.2.2.2.2.length ≤ 1048576

def WaB (w : Wa) : Prop := w.2.2.length ≤ 1048576

def MoB (m : Mo) : Prop := m.2.2.2.1.2.2.2.2.length ≤ 1048576 ∧ m.2.2.2.2.2.2.2.1.length ≤ 1048576 ∧ m.2.2.2.2.2.2.2.2.length ≤ 1048576

structure WoB (w : Wo) : Prop where
  base : BaB w.1
  cl : w.2.1.length ≤ 1048576
  cls : ∀ c ∈ w.2.1, ClB c
  wa : w.2.2.1.length ≤ 1048576
  was : ∀ c ∈ w.2.2.1, WaB c
  mo : w.2.2.2.1.length ≤ 1048576
  mos : ∀ c ∈ w.2.2.2.1, MoB c

theorem l07Own_eq (hK : 9223372036854775807 < K) (c : Cl) (h : ClB c) : R.spec_l07Own K c = some ((c, ()), ()) := by
  have h2 : c.2.2.2.2.2.2.2.2.length ≤ 1048576 := h.2
  have hb : Nat.ble (0 + c.2.2.2.2.2.2.2.2.length) 268435456 = true := Nat.ble_eq_true_of_le (by omega)
  unfold R.spec_l07Own
  simp only [l07CopyWishes_eq hK c.1 h.1, hb, obind_some, cond_true]

theorem l06Own_eq (c : Wa) (h : WaB c) : R.spec_l06Own K c = some ((c, ()), ()) := by
  have h2 : c.2.2.length ≤ 1048576 := h
  have hb : Nat.ble (0 + c.2.2.length) 268435456 = true := Nat.ble_eq_true_of_le (by omega)
  unfold R.spec_l06Own
  simp only [hb, cond_true]

theorem l07OwnMoment_eq (c : Mo) (h : MoB c) : R.spec_l07OwnMoment K c = some ((c, ()), ()) := by
  obtain ⟨h1, h2, h3⟩ := h
  have b1 : Nat.ble (0 + c.2.2.2.1.2.2.2.2.length) 268435456 = true := Nat.ble_eq_true_of_le (by omega)
  have b2 : Nat.ble (0 + c.2.2.2.2.2.2.2.1.length) 268435456 = true := Nat.ble_eq_true_of_le (by omega)
  have b3 : Nat.ble (0 + c.2.2.2.2.2.2.2.2.length) 268435456 = true := Nat.ble_eq_true_of_le (by omega)
  unfold R.spec_l07OwnMoment R.spec_l05OwnResult
  simp only [b1, b2, b3, cond_true, obind_some]

theorem l08Own_eq (hK : 9223372036854775807 < K) (w : Wo) (h : WoB w) : R.spec_l08Own K w = some ((w, ()), ()) := by
  obtain ⟨b, cs, ws, ms, st⟩ := w
  obtain ⟨hb, c1, c2, w1, w2, m1, m2⟩ := h
  simp only at hb c1 c2 w1 w2 m1 m2
  have e0 := app_ok (L := fun n i ys => R.L_spec_l08Own_0 K n ((i : Nat), b.1, b.2, cs, ws, ms, st, 0, st, [], [], [], [], [], b.1, b.2, ys, [], [], ())) (len := cs.length) (g := fun i => cs.getD i ([], 0, 0, 0, 0, 0, 0, 0, [])) (fin := fun ys => Sum.inl (b.1, b.2, cs, ws, ms, st, 0, st, [], [], [], [], [], b.1, b.2, ys, [], [], ()))
    (fun n ys => by simp only [R.L_spec_l08Own_0, idx_end, cond_false])
    (fun n i ys hi hy => by
      have hb : Nat.ble (ys.length + 1) 268435456 = true := Nat.ble_eq_true_of_le (by omega)
      simp only [R.L_spec_l08Own_0, idx_lt hi, idx_nn, Bool.and_self, Int.toNat_natCast, cond_true, l07Own_eq hK _ (c2 _ (getD_mem _ hi)), obind_some, hb, wrap_succ hi (by omega)]) cs.length 0 K [] (by omega) (by omega) (by simp)
  rw [map_range_getD, List.nil_append] at e0
  have e0 : R.L_spec_l08Own_0 K K (0, b.1, b.2, cs, ws, ms, st, 0, st, [], [], [], [], [], b.1, b.2, [], [], [], ()) = some (Sum.inl (b.1, b.2, cs, ws, ms, st, 0, st, [], [], [], [], [], b.1, b.2, cs, [], [], ())) := e0
  have e1 := app_ok (L := fun n i ys => R.L_spec_l08Own_1 K n ((i : Nat), b.1, b.2, cs, ws, ms, st, 0, st, [], [], [], [], [], b.1, b.2, cs, ys, [], ())) (len := ws.length) (g := fun i => ws.getD i ([], 0, [])) (fin := fun ys => Sum.inl (b.1, b.2, cs, ws, ms, st, 0, st, [], [], [], [], [], b.1, b.2, cs, ys, [], ()))
    (fun n ys => by simp only [R.L_spec_l08Own_1, idx_end, cond_false])
    (fun n i ys hi hy => by
      have hb : Nat.ble (ys.length + 1) 268435456 = true := Nat.ble_eq_true_of_le (by omega)
      simp only [R.L_spec_l08Own_1, idx_lt hi, idx_nn, Bool.and_self, Int.toNat_natCast, cond_true, l06Own_eq _ (w2 _ (getD_mem _ hi)), obind_some, hb, wrap_succ hi (by omega)]) ws.length 0 K [] (by omega) (by omega) (by simp)
  rw [map_range_getD, List.nil_append] at e1
  have e1 : R.L_spec_l08Own_1 K K (0, b.1, b.2, cs, ws, ms, st, 0, st, [], [], [], [], [], b.1, b.2, cs, [], [], ()) = some (Sum.inl (b.1, b.2, cs, ws, ms, st, 0, st, [], [], [], [], [], b.1, b.2, cs, ws, [], ())) := e1
  have e2 := app_ok (L := fun n i ys => R.L_spec_l08Own_2 K n ((i : Nat), b.1, b.2, cs, ws, ms, st, 0, st, [], [], [], [], [], b.1, b.2, cs, ws, ys, ())) (len := ms.length) (g := fun i => ms.getD i (0, 0, 0, (0, 0, [], [], []), 0, 0, 0, [], [])) (fin := fun ys => Sum.inl (0, st, [], [], [], [], [], b.1, b.2, cs, ws, ys, ()))
    (fun n ys => by simp only [R.L_spec_l08Own_2, idx_end, cond_false])
    (fun n i ys hi hy => by
      have hb : Nat.ble (ys.length + 1) 268435456 = true := Nat.ble_eq_true_of_le (by omega)
      simp only [R.L_spec_l08Own_2, idx_lt hi, idx_nn, Bool.and_self, Int.toNat_natCast, cond_true, l07OwnMoment_eq _ (m2 _ (getD_mem _ hi)), obind_some, hb, wrap_succ hi (by omega)]) ms.length 0 K [] (by omega) (by omega) (by simp)
  rw [map_range_getD, List.nil_append] at e2
  have e2 : R.L_spec_l08Own_2 K K (0, b.1, b.2, cs, ws, ms, st, 0, st, [], [], [], [], [], b.1, b.2, cs, ws, [], ()) = some (Sum.inl (0, st, [], [], [], [], [], b.1, b.2, cs, ws, ms, ())) := e2
  unfold R.spec_l08Own
  simp only [l05Own_eq hK b hb, obind_some, dup_eq, alt_self, e0, e1, e2]

theorem wis_sm {ws : List Wi} (h : Sm (.sl tWi) ws) : WisB ws := ⟨h.1, fun w hw => (h.2 w hw).2.2.2.2.1⟩

theorem ba_sm {b : Ba} (h : Sm tBa b) : BaB b := ⟨h.1.1, fun c hc => ⟨(h.1.2 c hc).1.1, (h.1.2 c hc).2.1⟩, h.2.1, fun r hr => (h.2.2 r hr).1⟩

abbrev tEv : Ty := .pair (.int .i64) (.pair (.int .i64) .bool)

abbrev tWa : Ty := .pair .str (.pair (.int .i64) (.sl tEv))

abbrev tCl : Ty := .pair (.sl tWi) (.pair (.int .i64) (.pair (.int .i64) (.pair (.int .i64) (.pair (.int .i64) (.pair (.int .i64) (.pair (.int .i64) (.pair (.int .i64) (.sl tEn))))))))

abbrev tWo : Ty := .pair tBa (.pair (.sl tCl) (.pair (.sl tWa) (.pair (.sl tMo) (.int .i64))))

theorem worldM_sm {b : Ba} {wi : List (List Wi)} {na : List (List UInt8)} (hb : Sm tBa b) (hw : Sm (.sl (.sl tWi)) wi) (hn : Sm (.sl .str) na) : Sm tWo (worldM b wi na) := by
  refine ⟨hb, ⟨by simpa [worldM] using hw.1, fun c hc => ?_⟩, ⟨by simpa [worldM] using hn.1, fun c hc => ?_⟩, ⟨by simp [worldM], by simp [worldM]⟩, trivial⟩
  · simp only [worldM, List.mem_map] at hc
    obtain ⟨ws, h, rfl⟩ := hc
    exact ⟨hw.2 ws h, trivial, trivial, trivial, trivial, trivial, trivial, trivial, by simp [newClM], by simp [newClM]⟩
  · simp only [worldM, List.mem_map] at hc
    obtain ⟨s, h, rfl⟩ := hc
    exact ⟨hn.2 s h, trivial, by simp [newWaM], by simp [newWaM]⟩

theorem wo_sm {w : Wo} (h : Sm tWo w) : WoB w := ⟨ba_sm h.1, h.2.1.1, fun c hc => ⟨wis_sm (h.2.1.2 c hc).1, (h.2.1.2 c hc).2.2.2.2.2.2.2.2.1⟩, h.2.2.1.1, fun c hc => (h.2.2.1.2 c hc).2.2.1, h.2.2.2.1.1, fun m hm => ⟨(h.2.2.2.1.2 m hm).2.2.2.1.2.2.2.2.1, (h.2.2.2.1.2 m hm).2.2.2.2.2.2.2.1.1, (h.2.2.2.1.2 m hm).2.2.2.2.2.2.2.2.1⟩⟩

theorem spec_NewWorld_eq (hK : 9223372036854775807 < K) (b : Ba) (wi : List (List Wi)) (na : List (List UInt8)) (hb : Sm tBa b) (hw : Sm (.sl (.sl tWi)) wi) (hn : Sm (.sl .str) na) :
    R.spec_NewWorld K b wi na = some (((newWorldM b wi na).1, (newWorldM b wi na).2, ()), ()) := by
  have b2 : b.2.length ≤ 1048576 := hb.2.1
  have w1 : wi.length ≤ 1048576 := hw.1
  have n1 : na.length ≤ 1048576 := hn.1
  have e0 := all_ok (L := fun n i => R.L_spec_NewWorld_0 K n (wi, na, 0, (i : Nat), b.1, b.2, 0, [], [], [], [], [], ())) (len := wi.length) (p := fun i => wishesM (wi.getD i [])) (t := Sum.inl (wi, na, 0, b.1, b.2, 0, [], [], [], [], [], ())) (f := Sum.inr (1, 0, [], [], [], [], [], ()))
    (fun n => by simp only [R.L_spec_NewWorld_0, idx_end, cond_false]) (fun n i hi => by
      simp only [R.L_spec_NewWorld_0, idx_lt hi, idx_nn, Bool.and_self, Int.toNat_natCast, cond_true, l07Wishes_eq hK, obind_some, wrap_succ hi (by omega)]
      cases wishesM (wi.getD i []) <;> rfl) wi.length 0 K (by omega) (by omega)
  have e0 : R.L_spec_NewWorld_0 K K (wi, na, 0, 0, b.1, b.2, 0, [], [], [], [], [], ()) = _ := e0
  have e1 := all_ok (L := fun n i => R.L_spec_NewWorld_1 K n (wi, na, 0, (i : Nat), b.1, b.2, 0, [], [], [], [], [], ())) (len := na.length) (p := fun i => wordM (na.getD i [])) (t := Sum.inl (wi, na, 0, b.1, b.2, 0, [], [], [], [], [], ())) (f := Sum.inr (10, 0, [], [], [], [], [], ()))
    (fun n => by simp only [R.L_spec_NewWorld_1, idx_end, cond_false]) (fun n i hi => by
      simp only [R.L_spec_NewWorld_1, idx_lt hi, idx_nn, Bool.and_self, Int.toNat_natCast, cond_true, word_eq hK, obind_some, wrap_succ hi (by omega)]
      cases wordM (na.getD i []) <;> rfl) na.length 0 K (by omega) (by omega)
  have e1 : R.L_spec_NewWorld_1 K K (wi, na, 0, 0, b.1, b.2, 0, [], [], [], [], [], ()) = _ := e1
  have e2 := l08New_eq hK b wi na b2 w1 (fun ws h => wis_sm (hw.2 ws h)) n1
  have e3 := l08Own_eq hK _ (wo_sm (worldM_sm hb hw hn))
  unfold R.spec_NewWorld newWorldM
  simp only [len4096, l05OK_eq hK b (by omega), obind_some]
  by_cases h1 : wi.length ≤ 4096
  · by_cases h2 : na.length ≤ 4096
    · simp only [h1, h2, decide_true, Bool.not_true, cond_false, not_true_eq_false, if_false]
      cases baseM b
      · rfl
      · by_cases h5 : wi.length > 5
        · have : decide ((wi.length : Int) > 5) = true := decide_eq_true (by omega)
          simp only [this, h5, Bool.not_true, cond_false, cond_true, if_true]
        · have t5 : decide ((wi.length : Int) > 5) = false := decide_eq_false (by omega)
          by_cases h3 : na.length > 3
          · have : decide ((na.length : Int) > 3) = true := decide_eq_true (by omega)
            simp only [this, t5, h3, h5, Bool.not_true, cond_false, cond_true, if_true, if_false]
          · have t3 : decide ((na.length : Int) > 3) = false := decide_eq_false (by omega)
            simp only [t3, t5, h3, h5, Bool.not_true, cond_false, cond_true, if_true, if_false, e0, obind_some]
            cases (List.range' 0 wi.length).all fun i => wishesM (wi.getD i [])
            · rfl
            · simp only [cond_true, e1, obind_some]
              cases (List.range' 0 na.length).all fun i => wordM (na.getD i [])
              · rfl
              · simp only [cond_true, obind_some]
                have e2 : R.spec_l08New K (b.1, b.2) wi na = _ := e2
                simp only [e2, obind_some, e3, if_true]
    · simp only [h1, h2, decide_true, decide_false, Bool.not_true, Bool.not_false, cond_true, cond_false, not_true_eq_false, not_false_eq_true, if_false, if_true]
  · simp only [h1, decide_false, Bool.not_false, cond_true, not_false_eq_true, if_true]

theorem impl_NewWorld_eq (hK : 9223372036854775807 < K) (b : Ba) (wi : List (List Wi)) (na : List (List UInt8)) (hb : Sm tBa b) (hw : Sm (.sl (.sl tWi)) wi) (hn : Sm (.sl .str) na) :
    R.impl_NewWorld K b wi na = some (((newWorldM b wi na).1, (newWorldM b wi na).2, ()), ()) := by
  have b2 : b.2.length ≤ 1048576 := hb.2.1
  have w1 : wi.length ≤ 1048576 := hw.1
  have n1 : na.length ≤ 1048576 := hn.1
  have e0 := appAll_ok (L := fun n i ys => R.L_impl_NewWorld_0 K n (na, 0, wi, (wi.length : Int), (i : Nat), b.1, b.2, 0, 0, [], [], [], [], [], b.1, b.2, ys, [], [], ())) (len := wi.length) (p := fun i => wishesM (wi.getD i [])) (g := fun i => newClM (wi.getD i [])) (fin := fun ys => Sum.inl (na, 0, b.1, b.2, 0, 0, [], [], [], [], [], b.1, b.2, ys, [], [], ())) (f := Sum.inr (1, 0, [], [], [], [], [], ()))
    (fun n ys => by simp only [R.L_impl_NewWorld_0, idx_end, cond_false]) (fun n i ys hi hy => by
      have hb' : Nat.ble (ys.length + 1) 268435456 = true := Nat.ble_eq_true_of_le (by omega)
      obtain ⟨c, m, q1, q2, q3⟩ := NewClient_eq hK (wi.getD i []) (wis_sm (hw.2 _ (getD_mem _ hi)))
      simp only [R.L_impl_NewWorld_0, idx_lt hi, idx_nn, Bool.and_self, Int.toNat_natCast, cond_true, q1, q2, obind_some, wrap_succ hi (by omega), hb']
      cases hc : wishesM (wi.getD i [])
      · rfl
      · simp only [q3 hc]; rfl) wi.length 0 K [] (by omega) (by omega) (by simp)
  rw [map_range_map, List.nil_append] at e0
  have e0 : R.L_impl_NewWorld_0 K K (na, 0, wi, (wi.length : Int), 0, b.1, b.2, 0, 0, [], [], [], [], [], b.1, b.2, [], [], [], ()) = _ := e0
  have e1 := appAll_ok (L := fun n i ys => R.L_impl_NewWorld_1 K n (0, na, (na.length : Int), (i : Nat), b.1, b.2, 0, 0, [], [], [], [], [], b.1, b.2, wi.map newClM, ys, [], ())) (len := na.length) (p := fun i => wordM (na.getD i [])) (g := fun i => newWaM b.2 (na.getD i [])) (fin := fun ys => Sum.inl (0, 0, 0, [], [], [], [], [], b.1, b.2, wi.map newClM, ys, [], ())) (f := Sum.inr (10, 0, [], [], [], [], [], ()))
    (fun n ys => by simp only [R.L_impl_NewWorld_1, idx_end, cond_false]) (fun n i ys hi hy => by
      have hb' : Nat.ble (ys.length + 1) 268435456 = true := Nat.ble_eq_true_of_le (by omega)
      simp only [R.L_impl_NewWorld_1, idx_lt hi, idx_nn, Bool.and_self, Int.toNat_natCast, cond_true, NameOK_eq hK, versionOf_eq hK b.2 (by omega), obind_some, wrap_succ hi (by omega), hb']
      cases wordM (na.getD i []) <;> rfl) na.length 0 K [] (by omega) (by omega) (by simp)
  rw [map_range_map, List.nil_append] at e1
  have e1 : R.L_impl_NewWorld_1 K K (0, na, (na.length : Int), 0, b.1, b.2, 0, 0, [], [], [], [], [], b.1, b.2, wi.map newClM, [], [], ()) = _ := e1
  have eb := BaseOK_eq hK b (by omega) (fun c hc => by have : c.2.length ≤ 1048576 := (hb.1.2 c hc).2.1; omega) (fun r hr => by have : r.1.length ≤ 1048576 := (hb.2.2 r hr).1; omega)
  unfold R.impl_NewWorld newWorldM
  simp only [le4096, eb, Base_own_eq hK b (ba_sm hb), obind_some]
  by_cases h1 : wi.length ≤ 4096
  · by_cases h2 : na.length ≤ 4096
    · simp only [h1, h2, decide_true, Bool.not_true, cond_false, not_true_eq_false, if_false]
      cases baseM b
      · rfl
      · by_cases h5 : wi.length > 5
        · have : decide ((wi.length : Int) > 5) = true := decide_eq_true (by omega)
          simp only [this, h5, Bool.not_true, cond_false, cond_true, if_true]
        · have t5 : decide ((wi.length : Int) > 5) = false := decide_eq_false (by omega)
          by_cases h3 : na.length > 3
          · have : decide ((na.length : Int) > 3) = true := decide_eq_true (by omega)
            simp only [this, t5, h3, h5, Bool.not_true, cond_false, cond_true, if_true, if_false]
          · have t3 : decide ((na.length : Int) > 3) = false := decide_eq_false (by omega)
            simp only [t3, t5, h3, h5, Bool.not_true, cond_false, cond_true, if_true, if_false, e0, obind_some]
            cases (List.range' 0 wi.length).all fun i => wishesM (wi.getD i [])
            · rfl
            · simp only [cond_true, e1, obind_some]
              cases (List.range' 0 na.length).all fun i => wordM (na.getD i []) <;> rfl
    · simp only [h1, h2, decide_true, decide_false, Bool.not_true, Bool.not_false, cond_true, cond_false, not_true_eq_false, not_false_eq_true, if_false, if_true]
  · simp only [h1, decide_false, Bool.not_false, cond_true, not_false_eq_true, if_true]

theorem newWorldM_sm {b : Ba} {wi : List (List Wi)} {na : List (List UInt8)} (hb : Sm tBa b) (hw : Sm (.sl (.sl tWi)) wi) (hn : Sm (.sl .str) na) : Sm tWo (newWorldM b wi na).1 := by
  have hz : Sm tWo ((([], []), [], [], [], 0) : Wo) := ⟨⟨⟨by simp, by simp⟩, by simp, by simp⟩, ⟨by simp, by simp⟩, ⟨by simp, by simp⟩, ⟨by simp, by simp⟩, trivial⟩
  unfold newWorldM
  repeat' split
  all_goals first | exact hz | exact worldM_sm hb hw hn

theorem law_NewWorld (hK : 9223372036854775807 < K) (b : Ba) (wi : List (List Wi)) (na : List (List UInt8)) (g1 : Wd tBa b) (g2 : Wd (.sl (.sl tWi)) wi) (g3 : Wd (.sl .str) na) : R.laws_FnExactNewWorld K b wi na = some ((true, ()), ()) := by
  unfold R.laws_FnExactNewWorld
  obtain ⟨z1, e1, l1, s1⟩ := szBase_ok hK b 1048576 (by omega) (by omega) g1
  simp only [e1, obind_some]
  by_cases hz1 : z1 < 0
  · simp only [hz1, decide_true, cond_true]
  have s1 := s1 (by omega)
  obtain ⟨z2, e2, l2, s2⟩ := szWishSS_ok hK wi z1 (by omega) (by omega) g2
  simp only [hz1, decide_false, cond_false, e2, obind_some]
  by_cases hz2 : z2 < 0
  · simp only [hz2, decide_true, cond_true]
  have s2 := s2 (by omega)
  obtain ⟨z3, e3, l3, s3⟩ := szStringS_ok hK na z2 (by omega) (by omega) g3
  simp only [hz2, decide_false, cond_false, e3, obind_some]
  by_cases hz3 : z3 < 0
  · simp only [hz3, decide_true, cond_true]
  have s3 := s3 (by omega)
  have u1 := spec_NewWorld_eq hK b wi na s1 s2 s3
  have u2 := impl_NewWorld_eq hK b wi na s1 s2 s3
  have sr := newWorldM_sm s1 s2 s3
  obtain ⟨k1, y1, m1, a1, b1⟩ := markBase_go hK b s1 1 (by omega) (by omega)
  obtain ⟨k2, y2, m2, a2, b2⟩ := markWishSS_go hK wi s2 k1 (by omega) (by omega)
  obtain ⟨k3, y3, m3, a3, b3⟩ := markStringS_go hK na s3 k2 (by omega) (by omega)
  obtain ⟨k4, y4, m4, a4, b4, u4⟩ := markWorld_ok hK (newWorldM b wi na).1 sr 1 (by omega) (by omega)
  have n3 := lt0 (show 0 ≤ k3 by omega)
  have n4 := lt0 (show 0 ≤ k4 by omega)
  have hh : ∀ s : Int, R.laws_heldWorld K (y4.1, y4.2.1, y4.2.2.1, y4.2.2.2.1, s) 1 = R.laws_heldWorld K y4 1 := fun s => by unfold R.laws_heldWorld; rfl
  simp only [hh, hz3, decide_false, cond_false, toBase_id hK b s1, toWishSS_id hK wi s2, toStringS_id hK na s3, eqBase_id hK b s1, eqWishSS_id hK wi s2, eqStringS_id hK na s3, eqWorld_id hK _ sr, u1, u2, m1, m2, m3, m4, u4, n3, n4, obind_some, beq_self_eq_true, Bool.not_true, bne_self_eq_false]
end Go.Proofs.Pure
