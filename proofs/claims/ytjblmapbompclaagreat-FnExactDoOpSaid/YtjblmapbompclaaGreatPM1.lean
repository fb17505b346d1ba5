/- Plain lemmas on what the functions come to. -/
import Derived.Test.YtjblmapbompclaaGreatFwA
import Derived.Test.YtjblmapbompclaaGreatAR
namespace Go.Proofs.Pure
open Go Fw
set_option linter.all false
set_option maxRecDepth 100000
variable {K : Nat}
theorem obind_some {α β : Type} (a : α) (f : α → Option β) : obind (some a) f = f a := rfl
theorem alt_self {α : Type} (a : Option α) : Fw.alt a a = a := if_pos rfl
theorem dup_eq {α : Type} (a : Option α) : Fw.dup a = a := alt_self a
theorem wrap_id {n : Int} (h1 : -9223372036854775808 ≤ n) (h2 : n ≤ 9223372036854775807) : IntKind.i64.wrap n = n := by
  show (if (true && decide (n % 18446744073709551616 ≥ 9223372036854775808)) = true then n % 18446744073709551616 - 18446744073709551616 else n % 18446744073709551616) = n
  rw [Bool.true_and]
  by_cases h : n % 18446744073709551616 ≥ 9223372036854775808
  · rw [if_pos (by simpa using h)]; omega
  · rw [if_neg (by simpa using h)]; omega
theorem wrap_succ {i n : Nat} (h : i < n) (hn : n ≤ 9223372036854775807) : IntKind.i64.wrap ((i : Int) + 1) = ((i + 1 : Nat) : Int) := by
  rw [wrap_id (by omega) (by omega)]
  omega
theorem all_ok {τ : Type} {L : Nat → Nat → Option τ} {len : Nat} {p : Nat → Bool} {t f : τ} (h0 : ∀ n, L (n + 1) len = some t)
    (h1 : ∀ n i, i < len → L (n + 1) i = bif p i then L n (i + 1) else some f) :
    ∀ (m i n : Nat), i + m = len → m < n → L n i = some (bif (List.range' i m).all p then t else f)
  | 0, i, n + 1, hi, _ => by
    have : i = len := by omega
    subst this
    exact h0 n
  | m + 1, i, n + 1, hi, hn => by
    rw [h1 n i (by omega), List.range'_succ, List.all_cons]
    cases p i
    · rfl
    · simpa using all_ok h0 h1 m (i + 1) n (by omega) (by omega)
theorem all_okI {τ : Type} {L : Nat → Nat → Option τ} {len : Nat} {p : Nat → Bool} {t : τ} {f : Nat → τ} (h0 : ∀ n, L (n + 1) len = some t)
    (h1 : ∀ n i, i < len → L (n + 1) i = bif p i then L n (i + 1) else some (f i)) :
    ∀ (m i n : Nat), i + m = len → m < n → ∃ j, L n i = some (bif (List.range' i m).all p then t else f j)
  | 0, i, n + 1, hi, _ => by
    have : i = len := by omega
    subst this
    exact ⟨0, h0 n⟩
  | m + 1, i, n + 1, hi, hn => by
    rw [h1 n i (by omega), List.range'_succ, List.all_cons]
    cases e : p i
    · exact ⟨i, rfl⟩
    · simpa using all_okI h0 h1 m (i + 1) n (by omega) (by omega)
theorem fill_ok {α τ : Type} {L : Nat → Nat → List α → Option τ} {len : Nat} {g : Nat → α} {fin : List α → τ} {ys0 : List α} (h0 : ∀ n ys, ys.length = len → L (n + 1) len ys = some (fin ys))
    (h1 : ∀ n i ys, ys.length = len → i < len → ys[i]? = ys0[i]? → L (n + 1) i ys = L n (i + 1) (ys.set i (g i))) :
    ∀ (m i n : Nat) (ys : List α), i + m = len → m < n → ys.length = len → (∀ j, j < i → ys[j]? = some (g j)) → (∀ j, i ≤ j → ys[j]? = ys0[j]?) → L n i ys = some (fin ((List.range len).map g))
  | 0, i, n + 1, ys, hi, _, hl, hb, _ => by
    have : i = len := by omega
    subst this
    rw [h0 n ys hl]
    congr 2
    apply List.ext_getElem? 
    intro j
    by_cases hj : j < i
    · rw [hb j hj]; simp [hj]
    · simp [hl, Nat.le_of_not_lt hj]
  | m + 1, i, n + 1, ys, hi, hn, hl, hb, ha => by
    rw [h1 n i ys hl (by omega) (ha i (Nat.le_refl _))]
    refine fill_ok h0 h1 m (i + 1) n _ (by omega) (by omega) (by simpa using hl) (fun j hj => ?_) (fun j hj => ?_)
    · by_cases e : j = i
      · subst e; simp [hl, show j < len by omega]
      · rw [List.getElem?_set_ne (by omega)]; exact hb j (by omega)
    · rw [List.getElem?_set_ne (by omega)]; exact ha j (by omega)
theorem find_ok {τ : Type} {L : Nat → Nat → Option τ} {len : Nat} {p : Nat → Bool} {t : τ} {f : Nat → τ} (h0 : ∀ n, L (n + 1) len = some t)
    (h1 : ∀ n i, i < len → L (n + 1) i = bif p i then some (f i) else L n (i + 1)) :
    ∀ (m i n : Nat), i + m = len → m < n → L n i = some (match (List.range' i m).find? p with | some j => f j | none => t)
  | 0, i, n + 1, hi, _ => by
    have : i = len := by omega
    subst this
    exact h0 n
  | m + 1, i, n + 1, hi, hn => by
    rw [h1 n i (by omega), List.range'_succ, List.find?_cons]
    cases p i
    · simpa using find_ok h0 h1 m (i + 1) n (by omega) (by omega)
    · rfl
theorem pair_eta {α β : Type} (p : α × β) : (p.1, p.2) = p := rfl
def Wd : (t : Ty) → t.den → Prop
  | .int k, n => k.min ≤ n ∧ n ≤ k.max
  | .str, l => l.length ≤ Go.maxLen
  | .sl t, xs => xs.length ≤ Go.maxLen ∧ ∀ x ∈ xs, Wd t x
  | .pair a b, x => Wd a x.1 ∧ Wd b x.2
  | _, _ => True
def Sm : (t : Ty) → t.den → Prop
  | .str, l => l.length ≤ 1048576
  | .sl t, xs => xs.length ≤ 1048576 ∧ ∀ x ∈ xs, Sm t x
  | .pair a b, x => Sm a x.1 ∧ Sm b x.2
  | _, _ => True
theorem getD_mem {α : Type} {xs : List α} {i : Nat} (d : α) (h : i < xs.length) : xs.getD i d ∈ xs := by
  rw [List.getD_eq_getElem?_getD, List.getElem?_eq_getElem h]
  exact List.getElem_mem h
theorem idx_lt {i n : Nat} (h : i < n) : decide ((i : Int) < (n : Int)) = true := by
  have : (i : Int) < n := by omega
  simp [this]
theorem idx_end {n : Nat} : decide ((n : Int) < (n : Int)) = false := by simp
theorem sz_loop {L : Nat → Nat → Int → Option ((Int × (Int × Unit)) ⊕ (Int × Unit))} {len : Nat} {S : Nat → Prop} (h0 : ∀ n p, L (n + 1) len p = some (.inl (p, 0, ())))
    (h1 : ∀ n i p, i < len → 0 ≤ p → p ≤ 1048576 → ∃ z, z ≤ p ∧ (0 ≤ z → S i) ∧ L (n + 1) i p = bif decide (z < 0) then some (.inr (-1, ())) else L n (i + 1) z) :
    ∀ (m i n : Nat) (p : Int), i + m = len → m < n → 0 ≤ p → p ≤ 1048576 →
      (∃ z, L n i p = some (.inl (z, 0, ())) ∧ 0 ≤ z ∧ z ≤ p ∧ ∀ j, i ≤ j → j < len → S j) ∨ L n i p = some (.inr (-1, ()))
  | 0, i, n + 1, p, hi, _, hp, _ => by
    have : i = len := by omega
    subst this
    exact .inl ⟨p, h0 n p, hp, by omega, fun j h1 h2 => by omega⟩
  | m + 1, i, n + 1, p, hi, hn, hp, hp' => by
    obtain ⟨z, hz, hs, e⟩ := h1 n i p (by omega) hp hp'
    rw [e]
    by_cases h : z < 0
    · exact .inr (by simp [h])
    · simp only [h, decide_false, cond_false]
      rcases sz_loop h0 h1 m (i + 1) n z (by omega) (by omega) (by omega) (by omega) with ⟨y, e', g1, g2, g3⟩ | e'
      · refine .inl ⟨y, e', g1, by omega, fun j h1 h2 => ?_⟩
        by_cases hj : j = i
        · subst hj; exact hs (by omega)
        · exact g3 j (by omega) h2
      · exact .inr e'
theorem idx_nn {i : Nat} : decide ((0 : Int) ≤ (i : Int)) = true := by simp
theorem all_true {α : Type} (l : List α) : (l.all fun _ => true) = true := by induction l <;> simp_all
def isL (c : Int) : Bool := (decide (c ≥ 97) && decide (c ≤ 122)) || (decide (c ≥ 65) && decide (c ≤ 90)) || c == 95
def isD (c : Int) : Bool := decide (c ≥ 48) && decide (c ≤ 57)
theorem letter_eq (c : Int) : R.qaV K c = some ((isL c, ()), ()) := by
  unfold R.qaV isL
  by_cases h1 : c ≥ 97 <;> by_cases h2 : c ≤ 122 <;> by_cases h3 : c ≥ 65 <;> by_cases h4 : c ≤ 90 <;> simp [h1, h2, h3, h4]
theorem isLetter_eq (c : Int) : R.qbi K c = some ((isL c, ()), ()) := letter_eq (K := K) c
theorem digit_eq (c : Int) : R.qbk K c = some ((isD c, ()), ()) := by
  unfold R.qbk isD
  by_cases h1 : c ≥ 48 <;> simp [h1]
theorem isDigit_eq (c : Int) : R.qbX K c = some ((isD c, ()), ()) := digit_eq (K := K) c
def isW (c : Int) : Bool := isL c || isD c
theorem NameOK_1_eq (c : Int) : R.qbl K c = some ((isW c, ()), ()) := by
  unfold R.qbl isW
  rw [isLetter_eq, isDigit_eq]
  cases isL c <;> rfl
theorem getD_bytesIn (l : List UInt8) (i : Nat) : (bytesIn l).getD i 0 = ((l.getD i 0).toNat : Int) := by
  unfold bytesIn
  simp only [List.getD_eq_getElem?_getD, List.getElem?_map]
  cases l[i]? <;> rfl
def wordM (l : List UInt8) : Bool := decide (1 ≤ l.length) && decide (l.length ≤ 12) && isL ((l.getD 0 0).toNat : Int) && (List.range' 1 (l.length - 1)).all fun i => isW ((l.getD i 0).toNat : Int)
theorem word_eq (hK : 9223372036854775807 < K) (l : List UInt8) : R.qcc K l = some ((wordM l, ()), ()) := by
  unfold R.qcc wordM
  by_cases h1 : l.length < 1
  · simp [show (l.length : Int) < 1 by omega, show ¬ 1 ≤ l.length by omega]
  · by_cases h2 : l.length > 12
    · simp [show ¬ (l.length : Int) < 1 by omega, show (l.length : Int) > 12 by omega, show ¬ l.length ≤ 12 by omega]
    · have := all_ok (L := fun n i => R.L_qcc_0 K n (l, false, (i : Nat), ())) (len := l.length) (p := fun i => isW ((l.getD i 0).toNat : Int)) (t := Sum.inl (false, ())) (f := Sum.inr (false, ()))
        (fun n => by simp [R.L_qcc_0]) (fun n i hi => by
          simp only [R.L_qcc_0, wrap_succ hi (by omega), letter_eq, digit_eq, obind, isW, Int.toNat_natCast]
          cases isL ((l.getD i 0).toNat : Int) <;> cases isD ((l.getD i 0).toNat : Int) <;> simp [hi]) (l.length - 1) 1 K (by omega) (by omega)
      have this : R.L_qcc_0 K K (l, false, 1, ()) = _ := this
      simp only [show ¬ (l.length : Int) < 1 by omega, show ¬ (l.length : Int) > 12 by omega, show 1 ≤ l.length by omega, show l.length ≤ 12 by omega, show (0 : Int) < l.length by omega, letter_eq, this, obind, decide_true, decide_false, cond_false, cond_true, Int.le_refl, Bool.and_self, Bool.true_and, Int.toNat_zero]
      cases isL ((l.getD 0 0).toNat : Int)
      · rfl
      · cases (List.range' 1 (l.length - 1)).all fun i => isW ((l.getD i 0).toNat : Int) <;> rfl
theorem areAll_byte_eq (hK : 9223372036854775807 < K) (l : List UInt8) (hl : l.length ≤ 9223372036854775807) : R.qag K (bytesIn l) = some (((List.range' 0 l.length).all fun i => isW ((l.getD i 0).toNat : Int), ()), ()) := by
  have hb : (bytesIn l).length = l.length := by simp [bytesIn]
  obtain ⟨j, this⟩ := all_okI (L := fun n i => R.L_qag_0 K n (bytesIn l, false, bytesIn l, bytesIn l, false, bytesIn l, bytesIn l, 0, ((bytesIn l).length : Int), (i : Nat), ())) (len := l.length) (p := fun i => isW ((l.getD i 0).toNat : Int))
    (t := Sum.inl (bytesIn l, false, bytesIn l, bytesIn l, false, bytesIn l, 0, ())) (f := fun i => Sum.inr (bytesIn l, false, bytesIn l, bytesIn l, false, bytesIn l, (i : Int), ()))
    (fun n => by simp [R.L_qag_0, hb]) (fun n i hi => by
      simp only [R.L_qag_0, wrap_succ hi hl, NameOK_1_eq, obind, Int.toNat_natCast, getD_bytesIn]
      cases isW ((l.getD i 0).toNat : Int) <;> simp [hi, hb]) l.length 0 K (by omega) (by omega)
  have this : R.L_qag_0 K K (bytesIn l, false, bytesIn l, bytesIn l, false, bytesIn l, bytesIn l, 0, ((bytesIn l).length : Int), 0, ()) = _ := this
  unfold R.qag
  rw [this]
  cases (List.range' 0 l.length).all fun i => isW ((l.getD i 0).toNat : Int) <;> simp [obind]
theorem NameOK_eq (hK : 9223372036854775807 < K) (l : List UInt8) : R.qcz K l = some ((wordM l, ()), ()) := by
  unfold R.qcz wordM
  by_cases h1 : 1 ≤ l.length
  · by_cases h2 : l.length ≤ 12
    · have e : (List.range' 0 l.length).all (fun i => isW ((l.getD i 0).toNat : Int)) = (isW ((l.getD 0 0).toNat : Int) && (List.range' 1 (l.length - 1)).all fun i => isW ((l.getD i 0).toNat : Int)) := by
        rw [show l.length = (l.length - 1) + 1 by omega, List.range'_succ, List.all_cons]; rfl
      simp only [R.qcH, show (1 : Int) ≤ l.length by omega, show (l.length : Int) ≤ 12 by omega, show (0 : Int) < l.length by omega, h1, h2, isLetter_eq, areAll_byte_eq hK l (by omega), e, obind, decide_true, cond_true, Int.le_refl, Bool.and_self, Bool.true_and, Int.toNat_zero]
      unfold isW
      cases isL ((l.getD 0 0).toNat : Int) <;> simp
    · simp [R.qcH, show (1 : Int) ≤ l.length by omega, show ¬ (l.length : Int) ≤ 12 by omega, h2, obind]
  · simp [R.qcH, show ¬ (1 : Int) ≤ l.length by omega, h1, obind]
theorem in_eq (a b c : Int) : R.qcM K a b c = some ((decide (b ≤ a) && decide (a ≤ c), ()), ()) := by
  unfold R.qcM
  by_cases h : b ≤ a <;> simp [h]
theorem within_eq (a b c : Int) : R.qcH K a b c = some ((decide (b ≤ a) && decide (a ≤ c), ()), ()) := by
  unfold R.qcH
  by_cases h : b ≤ a <;> simp [h]
theorem wrap_pred {i n : Nat} (h : i + 1 < n) (hn : n ≤ 9223372036854775807) : IntKind.i64.wrap (((i + 1 : Nat) : Int) - 1) = (i : Int) := by
  rw [wrap_id (by omega) (by omega)]; omega
abbrev Rf := List UInt8 × Int × Int × Bool
def refGood (r : Rf) : Bool := wordM r.1 && (decide (1 ≤ r.2.2.1) && decide (r.2.2.1 ≤ 1000000)) && (bif r.2.2.2 then r.2.1 == 0 else decide (1 ≤ r.2.1) && decide (r.2.1 ≤ 60))
def refAt (xs : List Rf) (name : List UInt8) : Int := match (List.range' 0 xs.length).find? (fun i => (xs.getD i ([], 0, 0, false)).1 == name) with | some j => (j : Int) | none => -1
def refsM (xs : List Rf) : Bool := decide (xs.length ≤ 8) && (List.range' 0 xs.length).all fun i => refGood (xs.getD i ([], 0, 0, false)) && (refAt xs (xs.getD i ([], 0, 0, false)).1 == (i : Int))
theorem l04At_eq (hK : 9223372036854775807 < K) (xs : List Rf) (hx : xs.length ≤ 9223372036854775807) (s : List UInt8) : R.qcX K xs s = some ((refAt xs s, ()), ()) := by
  have := find_ok (L := fun n i => R.L_qcX_0 K n (xs, s, 0, (i : Nat), ())) (len := xs.length) (p := fun i => (xs.getD i ([], 0, 0, false)).1 == s) (t := Sum.inl (0, ())) (f := fun i => Sum.inr ((i : Int), ()))
    (fun n => by simp [R.L_qcX_0]) (fun n i hi => by
      simp only [R.L_qcX_0, wrap_succ hi hx, Int.toNat_natCast]
      cases (xs.getD i ([], 0, 0, false)).1 == s <;> simp [hi]) xs.length 0 K (by omega) (by omega)
  have this : R.L_qcX_0 K K (xs, s, 0, 0, ()) = _ := this
  unfold R.qcX refAt
  rw [this]
  cases (List.range' 0 xs.length).find? (fun i => (xs.getD i ([], 0, 0, false)).1 == s) <;> rfl
theorem l04OK_eq (hK : 9223372036854775807 < K) (xs : List Rf) : R.qcL K xs = some ((refsM xs, ()), ()) := by
  unfold R.qcL refsM
  by_cases h8 : xs.length ≤ 8
  · have := all_ok (L := fun n i => R.L_qcL_0 K n (xs, false, (i : Nat), ())) (len := xs.length) (p := fun i => refGood (xs.getD i ([], 0, 0, false)) && (refAt xs (xs.getD i ([], 0, 0, false)).1 == (i : Int))) (t := Sum.inl (false, ())) (f := Sum.inr (false, ()))
      (fun n => by simp [R.L_qcL_0]) (fun n i hi => by
        simp only [R.L_qcL_0, wrap_succ hi (by omega), Int.toNat_natCast, word_eq hK, in_eq, l04At_eq hK xs (by omega), obind_some, refGood]
        have g : ((i : Nat) : Int) < (xs.length : Int) := by omega
        have g' : (0 : Int) ≤ ((i : Nat) : Int) := by omega
        simp only [g, g', decide_true, Bool.and_self, cond_true]
        generalize xs.getD i ([], 0, 0, false) = x
        cases wordM x.1 <;> cases decide (1 ≤ x.2.2.1) && decide (x.2.2.1 ≤ 1000000) <;> try rfl
        simp only [bne]
        cases refAt xs x.1 == (i : Int) <;> cases x.2.2.2 <;> cases x.2.1 == 0 <;> cases decide (1 ≤ x.2.1) && decide (x.2.1 ≤ 60) <;> rfl) xs.length 0 K (by omega) (by omega)
    have this : R.L_qcL_0 K K (xs, false, 0, ()) = _ := this
    simp only [this, h8, show ¬ ((xs.length : Int) > 8) by omega, obind_some, decide_true, decide_false, cond_false, Bool.true_and]
    cases (List.range' 0 xs.length).all fun i => refGood (xs.getD i ([], 0, 0, false)) && (refAt xs (xs.getD i ([], 0, 0, false)).1 == (i : Int)) <;> rfl
  · simp [h8, show (xs.length : Int) > 8 by omega]
theorem isRef_eq (hK : 9223372036854775807 < K) (r : Rf) (h1 : r.1.length ≤ 9223372036854775807) : R.qcJ K r = some ((refGood r, ()), ()) := by
  unfold R.qcJ refGood R.qcC
  simp only [NameOK_eq hK _, within_eq, obind_some]
  cases wordM r.1 <;> cases decide (1 ≤ r.2.2.1) && decide (r.2.2.1 ≤ 1000000) <;> try rfl
  cases r.2.2.2 <;> cases r.2.1 == 0 <;> cases decide (1 ≤ r.2.1) && decide (r.2.1 ≤ 60) <;> rfl
theorem sless_tri : ∀ a b : List UInt8, (!sless a b) = (sless b a || b == a)
  | [], [] => rfl
  | [], _ :: _ => rfl
  | _ :: _, [] => rfl
  | a :: x, b :: y => by
    have ih := sless_tri x y
    show (!(decide (a < b) || (a == b && sless x y))) = ((decide (b < a) || (b == a && sless y x)) || (b :: y == a :: x))
    rw [List.cons_beq_cons]
    by_cases h : a = b
    · subst h
      have : ¬ a < a := UInt8.lt_irrefl a
      simp only [this, decide_false, beq_self_eq_true, Bool.true_and, Bool.false_or]
      exact ih
    · have h' : (a == b) = false := by simpa using h
      have h'' : (b == a) = false := by simpa using fun e => h e.symm
      simp only [h', h'', Bool.false_and, Bool.or_false]
      by_cases hl : a < b
      · have : ¬ b < a := UInt8.lt_asymm hl
        simp [hl, this]
      · have : b < a := by
          have h1 : ¬ a.toNat < b.toNat := hl
          have h2 : a.toNat ≠ b.toNat := fun e => h (UInt8.toNat_inj.1 e)
          show b.toNat < a.toNat
          omega
        simp [hl, this]
abbrev En := List UInt8 × Int
abbrev Cm := List Int × List En
abbrev Ba := List Cm × List Rf
def inV (v : Int) : Bool := decide (-1000000 ≤ v) && decide (v ≤ 1000000)
def entOK (m : List En) (i : Nat) : Bool := wordM (m.getD i ([], 0)).1 && inV (m.getD i ([], 0)).2 && (decide (i = 0) || sless (m.getD (i - 1) ([], 0)).1 (m.getD i ([], 0)).1)
def mapM (m : List En) : Bool := decide (m.length ≤ 12) && (List.range' 0 m.length).all (entOK m)
theorem l01OK_eq (hK : 9223372036854775807 < K) (m : List En) : R.qcW K m = some ((mapM m, ()), ()) := by
  unfold R.qcW mapM
  by_cases h : m.length ≤ 12
  · have := all_ok (L := fun n i => R.L_qcW_0 K n (m, false, (i : Nat), ())) (len := m.length) (p := entOK m) (t := Sum.inl (false, ())) (f := Sum.inr (false, ()))
      (fun n => by simp only [R.L_qcW_0, idx_end, cond_false]) (fun n i hi => by
        simp only [R.L_qcW_0, wrap_succ hi (by omega), idx_lt hi, idx_nn, Bool.and_self, Int.toNat_natCast, word_eq hK, in_eq, obind_some, cond_true, entOK, inV]
        cases i with
        | zero =>
          cases wordM (m.getD 0 ([], 0)).1 <;> cases decide (-1000000 ≤ (m.getD 0 ([], 0)).2) && decide ((m.getD 0 ([], 0)).2 ≤ 1000000) <;> rfl
        | succ i =>
          have g1 : (((i + 1 : Nat) : Int) > 0) := by omega
          have g2 : i < m.length := by omega
          simp only [wrap_pred hi (by omega), Int.toNat_natCast, Nat.add_sub_cancel, idx_lt g2, idx_nn, Bool.and_self, g1, decide_true, cond_true, show ¬ (i + 1 = 0) by omega, decide_false, Bool.false_or]
          rw [← sless_tri]
          cases wordM (m.getD (i + 1) ([], 0)).1 <;> cases decide (-1000000 ≤ (m.getD (i + 1) ([], 0)).2) && decide ((m.getD (i + 1) ([], 0)).2 ≤ 1000000) <;> cases sless (m.getD i ([], 0)).1 (m.getD (i + 1) ([], 0)).1 <;> rfl) m.length 0 K (by omega) (by omega)
    have this : R.L_qcW_0 K K (m, false, 0, ()) = _ := this
    simp only [this, h, show ¬ ((m.length : Int) > 12) by omega, obind_some, decide_true, decide_false, cond_false, Bool.true_and]
    cases (List.range' 0 m.length).all (entOK m) <;> rfl
  · simp [h, show (m.length : Int) > 12 by omega]
theorem isValue_eq (v : Int) : R.qbZ K v = some ((inV v, ()), ()) := by
  unfold R.qbZ
  rw [within_eq]
  rfl
theorem MapOK_eq (hK : 9223372036854775807 < K) (m : List En) (hx : m.length ≤ 9223372036854775807) : R.qcS K m = some ((mapM m, ()), ()) := by
  have := all_ok (L := fun n i => R.L_qcS_0 K n (m, false, m, (m.length : Int), (i : Nat), ())) (len := m.length) (p := entOK m) (t := Sum.inl (m, false, ())) (f := Sum.inr (false, ()))
      (fun n => by simp only [R.L_qcS_0, idx_end, cond_false]) (fun n i hi => by
        simp only [R.L_qcS_0, wrap_succ hi hx, idx_lt hi, idx_nn, Bool.and_self, Int.toNat_natCast, NameOK_eq hK, isValue_eq, obind_some, cond_true, entOK]
        cases i with
        | zero =>
          cases wordM (m.getD 0 ([], 0)).1 <;> cases inV (m.getD 0 ([], 0)).2 <;> rfl
        | succ i =>
          have g1 : (((i + 1 : Nat) : Int) > 0) := by omega
          have g2 : i < m.length := by omega
          simp only [wrap_pred hi hx, Int.toNat_natCast, Nat.add_sub_cancel, idx_lt g2, idx_nn, Bool.and_self, g1, decide_true, cond_true, show ¬ (i + 1 = 0) by omega, decide_false, Bool.false_or]
          cases wordM (m.getD (i + 1) ([], 0)).1 <;> cases inV (m.getD (i + 1) ([], 0)).2 <;> cases sless (m.getD i ([], 0)).1 (m.getD (i + 1) ([], 0)).1 <;> rfl) m.length 0 K (by omega) (by omega)
  have this : R.L_qcS_0 K K (m, false, m, (m.length : Int), 0, ()) = _ := this
  unfold R.qcS mapM
  rw [this]
  cases (List.range' 0 m.length).all (entOK m)
  · simp [obind]
  · by_cases h : m.length ≤ 12
    · simp [obind, h, show (m.length : Int) ≤ 12 by omega]
    · simp [obind, h, show ¬ (m.length : Int) ≤ 12 by omega]
def parM (n : Nat) (ps : List Int) : Bool := match ps with
  | [] => true
  | [p] => decide (1 ≤ p) && decide (p ≤ (n : Int))
  | p :: q :: _ => (decide (1 ≤ p) && decide (p ≤ (n : Int))) && (decide (1 ≤ q) && decide (q ≤ (n : Int))) && !(q == p)
def commitM (n : Nat) (c : Cm) : Bool := mapM c.2 && decide (c.1.length ≤ 2) && (decide (c.1.length = 0) == decide (n = 0)) && parM n c.1
theorem int0 {n : Nat} : ((n : Int) == 0) = decide (n = 0) := by
  by_cases h : n = 0
  · simp [h]
  · have : (n : Int) ≠ 0 := by omega
    simp [h, this]
theorem l03Commit_eq (hK : 9223372036854775807 < K) (s : List Cm) (c : Cm) : R.qaX K s c = some ((commitM s.length c, ()), ()) := by
  unfold R.qaX commitM
  simp only [l01OK_eq hK, obind_some, int0]
  cases mapM c.2
  · rfl
  obtain ⟨k, rfl⟩ : ∃ k, K = k + 3 := ⟨K - 3, by omega⟩
  obtain ⟨ps, m⟩ := c
  match ps with
  | [] => cases h : decide (s.length = 0) <;> simp [h, R.L_qaX_0, obind, parM]
  | [p] =>
    have w1 : IntKind.i64.wrap 1 = 1 := by decide
    have w2 : IntKind.i64.wrap (0 + 1) = 1 := by decide
    cases h : decide (s.length = 0)
    · cases h1 : decide (1 ≤ p) && decide (p ≤ (s.length : Int)) <;> simp [h, h1, R.L_qaX_0, obind, parM, in_eq, w1]
    · simp [h]
  | [p, q] =>
    have w1 : IntKind.i64.wrap 1 = 1 := by decide
    have w2 : IntKind.i64.wrap 2 = 2 := by decide
    cases h : decide (s.length = 0)
    · cases h1 : decide (1 ≤ p) && decide (p ≤ (s.length : Int)) <;> cases h2 : decide (1 ≤ q) && decide (q ≤ (s.length : Int)) <;> cases h3 : q == p <;> simp [h, h1, h2, h3, R.L_qaX_0, obind, parM, in_eq, w1, w2]
    · simp [h]
  | p :: q :: r :: t =>
    have h1 : ((p :: q :: r :: t : List Int).length : Int) > 2 := by simp; omega
    have h2 : ¬ (p :: q :: r :: t : List Int).length ≤ 2 := by simp
    simp only [h1, h2, decide_true, decide_false, cond_true, cond_false, Bool.not_true, Bool.and_false, Bool.false_and]
theorem areAll_int_at_eq (hK : 9223372036854775807 < K) (ps : List Int) (hl : ps.length ≤ 2) (n : Nat) (hn : n ≤ 1000000) : R.qad K ps ((n : Int) + 1) = some ((ps.all fun p => decide (1 ≤ p) && decide (p ≤ (n : Int)), ()), ()) := by
  obtain ⟨k, rfl⟩ : ∃ k, K = k + 3 := ⟨K - 3, by omega⟩
  have w1 : IntKind.i64.wrap 1 = 1 := by decide
  have w2 : IntKind.i64.wrap 2 = 2 := by decide
  have wn : IntKind.i64.wrap (n : Int) = n := wrap_id (by omega) (by omega)
  unfold R.qad
  match ps with
  | [] => simp [R.L_qad_0, obind]
  | [p] =>
    by_cases a1 : 1 ≤ p <;> by_cases a2 : p ≤ (n : Int) <;> simp [R.L_qad_0, obind, within_eq, w1, wn, a1, a2]
  | [p, q] =>
    by_cases a1 : 1 ≤ p <;> by_cases a2 : p ≤ (n : Int) <;> by_cases b1 : 1 ≤ q <;> by_cases b2 : q ≤ (n : Int) <;> simp [R.L_qad_0, obind, within_eq, w1, w2, wn, a1, a2, b1, b2]
  | _ :: _ :: _ :: _ => simp at hl
theorem len_eq2 {n : Nat} : ((n : Int) == 2) = decide (n = 2) := by
  by_cases h : n = 2
  · simp [h]
  · have : (n : Int) ≠ 2 := by omega
    simp [h, this]
theorem isAt_eq (hK : 9223372036854775807 < K) (c : Cm) (hx : c.2.length ≤ 9223372036854775807) (n : Nat) (hn : n ≤ 1000000) : R.qaD K c ((n : Int) + 1) = some ((commitM n c, ()), ()) := by
  unfold R.qaD commitM
  have hid : ((n : Int) + 1 == 1) = decide (n = 0) := by
    by_cases h : n = 0
    · simp [h]
    · have : ((n : Int) + 1) ≠ 1 := by omega
      simp [h, this]
  simp only [MapOK_eq hK _ hx, obind_some, int0, hid, len_eq2]
  cases mapM c.2
  · rfl
  by_cases h2 : c.1.length ≤ 2
  · simp only [areAll_int_at_eq hK c.1 h2 n hn, obind_some, show ¬ ((c.1.length : Int) > 2) by omega, h2, decide_true, decide_false, cond_false, Bool.not_true, Bool.true_and, Bool.and_true]
    obtain ⟨ps, m⟩ := c
    match ps with
    | [] => cases h : decide (n = 0) <;> simp [h, parM]
    | [p] => cases h : decide (n = 0) <;> simp [h, parM]
    | [p, q] =>
      have e : (p == q) = (q == p) := Bool.beq_comm
      cases h : decide (n = 0) <;> cases h1 : decide (1 ≤ p) && decide (p ≤ (n : Int)) <;> cases h3 : decide (1 ≤ q) && decide (q ≤ (n : Int)) <;> cases h4 : q == p <;> simp [h, h1, h3, h4, e, parM]
    | _ :: _ :: _ :: _ => simp at h2
  · have h3 : (c.1.length : Int) > 2 := by omega
    simp only [h2, h3, decide_true, decide_false, cond_true, cond_false, Bool.not_true, Bool.and_false, Bool.false_and]
def storeM (s : List Cm) : Bool := decide (1 ≤ s.length) && decide (s.length ≤ 60) && (List.range' 0 s.length).all fun i => commitM i (s.getD i ([], []))
theorem l03OK_eq (hK : 9223372036854775807 < K) (s : List Cm) : R.qcI K s = some ((storeM s, ()), ()) := by
  unfold R.qcI storeM
  simp only [in_eq, obind_some]
  by_cases h1 : 1 ≤ s.length
  · by_cases h2 : s.length ≤ 60
    · have := all_ok (L := fun n i => R.L_qcI_0 K n (s, false, (i : Nat), ())) (len := s.length) (p := fun i => commitM i (s.getD i ([], []))) (t := Sum.inl (false, ())) (f := Sum.inr (false, ()))
        (fun n => by simp only [R.L_qcI_0, idx_end, cond_false]) (fun n i hi => by
          have g : ((i : Nat) : Int) ≤ (s.length : Int) := by omega
          have e : (List.drop 0 (List.take i s)).length = i := by simp; omega
          simp only [R.L_qcI_0, wrap_succ hi (by omega), idx_lt hi, idx_nn, Bool.and_self, Int.toNat_natCast, l03Commit_eq hK, obind_some, cond_true, g, decide_true, e]
          cases commitM i (s.getD i ([], [])) <;> rfl) s.length 0 K (by omega) (by omega)
      have this : R.L_qcI_0 K K (s, false, 0, ()) = _ := this
      simp only [this, show (1 : Int) ≤ s.length by omega, show (s.length : Int) ≤ 60 by omega, h1, h2, obind_some, decide_true, Bool.and_self, Bool.not_true, cond_false, Bool.true_and]
      cases (List.range' 0 s.length).all fun i => commitM i (s.getD i ([], [])) <;> rfl
    · simp [h2, show ¬ (s.length : Int) ≤ 60 by omega]
  · simp [h1, show ¬ (1 : Int) ≤ s.length by omega]
theorem areCommits_eq (hK : 9223372036854775807 < K) (s : List Cm) (hs : s.length ≤ 4096) (hw : ∀ c ∈ s, c.2.length ≤ 9223372036854775807) : R.qaN K s = some ((decide (s.length ≤ 60) && (List.range' 0 s.length).all fun i => commitM i (s.getD i ([], [])), ()), ()) := by
  have := all_ok (L := fun n i => R.L_qaN_0 K n (s, false, s, (s.length : Int), (i : Nat), ())) (len := s.length) (p := fun i => commitM i (s.getD i ([], []))) (t := Sum.inl (s, false, ())) (f := Sum.inr (false, ()))
    (fun n => by simp only [R.L_qaN_0, idx_end, cond_false]) (fun n i hi => by
      have e : IntKind.i64.wrap ((i : Int) + 1) = (i : Int) + 1 := wrap_id (by omega) (by omega)
      simp only [R.L_qaN_0, e, idx_lt hi, idx_nn, Bool.and_self, Int.toNat_natCast, isAt_eq hK _ (hw _ (getD_mem ([], []) hi)) i (by omega), obind_some, cond_true]
      cases commitM i (s.getD i ([], []))
      · rfl
      · simp) s.length 0 K (by omega) (by omega)
  have this : R.L_qaN_0 K K (s, false, s, (s.length : Int), 0, ()) = _ := this
  unfold R.qaN
  rw [this]
  cases (List.range' 0 s.length).all fun i => commitM i (s.getD i ([], []))
  · simp [obind]
  · by_cases h : s.length ≤ 60
    · simp [obind, h, show (s.length : Int) ≤ 60 by omega]
    · simp [obind, h, show ¬ (s.length : Int) ≤ 60 by omega]
theorem StoreOK_eq (hK : 9223372036854775807 < K) (s : List Cm) (hw : ∀ c ∈ s, c.2.length ≤ 9223372036854775807) : R.qbO K s = some ((storeM s, ()), ()) := by
  unfold R.qbO storeM
  by_cases h1 : 1 ≤ s.length
  · by_cases h2 : s.length ≤ 4096
    · simp only [show (s.length : Int) > 0 by omega, show (s.length : Int) ≤ 4096 by omega, areCommits_eq hK s h2 hw, obind_some, decide_true, cond_true, h1, Bool.true_and]
    · simp [show (s.length : Int) > 0 by omega, h2, show ¬ (s.length : Int) ≤ 4096 by omega, show ¬ s.length ≤ 60 by omega]
  · simp [h1, show ¬ (0 : Int) < s.length by omega, show ¬ 0 < s.length by omega]
theorem areAll_isRef_eq (hK : 9223372036854775807 < K) (xs : List Rf) (hl : xs.length ≤ 8) (hn : ∀ r ∈ xs, r.1.length ≤ 9223372036854775807) : R.qaf K xs = some (((List.range' 0 xs.length).all fun i => refGood (xs.getD i ([], 0, 0, false)), ()), ()) := by
  obtain ⟨j, this⟩ := all_okI (L := fun n i => R.L_qaf_0 K n (xs, false, xs, xs, false, xs, xs, 0, (xs.length : Int), (i : Nat), ())) (len := xs.length) (p := fun i => refGood (xs.getD i ([], 0, 0, false)))
    (t := Sum.inl (xs, false, xs, xs, false, xs, 0, ())) (f := fun i => Sum.inr (xs, false, xs, xs, false, xs, (i : Int), ()))
    (fun n => by simp only [R.L_qaf_0, idx_end, cond_false]) (fun n i hi => by
      simp only [R.L_qaf_0, wrap_succ hi (by omega), idx_lt hi, idx_nn, Bool.and_self, Int.toNat_natCast, isRef_eq hK _ (hn _ (getD_mem _ hi)), obind_some, cond_true]
      cases refGood (xs.getD i ([], 0, 0, false)) <;> rfl) xs.length 0 K (by omega) (by omega)
  have this : R.L_qaf_0 K K (xs, false, xs, xs, false, xs, xs, 0, (xs.length : Int), 0, ()) = _ := this
  unfold R.qaf
  rw [this]
  cases (List.range' 0 xs.length).all fun i => refGood (xs.getD i ([], 0, 0, false)) <;> simp [obind]
theorem place_eq (hK : 9223372036854775807 < K) (xs : List Rf) (hx : xs.length ≤ 9223372036854775807) (s : List UInt8) : R.qcK K xs s = some ((refAt xs s, ()), ()) := by
  have := find_ok (L := fun n i => R.L_qac_0 K n (xs, s, 0, (xs.length : Int), (i : Nat), ())) (len := xs.length) (p := fun i => (xs.getD i ([], 0, 0, false)).1 == s) (t := Sum.inl (0, ())) (f := fun i => Sum.inr ((i : Int), ()))
    (fun n => by simp only [R.L_qac_0, idx_end, cond_false]) (fun n i hi => by
      simp only [R.L_qac_0, wrap_succ hi hx, idx_lt hi, idx_nn, Bool.and_self, Int.toNat_natCast, cond_true]) xs.length 0 K (by omega) (by omega)
  have this : R.L_qac_0 K K (xs, s, 0, (xs.length : Int), 0, ()) = _ := this
  unfold R.qcK R.qac refAt
  rw [this]
  cases (List.range' 0 xs.length).find? (fun i => (xs.getD i ([], 0, 0, false)).1 == s) <;> rfl
theorem take_getD {α : Type} (xs : List α) (d : α) {i j : Nat} (h : j < i) : (xs.take i).getD j d = xs.getD j d := by
  simp [List.getD_eq_getElem?_getD, List.getElem?_take, h]
theorem find_congr {α : Type} {p q : α → Bool} : ∀ {l : List α}, (∀ j ∈ l, p j = q j) → l.find? p = l.find? q
  | [], _ => rfl
  | a :: l, h => by
    rw [List.find?_cons, List.find?_cons, h a (by simp), find_congr (l := l) fun j hj => h j (by simp [hj])]
theorem refAt_take (xs : List Rf) (i : Nat) (hi : i < xs.length) : decide (refAt (xs.take i) (xs.getD i ([], 0, 0, false)).1 ≥ 0) = !(refAt xs (xs.getD i ([], 0, 0, false)).1 == (i : Int)) := by
  have hl : (xs.take i).length = i := by simp; omega
  have hp : ∀ j ∈ List.range' 0 i, (((xs.take i).getD j ([], 0, 0, false)).1 == (xs.getD i ([], 0, 0, false)).1) = ((xs.getD j ([], 0, 0, false)).1 == (xs.getD i ([], 0, 0, false)).1) := fun j hj => by
    rw [take_getD]
    simp at hj; omega
  have hs : List.range' 0 xs.length = List.range' 0 i ++ List.range' i (xs.length - i) := by
    have := List.range'_append_1 (s := 0) (m := i) (n := xs.length - i)
    rw [Nat.zero_add] at this
    rw [this]; congr 1; omega
  have hc : List.range' i (xs.length - i) = i :: List.range' (i + 1) (xs.length - i - 1) := by
    rw [show xs.length - i = (xs.length - i - 1) + 1 by omega, List.range'_succ]; simp
  unfold refAt
  rw [hl, find_congr (q := fun j => (xs.getD j ([], 0, 0, false)).1 == (xs.getD i ([], 0, 0, false)).1) hp, hs, List.find?_append, hc]
  cases e : (List.range' 0 i).find? (fun j => (xs.getD j ([], 0, 0, false)).1 == (xs.getD i ([], 0, 0, false)).1) with
  | none => simp
  | some j =>
    have hj : j < i := by
      have := List.mem_of_find?_eq_some e
      simp at this; omega
    have : ((j : Int) == (i : Int)) = false := by
      have : (j : Int) ≠ i := by omega
      simpa using this
    simp [this]
theorem RefsOK_eq (hK : 9223372036854775807 < K) (xs : List Rf) (hn : ∀ r ∈ xs, r.1.length ≤ 9223372036854775807) : R.qcp K xs = some ((refsM xs, ()), ()) := by
  unfold R.qcp refsM
  by_cases h8 : xs.length ≤ 8
  · have := all_ok (L := fun n i => R.L_qcp_0 K n (xs, false, xs, (xs.length : Int), (i : Nat), ())) (len := xs.length) (p := fun i => refAt xs (xs.getD i ([], 0, 0, false)).1 == (i : Int)) (t := Sum.inl (false, ())) (f := Sum.inr (false, ()))
      (fun n => by simp only [R.L_qcp_0, idx_end, cond_false]) (fun n i hi => by
        have g : ((i : Nat) : Int) ≤ (xs.length : Int) := by omega
        have hl : (xs.take i).length ≤ 9223372036854775807 := by simp; omega
        simp only [R.L_qcp_0, wrap_succ hi (by omega), idx_lt hi, idx_nn, Bool.and_self, Int.toNat_natCast, List.drop_zero, place_eq hK _ hl, obind_some, cond_true, g, decide_true, refAt_take xs i hi]
        cases refAt xs (xs.getD i ([], 0, 0, false)).1 == (i : Int) <;> rfl) xs.length 0 K (by omega) (by omega)
    have this : R.L_qcp_0 K K (xs, false, xs, (xs.length : Int), 0, ()) = _ := this
    have hand : ((List.range' 0 xs.length).all fun i => refGood (xs.getD i ([], 0, 0, false)) && (refAt xs (xs.getD i ([], 0, 0, false)).1 == (i : Int))) = (((List.range' 0 xs.length).all fun i => refGood (xs.getD i ([], 0, 0, false))) && (List.range' 0 xs.length).all fun i => refAt xs (xs.getD i ([], 0, 0, false)).1 == (i : Int)) := by
      induction List.range' 0 xs.length with
      | nil => rfl
      | cons a l ih =>
        simp only [List.all_cons, ih]
        cases refGood (xs.getD a ([], 0, 0, false)) <;> cases refAt xs (xs.getD a ([], 0, 0, false)).1 == (a : Int) <;> simp
    simp only [this, areAll_isRef_eq hK xs h8 hn, h8, show ¬ ((xs.length : Int) > 8) by omega, obind_some, decide_true, decide_false, cond_false, Bool.true_and, hand]
    cases (List.range' 0 xs.length).all fun i => refGood (xs.getD i ([], 0, 0, false)) <;> cases (List.range' 0 xs.length).all fun i => refAt xs (xs.getD i ([], 0, 0, false)).1 == (i : Int) <;> rfl
  · simp [h8, show (xs.length : Int) > 8 by omega]
def baseM (b : Ba) : Bool := storeM b.1 && refsM b.2 && (List.range' 0 b.2.length).all fun i => decide ((b.2.getD i ([], 0, 0, false)).2.1 ≤ (b.1.length : Int))
theorem l05OK_eq (hK : 9223372036854775807 < K) (b : Ba) (hx : b.2.length ≤ 9223372036854775807) : R.qcQ K b = some ((baseM b, ()), ()) := by
  unfold R.qcQ baseM
  simp only [l03OK_eq hK, l04OK_eq hK, obind_some]
  cases storeM b.1
  · rfl
  cases refsM b.2
  · rfl
  have := all_ok (L := fun n i => R.L_qcQ_0 K n (false, (i : Nat), b.1, b.2, ())) (len := b.2.length) (p := fun i => decide ((b.2.getD i ([], 0, 0, false)).2.1 ≤ (b.1.length : Int))) (t := Sum.inl (false, ())) (f := Sum.inr (false, ()))
    (fun n => by simp only [R.L_qcQ_0, idx_end, cond_false]) (fun n i hi => by
      simp only [R.L_qcQ_0, wrap_succ hi hx, idx_lt hi, idx_nn, Bool.and_self, Int.toNat_natCast, cond_true]
      by_cases h : (b.2.getD i ([], 0, 0, false)).2.1 ≤ (b.1.length : Int)
      · simp only [h, show ¬ ((b.2.getD i ([], 0, 0, false)).2.1 > (b.1.length : Int)) by omega, decide_true, decide_false]; rfl
      · simp only [h, show ((b.2.getD i ([], 0, 0, false)).2.1 > (b.1.length : Int)) by omega, decide_true, decide_false]; rfl) b.2.length 0 K (by omega) (by omega)
  have this : R.L_qcQ_0 K K (false, 0, b.1, b.2, ()) = _ := this
  rw [this]
  cases (List.range' 0 b.2.length).all fun i => decide ((b.2.getD i ([], 0, 0, false)).2.1 ≤ (b.1.length : Int)) <;> rfl
theorem areAll_BaseOK_eq (hK : 9223372036854775807 < K) (xs : List Rf) (b : Ba) (hx : xs.length ≤ 9223372036854775807) : R.qae K xs b = some (((List.range' 0 xs.length).all fun i => decide ((xs.getD i ([], 0, 0, false)).2.1 ≤ (b.1.length : Int)), ()), ()) := by
  obtain ⟨j, this⟩ := all_okI (L := fun n i => R.L_qae_0 K n (xs, b, false, xs, xs, false, xs, xs, 0, (xs.length : Int), (i : Nat), b, ())) (len := xs.length) (p := fun i => decide ((xs.getD i ([], 0, 0, false)).2.1 ≤ (b.1.length : Int)))
    (t := Sum.inl (xs, b, false, xs, xs, false, xs, 0, b, ())) (f := fun i => Sum.inr (xs, b, false, xs, xs, false, xs, (i : Int), b, ()))
    (fun n => by simp only [R.L_qae_0, idx_end, cond_false]) (fun n i hi => by
      simp only [R.L_qae_0, wrap_succ hi hx, idx_lt hi, idx_nn, Bool.and_self, Int.toNat_natCast, cond_true]
      cases decide ((xs.getD i ([], 0, 0, false)).2.1 ≤ (b.1.length : Int)) <;> rfl) xs.length 0 K (by omega) (by omega)
  have this : R.L_qae_0 K K (xs, b, false, xs, xs, false, xs, xs, 0, (xs.length : Int), 0, b, ()) = _ := this
  unfold R.qae
  rw [this]
  cases (List.range' 0 xs.length).all fun i => decide ((xs.getD i ([], 0, 0, false)).2.1 ≤ (b.1.length : Int)) <;> simp [obind]
theorem BaseOK_eq (hK : 9223372036854775807 < K) (b : Ba) (hx : b.2.length ≤ 9223372036854775807) (hw : ∀ c ∈ b.1, c.2.length ≤ 9223372036854775807) (hn : ∀ r ∈ b.2, r.1.length ≤ 9223372036854775807) : R.qci K b = some ((baseM b, ()), ()) := by
  unfold R.qci baseM
  simp only [StoreOK_eq hK _ hw, RefsOK_eq hK _ hn, areAll_BaseOK_eq hK _ _ hx, obind_some]
  cases storeM b.1 <;> cases refsM b.2 <;> rfl
theorem getD_set {α : Type} {d a : α} {xs : List α} {i : Nat} (h : i < xs.length) : (xs.set i a).getD i d = a := by
  simp [List.getD_eq_getElem?_getD, h]
theorem getD_set_ne {α : Type} {d a : α} {xs : List α} {i j : Nat} (h : i ≠ j) : (xs.set i a).getD j d = xs.getD j d := by
  simp [List.getD_eq_getElem?_getD, List.getElem?_set, h]
theorem nbeq {n : Nat} : Nat.beq n n = true := Nat.beq_refl n
theorem bleC {a b : Nat} (h : a ≤ b) : Nat.ble a b = true := Nat.ble_eq_true_of_le h
theorem lt0 {k : Int} (h : 0 ≤ k) : decide (k < 0) = false := by simp; omega
theorem bytes1 (n : Int) : (bytesOut [n]).length = 1 := rfl
theorem markTextL (a : List UInt8) : ∀ (m n : Nat) (k : Int) (s : List UInt8), 0 ≤ k → k ≤ 9223372036854775807 → k < 10 ^ m → m < n → s.length + m ≤ 1000 →
    ∃ s', R.L_qbv_0 K n (k, a, s, ()) = some (.inl (a, s', ())) ∧ s'.length ≤ s.length + m
  | 0, n + 1, k, s, h0, _, h1, hn, hs => by
    have hk : k = 0 := by simp at h1; omega
    subst hk
    refine ⟨s, ?_, by omega⟩
    simp [R.L_qbv_0]
  | m + 1, n + 1, k, s, h0, h2, h1, hn, hs => by
    by_cases hk : k > 0
    · have hb : Nat.ble (1 + s.length) 268435456 = true := Nat.ble_eq_true_of_le (by omega)
      have hlt : k / 10 < 10 ^ m := by
        have : (10 : Int) ^ (m + 1) = 10 ^ m * 10 := Int.pow_succ _ _
        rw [this] at h1
        omega
      have hdn : IntKind.i64.wrap (Int.tdiv k 10) = k / 10 := by
        rw [Int.tdiv_eq_ediv_of_nonneg h0]
        exact wrap_id (by omega) (by omega)
      obtain ⟨s', e, l⟩ := markTextL a m n (k / 10) (bytesOut [IntKind.u8.wrap (IntKind.i64.wrap (48 + Int.tmod k 10))] ++ s) (by omega) (by omega) hlt (by omega) (by rw [List.length_append, bytes1]; omega)
      refine ⟨s', ?_, by rw [List.length_append, bytes1] at l; omega⟩
      simp only [R.L_qbv_0, hk, decide_true, cond_true, bytes1, hb, hdn]
      exact e
    · refine ⟨s, ?_, by omega⟩
      simp only [R.L_qbv_0, hk, decide_false, cond_false]
theorem markText_ok (hK : 9223372036854775807 < K) (k : Int) (h0 : 0 ≤ k) (h1 : k ≤ 9223372036854775807) : ∃ t, R.qbv K k = some ((t, ()), ()) := by
  unfold R.qbv
  by_cases hk : k ≤ 0
  · simp only [hk, decide_true, cond_true]
    exact ⟨_, rfl⟩
  · simp only [hk, decide_false, cond_false]
    obtain ⟨s', e, l⟩ := markTextL (K := K) [] 20 K k [] h0 h1 (by omega) (by omega) (by simp)
    have e : R.L_qbv_0 K K (k, Array.toList (ByteArray.data (ByteArray.mk #[])), Array.toList (ByteArray.data (ByteArray.mk #[])), ()) = some (.inl ([], s', ())) := e
    have hb : Nat.ble ((Array.toList (ByteArray.data (ByteArray.mk #[109]))).length + s'.length) 268435456 = true := Nat.ble_eq_true_of_le (by simp at l ⊢; omega)
    simp only [e, obind_some, hb, cond_true]
    exact ⟨_, rfl⟩
def HeldL {E : Type} (H : Int → E → Int → Prop) (d : E) (ys : List E) : Nat → Nat → Int → Int → Prop
  | _, 0, k, k' => k = k'
  | i, m + 1, k, k' => ∃ k1, H k (ys.getD i d) k1 ∧ k ≤ k1 ∧ HeldL H d ys (i + 1) m k1 k'
theorem mark_loop {E τ : Type} {d : E} {L : Nat → Nat → Int → List E → Option τ} {len : Nat} {fin : Int → List E → τ} {c B : Int} {H : Int → E → Int → Prop} {Good : E → Prop} (hc : 0 ≤ c)
    (h0 : ∀ n k xs, xs.length = len → L (n + 1) len k xs = some (fin k xs))
    (h1 : ∀ n i k xs, i < len → xs.length = len → 0 ≤ k → k + c ≤ B → Good (xs.getD i d) → ∃ k' y, k ≤ k' ∧ k' ≤ k + c ∧ H k y k' ∧ L (n + 1) i k xs = L n (i + 1) k' (xs.set i y)) :
    ∀ (m i n : Nat) (k : Int) (xs : List E), i + m = len → m < n → xs.length = len → 0 ≤ k → k + c * (m : Int) ≤ B → (∀ j, i ≤ j → j < len → Good (xs.getD j d)) →
      ∃ k' ys, L n i k xs = some (fin k' ys) ∧ k ≤ k' ∧ k' ≤ k + c * (m : Int) ∧ ys.length = len ∧ (∀ j, j < i → ys.getD j d = xs.getD j d) ∧ HeldL H d ys i m k k'
  | 0, i, n + 1, k, xs, hi, _, hx, hk, hB, _ => by
    have : i = len := by omega
    subst this
    exact ⟨k, xs, h0 n k xs hx, by omega, by simp, hx, fun _ _ => rfl, rfl⟩
  | m + 1, i, n + 1, k, xs, hi, hn, hx, hk, hB, hg => by
    have hm : c * ((m + 1 : Nat) : Int) = c * (m : Int) + c := by rw [Int.natCast_add, Int.mul_add]; simp
    have hcm : 0 ≤ c * (m : Int) := Int.mul_nonneg hc (by omega)
    obtain ⟨k1, y, l1, l2, hH, e⟩ := h1 n i k xs (by omega) hx hk (by omega) (hg i (by omega) (by omega))
    have hix : i < xs.length := by omega
    obtain ⟨k', ys, e', g1, g2, g3, g4, g5⟩ := mark_loop hc h0 h1 m (i + 1) n k1 (xs.set i y) (by omega) (by omega) (by simp [hx]) (by omega) (by omega) (fun j hj hj' => by rw [getD_set_ne (by omega)]; exact hg j (by omega) hj')
    refine ⟨k', ys, by rw [e, e'], by omega, by omega, g3, fun j hj => by rw [g4 j (by omega), getD_set_ne (by omega)], k1, ?_, l1, g5⟩
    rw [g4 i (by omega), getD_set hix]
    exact hH
theorem held_loop {E τ : Type} {d : E} {ys : List E} {L : Nat → Nat → Int → Option τ} {len : Nat} {fin : Int → τ} {H : Int → E → Int → Prop}
    (h0 : ∀ n k, L (n + 1) len k = some (fin k)) (h1 : ∀ n i k k', i < len → H k (ys.getD i d) k' → L (n + 1) i k = L n (i + 1) k') :
    ∀ (m i n : Nat) (k k' : Int), i + m = len → m < n → HeldL H d ys i m k k' → L n i k = some (fin k')
  | 0, i, n + 1, k, k', hi, _, h => by
    have : i = len := by omega
    subst this
    have : k = k' := h
    subst this
    exact h0 n k
  | m + 1, i, n + 1, k, k', hi, hn, ⟨k1, hH, _, h⟩ => by
    rw [h1 n i k k1 (by omega) hH]
    exact held_loop h0 h1 m (i + 1) n k1 k' (by omega) (by omega) h
theorem szIntS_ok (hK : 9223372036854775807 < K) (x : List (Int)) (p : Int) (h0 : 0 ≤ p) (h1 : p ≤ 1048576) (hw : Wd (.sl (.int .i64)) x) : ∃ z, R.qcq K x p = some ((z, ()), ()) ∧ z ≤ p ∧ (0 ≤ z → Sm (.sl (.int .i64)) x) := by
  have hl : x.length ≤ 9223372036854775807 := hw.1
  have e0 : IntKind.i64.wrap (p - (x.length : Int)) = p - x.length := wrap_id (by omega) (by omega)
  unfold R.qcq
  simp only [e0]
  by_cases c0 : p - (x.length : Int) < 0
  · simp only [c0, decide_true, cond_true]
    exact ⟨-1, rfl, by omega, fun h => by omega⟩
  · simp only [c0, decide_false, cond_false]
    exact ⟨_, rfl, by omega, fun h => ⟨by omega, fun _ _ => trivial⟩⟩
theorem szEntry_ok (hK : 9223372036854775807 < K) (x : (List UInt8) × (Int)) (p : Int) (h0 : 0 ≤ p) (h1 : p ≤ 1048576) (hw : Wd (.pair .str (.int .i64)) x) : ∃ z, R.qbU K x p = some ((z, ()), ()) ∧ z ≤ p ∧ (0 ≤ z → Sm (.pair .str (.int .i64)) x) := by
  unfold R.qbU
  have b1 : x.1.length ≤ 9223372036854775807 := hw.1
  have e1 : IntKind.i64.wrap (p - (x.1.length : Int)) = p - (x.1.length : Int) := wrap_id (by omega) (by omega)
  simp only [e1]
  by_cases c1 : p - (x.1.length : Int) < 0
  · simp only [c1, decide_true, cond_true]
    exact ⟨-1, rfl, by omega, fun h => by omega⟩
  simp only [c1, decide_false, cond_false]
  exact ⟨_, rfl, by omega, fun h => ⟨(show x.1.length ≤ 1048576 by omega), trivial⟩⟩
theorem szEntryS_ok (hK : 9223372036854775807 < K) (x : List ((List UInt8) × (Int))) (p : Int) (h0 : 0 ≤ p) (h1 : p ≤ 1048576) (hw : Wd (.sl (.pair .str (.int .i64))) x) : ∃ z, R.qbu K x p = some ((z, ()), ()) ∧ z ≤ p ∧ (0 ≤ z → Sm (.sl (.pair .str (.int .i64))) x) := by
  have hl : x.length ≤ 9223372036854775807 := hw.1
  have e0 : IntKind.i64.wrap (p - (x.length : Int)) = p - x.length := wrap_id (by omega) (by omega)
  unfold R.qbu
  simp only [e0]
  by_cases c0 : p - (x.length : Int) < 0
  · simp only [c0, decide_true, cond_true]
    exact ⟨-1, rfl, by omega, fun h => by omega⟩
  · simp only [c0, decide_false, cond_false]
    have := sz_loop (L := fun n i p => R.L_qbu_0 K n (x, p, 0, (i : Nat), ())) (len := x.length) (S := fun i => Sm (.pair .str (.int .i64)) (x.getD i ([], 0))) (fun n p => by simp only [R.L_qbu_0, idx_end, cond_false]) (fun n i p hi hp hp' => by
      obtain ⟨z, e, l, s⟩ := szEntry_ok hK (x.getD i ([], 0)) p hp hp' (hw.2 _ (getD_mem _ hi))
      refine ⟨z, l, s, ?_⟩
      simp only [R.L_qbu_0, idx_lt hi, idx_nn, Bool.and_self, wrap_succ hi hl, Int.toNat_natCast, e, obind_some, cond_true]) x.length 0 K (p - x.length) (by omega) (by omega) (by omega) (by omega)
    have this : (∃ z, R.L_qbu_0 K K (x, p - x.length, 0, 0, ()) = some (.inl (z, 0, ())) ∧ _) ∨ R.L_qbu_0 K K (x, p - x.length, 0, 0, ()) = _ := this
    rcases this with ⟨z, e, g1, g2, g3⟩ | e
    · refine ⟨z, by simp only [e, obind_some], by omega, fun _ => ⟨by omega, fun y hy => ?_⟩⟩
      obtain ⟨j, hj, rfl⟩ := List.mem_iff_getElem.1 hy
      have := g3 j (by omega) hj
      rw [List.getD_eq_getElem?_getD, List.getElem?_eq_getElem hj] at this
      exact this
    · exact ⟨-1, by simp only [e, obind_some], by omega, fun h => by omega⟩
theorem szCommit_ok (hK : 9223372036854775807 < K) (x : (List (Int)) × (List ((List UInt8) × (Int)))) (p : Int) (h0 : 0 ≤ p) (h1 : p ≤ 1048576) (hw : Wd (.pair (.sl (.int .i64)) (.sl (.pair .str (.int .i64)))) x) : ∃ z, R.qbq K x p = some ((z, ()), ()) ∧ z ≤ p ∧ (0 ≤ z → Sm (.pair (.sl (.int .i64)) (.sl (.pair .str (.int .i64)))) x) := by
  unfold R.qbq
  obtain ⟨z1, e1, l1, s1⟩ := szIntS_ok hK x.1 p (by omega) (by omega) hw.1
  simp only [e1, obind_some, pair_eta]
  by_cases c1 : z1 < 0
  · simp only [c1, decide_true, cond_true]
    exact ⟨-1, rfl, by omega, fun h => by omega⟩
  simp only [c1, decide_false, cond_false]
  obtain ⟨z2, e2, l2, s2⟩ := szEntryS_ok hK x.2 (z1) (by omega) (by omega) hw.2
  simp only [e2, obind_some, pair_eta]
  by_cases c2 : z2 < 0
  · simp only [c2, decide_true, cond_true]
    exact ⟨-1, rfl, by omega, fun h => by omega⟩
  simp only [c2, decide_false, cond_false]
  exact ⟨_, rfl, by omega, fun h => ⟨(s1 (by omega)), (s2 (by omega))⟩⟩
theorem szCommitS_ok (hK : 9223372036854775807 < K) (x : List ((List (Int)) × (List ((List UInt8) × (Int))))) (p : Int) (h0 : 0 ≤ p) (h1 : p ≤ 1048576) (hw : Wd (.sl (.pair (.sl (.int .i64)) (.sl (.pair .str (.int .i64))))) x) : ∃ z, R.qbb K x p = some ((z, ()), ()) ∧ z ≤ p ∧ (0 ≤ z → Sm (.sl (.pair (.sl (.int .i64)) (.sl (.pair .str (.int .i64))))) x) := by
  have hl : x.length ≤ 9223372036854775807 := hw.1
  have e0 : IntKind.i64.wrap (p - (x.length : Int)) = p - x.length := wrap_id (by omega) (by omega)
  unfold R.qbb
  simp only [e0]
  by_cases c0 : p - (x.length : Int) < 0
  · simp only [c0, decide_true, cond_true]
    exact ⟨-1, rfl, by omega, fun h => by omega⟩
  · simp only [c0, decide_false, cond_false]
    have := sz_loop (L := fun n i p => R.L_qbb_0 K n (x, p, 0, (i : Nat), ())) (len := x.length) (S := fun i => Sm (.pair (.sl (.int .i64)) (.sl (.pair .str (.int .i64)))) (x.getD i ([], []))) (fun n p => by simp only [R.L_qbb_0, idx_end, cond_false]) (fun n i p hi hp hp' => by
      obtain ⟨z, e, l, s⟩ := szCommit_ok hK (x.getD i ([], [])) p hp hp' (hw.2 _ (getD_mem _ hi))
      refine ⟨z, l, s, ?_⟩
      simp only [R.L_qbb_0, idx_lt hi, idx_nn, Bool.and_self, wrap_succ hi hl, Int.toNat_natCast, e, obind_some, cond_true]) x.length 0 K (p - x.length) (by omega) (by omega) (by omega) (by omega)
    have this : (∃ z, R.L_qbb_0 K K (x, p - x.length, 0, 0, ()) = some (.inl (z, 0, ())) ∧ _) ∨ R.L_qbb_0 K K (x, p - x.length, 0, 0, ()) = _ := this
    rcases this with ⟨z, e, g1, g2, g3⟩ | e
    · refine ⟨z, by simp only [e, obind_some], by omega, fun _ => ⟨by omega, fun y hy => ?_⟩⟩
      obtain ⟨j, hj, rfl⟩ := List.mem_iff_getElem.1 hy
      have := g3 j (by omega) hj
      rw [List.getD_eq_getElem?_getD, List.getElem?_eq_getElem hj] at this
      exact this
    · exact ⟨-1, by simp only [e, obind_some], by omega, fun h => by omega⟩
theorem szRef_ok (hK : 9223372036854775807 < K) (x : (List UInt8) × ((Int) × ((Int) × (Bool)))) (p : Int) (h0 : 0 ≤ p) (h1 : p ≤ 1048576) (hw : Wd (.pair .str (.pair (.int .i64) (.pair (.int .i64) .bool))) x) : ∃ z, R.qcR K x p = some ((z, ()), ()) ∧ z ≤ p ∧ (0 ≤ z → Sm (.pair .str (.pair (.int .i64) (.pair (.int .i64) .bool))) x) := by
  unfold R.qcR
  have b1 : x.1.length ≤ 9223372036854775807 := hw.1
  have e1 : IntKind.i64.wrap (p - (x.1.length : Int)) = p - (x.1.length : Int) := wrap_id (by omega) (by omega)
  simp only [e1]
  by_cases c1 : p - (x.1.length : Int) < 0
  · simp only [c1, decide_true, cond_true]
    exact ⟨-1, rfl, by omega, fun h => by omega⟩
  simp only [c1, decide_false, cond_false]
  exact ⟨_, rfl, by omega, fun h => ⟨(show x.1.length ≤ 1048576 by omega), ⟨trivial, ⟨trivial, trivial⟩⟩⟩⟩
theorem szRefS_ok (hK : 9223372036854775807 < K) (x : List ((List UInt8) × ((Int) × ((Int) × (Bool))))) (p : Int) (h0 : 0 ≤ p) (h1 : p ≤ 1048576) (hw : Wd (.sl (.pair .str (.pair (.int .i64) (.pair (.int .i64) .bool)))) x) : ∃ z, R.qcE K x p = some ((z, ()), ()) ∧ z ≤ p ∧ (0 ≤ z → Sm (.sl (.pair .str (.pair (.int .i64) (.pair (.int .i64) .bool)))) x) := by
  have hl : x.length ≤ 9223372036854775807 := hw.1
  have e0 : IntKind.i64.wrap (p - (x.length : Int)) = p - x.length := wrap_id (by omega) (by omega)
  unfold R.qcE
  simp only [e0]
  by_cases c0 : p - (x.length : Int) < 0
  · simp only [c0, decide_true, cond_true]
    exact ⟨-1, rfl, by omega, fun h => by omega⟩
  · simp only [c0, decide_false, cond_false]
    have := sz_loop (L := fun n i p => R.L_qcE_0 K n (x, p, 0, (i : Nat), ())) (len := x.length) (S := fun i => Sm (.pair .str (.pair (.int .i64) (.pair (.int .i64) .bool))) (x.getD i ([], (0, (0, false))))) (fun n p => by simp only [R.L_qcE_0, idx_end, cond_false]) (fun n i p hi hp hp' => by
      obtain ⟨z, e, l, s⟩ := szRef_ok hK (x.getD i ([], (0, (0, false)))) p hp hp' (hw.2 _ (getD_mem _ hi))
      refine ⟨z, l, s, ?_⟩
      simp only [R.L_qcE_0, idx_lt hi, idx_nn, Bool.and_self, wrap_succ hi hl, Int.toNat_natCast, e, obind_some, cond_true]) x.length 0 K (p - x.length) (by omega) (by omega) (by omega) (by omega)
    have this : (∃ z, R.L_qcE_0 K K (x, p - x.length, 0, 0, ()) = some (.inl (z, 0, ())) ∧ _) ∨ R.L_qcE_0 K K (x, p - x.length, 0, 0, ()) = _ := this
    rcases this with ⟨z, e, g1, g2, g3⟩ | e
    · refine ⟨z, by simp only [e, obind_some], by omega, fun _ => ⟨by omega, fun y hy => ?_⟩⟩
      obtain ⟨j, hj, rfl⟩ := List.mem_iff_getElem.1 hy
      have := g3 j (by omega) hj
      rw [List.getD_eq_getElem?_getD, List.getElem?_eq_getElem hj] at this
      exact this
    · exact ⟨-1, by simp only [e, obind_some], by omega, fun h => by omega⟩
theorem szBase_ok (hK : 9223372036854775807 < K) (x : (List ((List (Int)) × (List ((List UInt8) × (Int))))) × (List ((List UInt8) × ((Int) × ((Int) × (Bool)))))) (p : Int) (h0 : 0 ≤ p) (h1 : p ≤ 1048576) (hw : Wd (.pair (.sl (.pair (.sl (.int .i64)) (.sl (.pair .str (.int .i64))))) (.sl (.pair .str (.pair (.int .i64) (.pair (.int .i64) .bool))))) x) : ∃ z, R.qcj K x p = some ((z, ()), ()) ∧ z ≤ p ∧ (0 ≤ z → Sm (.pair (.sl (.pair (.sl (.int .i64)) (.sl (.pair .str (.int .i64))))) (.sl (.pair .str (.pair (.int .i64) (.pair (.int .i64) .bool))))) x) := by
  unfold R.qcj
  obtain ⟨z1, e1, l1, s1⟩ := szCommitS_ok hK x.1 p (by omega) (by omega) hw.1
  simp only [e1, obind_some, pair_eta]
  by_cases c1 : z1 < 0
  · simp only [c1, decide_true, cond_true]
    exact ⟨-1, rfl, by omega, fun h => by omega⟩
  simp only [c1, decide_false, cond_false]
  obtain ⟨z2, e2, l2, s2⟩ := szRefS_ok hK x.2 (z1) (by omega) (by omega) hw.2
  simp only [e2, obind_some, pair_eta]
  by_cases c2 : z2 < 0
  · simp only [c2, decide_true, cond_true]
    exact ⟨-1, rfl, by omega, fun h => by omega⟩
  simp only [c2, decide_false, cond_false]
  exact ⟨_, rfl, by omega, fun h => ⟨(s1 (by omega)), (s2 (by omega))⟩⟩
theorem szEdit_ok (hK : 9223372036854775807 < K) (x : (List UInt8) × ((Int) × (Bool))) (p : Int) (h0 : 0 ≤ p) (h1 : p ≤ 1048576) (hw : Wd (.pair .str (.pair (.int .i64) .bool)) x) : ∃ z, R.qcv K x p = some ((z, ()), ()) ∧ z ≤ p ∧ (0 ≤ z → Sm (.pair .str (.pair (.int .i64) .bool)) x) := by
  unfold R.qcv
  have b1 : x.1.length ≤ 9223372036854775807 := hw.1
  have e1 : IntKind.i64.wrap (p - (x.1.length : Int)) = p - (x.1.length : Int) := wrap_id (by omega) (by omega)
  simp only [e1]
  by_cases c1 : p - (x.1.length : Int) < 0
  · simp only [c1, decide_true, cond_true]
    exact ⟨-1, rfl, by omega, fun h => by omega⟩
  simp only [c1, decide_false, cond_false]
  exact ⟨_, rfl, by omega, fun h => ⟨(show x.1.length ≤ 1048576 by omega), ⟨trivial, trivial⟩⟩⟩
theorem szEditS_ok (hK : 9223372036854775807 < K) (x : List ((List UInt8) × ((Int) × (Bool)))) (p : Int) (h0 : 0 ≤ p) (h1 : p ≤ 1048576) (hw : Wd (.sl (.pair .str (.pair (.int .i64) .bool))) x) : ∃ z, R.qbP K x p = some ((z, ()), ()) ∧ z ≤ p ∧ (0 ≤ z → Sm (.sl (.pair .str (.pair (.int .i64) .bool))) x) := by
  have hl : x.length ≤ 9223372036854775807 := hw.1
  have e0 : IntKind.i64.wrap (p - (x.length : Int)) = p - x.length := wrap_id (by omega) (by omega)
  unfold R.qbP
  simp only [e0]
  by_cases c0 : p - (x.length : Int) < 0
  · simp only [c0, decide_true, cond_true]
    exact ⟨-1, rfl, by omega, fun h => by omega⟩
  · simp only [c0, decide_false, cond_false]
    have := sz_loop (L := fun n i p => R.L_qbP_0 K n (x, p, 0, (i : Nat), ())) (len := x.length) (S := fun i => Sm (.pair .str (.pair (.int .i64) .bool)) (x.getD i ([], (0, false)))) (fun n p => by simp only [R.L_qbP_0, idx_end, cond_false]) (fun n i p hi hp hp' => by
      obtain ⟨z, e, l, s⟩ := szEdit_ok hK (x.getD i ([], (0, false))) p hp hp' (hw.2 _ (getD_mem _ hi))
      refine ⟨z, l, s, ?_⟩
      simp only [R.L_qbP_0, idx_lt hi, idx_nn, Bool.and_self, wrap_succ hi hl, Int.toNat_natCast, e, obind_some, cond_true]) x.length 0 K (p - x.length) (by omega) (by omega) (by omega) (by omega)
    have this : (∃ z, R.L_qbP_0 K K (x, p - x.length, 0, 0, ()) = some (.inl (z, 0, ())) ∧ _) ∨ R.L_qbP_0 K K (x, p - x.length, 0, 0, ()) = _ := this
    rcases this with ⟨z, e, g1, g2, g3⟩ | e
    · refine ⟨z, by simp only [e, obind_some], by omega, fun _ => ⟨by omega, fun y hy => ?_⟩⟩
      obtain ⟨j, hj, rfl⟩ := List.mem_iff_getElem.1 hy
      have := g3 j (by omega) hj
      rw [List.getD_eq_getElem?_getD, List.getElem?_eq_getElem hj] at this
      exact this
    · exact ⟨-1, by simp only [e, obind_some], by omega, fun h => by omega⟩
theorem szOp_ok (hK : 9223372036854775807 < K) (x : (Int) × ((Int) × ((List UInt8) × ((List UInt8) × (List ((List UInt8) × ((Int) × (Bool)))))))) (p : Int) (h0 : 0 ≤ p) (h1 : p ≤ 1048576) (hw : Wd (.pair (.int .i64) (.pair (.int .i64) (.pair .str (.pair .str (.sl (.pair .str (.pair (.int .i64) .bool))))))) x) : ∃ z, R.qdh K x p = some ((z, ()), ()) ∧ z ≤ p ∧ (0 ≤ z → Sm (.pair (.int .i64) (.pair (.int .i64) (.pair .str (.pair .str (.sl (.pair .str (.pair (.int .i64) .bool))))))) x) := by
  unfold R.qdh
  have b1 : x.2.2.1.length ≤ 9223372036854775807 := hw.2.2.1
  have e1 : IntKind.i64.wrap (p - (x.2.2.1.length : Int)) = p - (x.2.2.1.length : Int) := wrap_id (by omega) (by omega)
  simp only [e1]
  by_cases c1 : p - (x.2.2.1.length : Int) < 0
  · simp only [c1, decide_true, cond_true]
    exact ⟨-1, rfl, by omega, fun h => by omega⟩
  simp only [c1, decide_false, cond_false]
  have b2 : x.2.2.2.1.length ≤ 9223372036854775807 := hw.2.2.2.1
  have e2 : IntKind.i64.wrap (p - (x.2.2.1.length : Int) - (x.2.2.2.1.length : Int)) = p - (x.2.2.1.length : Int) - (x.2.2.2.1.length : Int) := wrap_id (by omega) (by omega)
  simp only [e2]
  by_cases c2 : p - (x.2.2.1.length : Int) - (x.2.2.2.1.length : Int) < 0
  · simp only [c2, decide_true, cond_true]
    exact ⟨-1, rfl, by omega, fun h => by omega⟩
  simp only [c2, decide_false, cond_false]
  obtain ⟨z3, e3, l3, s3⟩ := szEditS_ok hK x.2.2.2.2 (p - (x.2.2.1.length : Int) - (x.2.2.2.1.length : Int)) (by omega) (by omega) hw.2.2.2.2
  simp only [e3, obind_some, pair_eta]
  by_cases c3 : z3 < 0
  · simp only [c3, decide_true, cond_true]
    exact ⟨-1, rfl, by omega, fun h => by omega⟩
  simp only [c3, decide_false, cond_false]
  exact ⟨_, rfl, by omega, fun h => ⟨trivial, ⟨trivial, ⟨(show x.2.2.1.length ≤ 1048576 by omega), ⟨(show x.2.2.2.1.length ≤ 1048576 by omega), (s3 (by omega))⟩⟩⟩⟩⟩
theorem toIntS_id (hK : 9223372036854775807 < K) (x : List (Int)) (hs : Sm (.sl (.int .i64)) x) : R.qcG K x = some ((x, ()), ()) := by
  have hx : x.length ≤ 268435456 := by have : x.length ≤ 1048576 := hs.1; omega
  have := fill_ok (L := fun n i ys => R.L_qcG_0 K n (x, (i : Nat), [], ys, ())) (len := x.length) (g := fun i => x.getD i 0) (fin := fun ys => Sum.inl ([], ys, ())) (ys0 := (List.replicate x.length 0 : List (Int)))
    (fun n ys hy => by simp only [R.L_qcG_0, idx_end, cond_false])
    (fun n i ys hy hi _ => by
      have hi' : i < ys.length := by omega
      simp only [R.L_qcG_0, wrap_succ hi (by omega), idx_lt hi, idx_lt hi', idx_nn, Bool.and_self, Int.toNat_natCast, obind_some, cond_true]) x.length 0 K (List.replicate x.length 0) (by omega) (by omega) (by simp) (by simp) (by simp)
  have e : (List.range x.length).map (fun i => x.getD i 0) = x := by
    apply List.ext_getElem (by simp)
    intro i h1 h2
    simp [List.getD_eq_getElem?_getD, h2]
  rw [e] at this
  have this : R.L_qcG_0 K K (x, 0, [], List.replicate x.length 0, ()) = some (Sum.inl ([], x, ())) := this
  have hle : (x.length : Int) ≤ 268435456 := by omega
  unfold R.qcG
  simp [hle, this, obind]
theorem toEntryS_id (hK : 9223372036854775807 < K) (x : List ((List UInt8) × (Int))) (hs : Sm (.sl (.pair .str (.int .i64))) x) : R.qbC K x = some ((x, ()), ()) := by
  have hx : x.length ≤ 268435456 := by have : x.length ≤ 1048576 := hs.1; omega
  have := fill_ok (L := fun n i ys => R.L_qbC_0 K n (x, (i : Nat), [], ys, ())) (len := x.length) (g := fun i => x.getD i ([], 0)) (fin := fun ys => Sum.inl ([], ys, ())) (ys0 := (List.replicate x.length ([], 0) : List ((List UInt8) × (Int))))
    (fun n ys hy => by simp only [R.L_qbC_0, idx_end, cond_false])
    (fun n i ys hy hi _ => by
      have hi' : i < ys.length := by omega
      simp only [R.L_qbC_0, wrap_succ hi (by omega), idx_lt hi, idx_lt hi', idx_nn, Bool.and_self, Int.toNat_natCast, obind_some, cond_true]) x.length 0 K (List.replicate x.length ([], 0)) (by omega) (by omega) (by simp) (by simp) (by simp)
  have e : (List.range x.length).map (fun i => x.getD i ([], 0)) = x := by
    apply List.ext_getElem (by simp)
    intro i h1 h2
    simp [List.getD_eq_getElem?_getD, h2]
  rw [e] at this
  have this : R.L_qbC_0 K K (x, 0, [], List.replicate x.length ([], 0), ()) = some (Sum.inl ([], x, ())) := this
  have hle : (x.length : Int) ≤ 268435456 := by omega
  unfold R.qbC
  simp [hle, this, obind]
theorem toCommit_id (hK : 9223372036854775807 < K) (x : (List (Int)) × (List ((List UInt8) × (Int)))) (hs : Sm (.pair (.sl (.int .i64)) (.sl (.pair .str (.int .i64)))) x) : R.qbt K x = some ((x, ()), ()) := by
  unfold R.qbt
  try simp only [toIntS_id hK x.1 hs.1, toEntryS_id hK x.2 hs.2, obind_some, pair_eta]
  try rfl
theorem toCommitS_id (hK : 9223372036854775807 < K) (x : List ((List (Int)) × (List ((List UInt8) × (Int))))) (hs : Sm (.sl (.pair (.sl (.int .i64)) (.sl (.pair .str (.int .i64))))) x) : R.qbf K x = some ((x, ()), ()) := by
  have hx : x.length ≤ 268435456 := by have : x.length ≤ 1048576 := hs.1; omega
  have := fill_ok (L := fun n i ys => R.L_qbf_0 K n (x, (i : Nat), [], ys, ())) (len := x.length) (g := fun i => x.getD i ([], [])) (fin := fun ys => Sum.inl ([], ys, ())) (ys0 := (List.replicate x.length ([], []) : List ((List (Int)) × (List ((List UInt8) × (Int))))))
    (fun n ys hy => by simp only [R.L_qbf_0, idx_end, cond_false])
    (fun n i ys hy hi _ => by
      have hi' : i < ys.length := by omega
      simp only [R.L_qbf_0, wrap_succ hi (by omega), idx_lt hi, idx_lt hi', idx_nn, Bool.and_self, Int.toNat_natCast, obind_some, cond_true, toCommit_id hK (x.getD i ([], [])) (hs.2 _ (getD_mem _ hi))]) x.length 0 K (List.replicate x.length ([], [])) (by omega) (by omega) (by simp) (by simp) (by simp)
  have e : (List.range x.length).map (fun i => x.getD i ([], [])) = x := by
    apply List.ext_getElem (by simp)
    intro i h1 h2
    simp [List.getD_eq_getElem?_getD, h2]
  rw [e] at this
  have this : R.L_qbf_0 K K (x, 0, [], List.replicate x.length ([], []), ()) = some (Sum.inl ([], x, ())) := this
  have hle : (x.length : Int) ≤ 268435456 := by omega
  unfold R.qbf
  simp [hle, this, obind]
theorem toRefS_id (hK : 9223372036854775807 < K) (x : List ((List UInt8) × ((Int) × ((Int) × (Bool))))) (hs : Sm (.sl (.pair .str (.pair (.int .i64) (.pair (.int .i64) .bool)))) x) : R.qcr K x = some ((x, ()), ()) := by
  have hx : x.length ≤ 268435456 := by have : x.length ≤ 1048576 := hs.1; omega
  have := fill_ok (L := fun n i ys => R.L_qcr_0 K n (x, (i : Nat), [], ys, ())) (len := x.length) (g := fun i => x.getD i ([], (0, (0, false)))) (fin := fun ys => Sum.inl ([], ys, ())) (ys0 := (List.replicate x.length ([], (0, (0, false))) : List ((List UInt8) × ((Int) × ((Int) × (Bool))))))
    (fun n ys hy => by simp only [R.L_qcr_0, idx_end, cond_false])
    (fun n i ys hy hi _ => by
      have hi' : i < ys.length := by omega
      simp only [R.L_qcr_0, wrap_succ hi (by omega), idx_lt hi, idx_lt hi', idx_nn, Bool.and_self, Int.toNat_natCast, obind_some, cond_true]) x.length 0 K (List.replicate x.length ([], (0, (0, false)))) (by omega) (by omega) (by simp) (by simp) (by simp)
  have e : (List.range x.length).map (fun i => x.getD i ([], (0, (0, false)))) = x := by
    apply List.ext_getElem (by simp)
    intro i h1 h2
    simp [List.getD_eq_getElem?_getD, h2]
  rw [e] at this
  have this : R.L_qcr_0 K K (x, 0, [], List.replicate x.length ([], (0, (0, false))), ()) = some (Sum.inl ([], x, ())) := this
  have hle : (x.length : Int) ≤ 268435456 := by omega
  unfold R.qcr
  simp [hle, this, obind]
theorem toBase_id (hK : 9223372036854775807 < K) (x : (List ((List (Int)) × (List ((List UInt8) × (Int))))) × (List ((List UInt8) × ((Int) × ((Int) × (Bool)))))) (hs : Sm (.pair (.sl (.pair (.sl (.int .i64)) (.sl (.pair .str (.int .i64))))) (.sl (.pair .str (.pair (.int .i64) (.pair (.int .i64) .bool))))) x) : R.qco K x = some ((x, ()), ()) := by
  unfold R.qco
  try simp only [toCommitS_id hK x.1 hs.1, toRefS_id hK x.2 hs.2, obind_some, pair_eta]
  try rfl
theorem toEditS_id (hK : 9223372036854775807 < K) (x : List ((List UInt8) × ((Int) × (Bool)))) (hs : Sm (.sl (.pair .str (.pair (.int .i64) .bool))) x) : R.qca K x = some ((x, ()), ()) := by
  have hx : x.length ≤ 268435456 := by have : x.length ≤ 1048576 := hs.1; omega
  have := fill_ok (L := fun n i ys => R.L_qca_0 K n (x, (i : Nat), [], ys, ())) (len := x.length) (g := fun i => x.getD i ([], (0, false))) (fin := fun ys => Sum.inl ([], ys, ())) (ys0 := (List.replicate x.length ([], (0, false)) : List ((List UInt8) × ((Int) × (Bool)))))
    (fun n ys hy => by simp only [R.L_qca_0, idx_end, cond_false])
    (fun n i ys hy hi _ => by
      have hi' : i < ys.length := by omega
      simp only [R.L_qca_0, wrap_succ hi (by omega), idx_lt hi, idx_lt hi', idx_nn, Bool.and_self, Int.toNat_natCast, obind_some, cond_true]) x.length 0 K (List.replicate x.length ([], (0, false))) (by omega) (by omega) (by simp) (by simp) (by simp)
  have e : (List.range x.length).map (fun i => x.getD i ([], (0, false))) = x := by
    apply List.ext_getElem (by simp)
    intro i h1 h2
    simp [List.getD_eq_getElem?_getD, h2]
  rw [e] at this
  have this : R.L_qca_0 K K (x, 0, [], List.replicate x.length ([], (0, false)), ()) = some (Sum.inl ([], x, ())) := this
  have hle : (x.length : Int) ≤ 268435456 := by omega
  unfold R.qca
  simp [hle, this, obind]
theorem toOp_id (hK : 9223372036854775807 < K) (x : (Int) × ((Int) × ((List UInt8) × ((List UInt8) × (List ((List UInt8) × ((Int) × (Bool)))))))) (hs : Sm (.pair (.int .i64) (.pair (.int .i64) (.pair .str (.pair .str (.sl (.pair .str (.pair (.int .i64) .bool))))))) x) : R.qdg K x = some ((x, ()), ()) := by
  unfold R.qdg
  try simp only [toEditS_id hK x.2.2.2.2 hs.2.2.2.2, obind_some, pair_eta]
  try rfl
theorem eqIntS_id (hK : 9223372036854775807 < K) (x : List (Int)) (hs : Sm (.sl (.int .i64)) x) : R.qcg K x x = some ((true, ()), ()) := by
  have hx : x.length ≤ 9223372036854775807 := by have : x.length ≤ 1048576 := hs.1; omega
  have := all_ok (L := fun n i => R.L_qcg_0 K n (x, x, false, (i : Nat), ())) (len := x.length) (p := fun _ => true) (t := Sum.inl (false, ())) (f := Sum.inr (false, ()))
    (fun n => by simp only [R.L_qcg_0, idx_end, cond_false]) (fun n i hi => by
      simp only [R.L_qcg_0, wrap_succ hi hx, idx_lt hi, idx_nn, Bool.and_self, Int.toNat_natCast, obind_some, cond_true, cond_false, Bool.not_true, bne_self_eq_false, beq_self_eq_true]) x.length 0 K (by omega) (by omega)
  have this : R.L_qcg_0 K K (x, x, false, 0, ()) = some (Sum.inl (false, ())) := by simpa [all_true] using this
  unfold R.qcg
  simp [this, obind]
theorem eqEntry_id (hK : 9223372036854775807 < K) (x : (List UInt8) × (Int)) (hs : Sm (.pair .str (.int .i64)) x) : R.qbQ K x x = some ((true, ()), ()) := by
  unfold R.qbQ
  simp [obind_some, pair_eta]
theorem eqEntryS_id (hK : 9223372036854775807 < K) (x : List ((List UInt8) × (Int))) (hs : Sm (.sl (.pair .str (.int .i64))) x) : R.qbn K x x = some ((true, ()), ()) := by
  have hx : x.length ≤ 9223372036854775807 := by have : x.length ≤ 1048576 := hs.1; omega
  have := all_ok (L := fun n i => R.L_qbn_0 K n (x, x, false, (i : Nat), ())) (len := x.length) (p := fun _ => true) (t := Sum.inl (false, ())) (f := Sum.inr (false, ()))
    (fun n => by simp only [R.L_qbn_0, idx_end, cond_false]) (fun n i hi => by
      simp only [R.L_qbn_0, wrap_succ hi hx, idx_lt hi, idx_nn, Bool.and_self, Int.toNat_natCast, obind_some, cond_true, cond_false, Bool.not_true, bne_self_eq_false, beq_self_eq_true, eqEntry_id hK (x.getD i ([], 0)) (hs.2 _ (getD_mem _ hi))]) x.length 0 K (by omega) (by omega)
  have this : R.L_qbn_0 K K (x, x, false, 0, ()) = some (Sum.inl (false, ())) := by simpa [all_true] using this
  unfold R.qbn
  simp [this, obind]
theorem eqCommit_id (hK : 9223372036854775807 < K) (x : (List (Int)) × (List ((List UInt8) × (Int)))) (hs : Sm (.pair (.sl (.int .i64)) (.sl (.pair .str (.int .i64)))) x) : R.qbw K x x = some ((true, ()), ()) := by
  unfold R.qbw
  simp [eqIntS_id hK x.1 hs.1, eqEntryS_id hK x.2 hs.2, obind_some, pair_eta]
theorem eqCommitS_id (hK : 9223372036854775807 < K) (x : List ((List (Int)) × (List ((List UInt8) × (Int))))) (hs : Sm (.sl (.pair (.sl (.int .i64)) (.sl (.pair .str (.int .i64))))) x) : R.qbc K x x = some ((true, ()), ()) := by
  have hx : x.length ≤ 9223372036854775807 := by have : x.length ≤ 1048576 := hs.1; omega
  have := all_ok (L := fun n i => R.L_qbc_0 K n (x, x, false, (i : Nat), ())) (len := x.length) (p := fun _ => true) (t := Sum.inl (false, ())) (f := Sum.inr (false, ()))
    (fun n => by simp only [R.L_qbc_0, idx_end, cond_false]) (fun n i hi => by
      simp only [R.L_qbc_0, wrap_succ hi hx, idx_lt hi, idx_nn, Bool.and_self, Int.toNat_natCast, obind_some, cond_true, cond_false, Bool.not_true, bne_self_eq_false, beq_self_eq_true, eqCommit_id hK (x.getD i ([], [])) (hs.2 _ (getD_mem _ hi))]) x.length 0 K (by omega) (by omega)
  have this : R.L_qbc_0 K K (x, x, false, 0, ()) = some (Sum.inl (false, ())) := by simpa [all_true] using this
  unfold R.qbc
  simp [this, obind]
theorem eqRef_id (hK : 9223372036854775807 < K) (x : (List UInt8) × ((Int) × ((Int) × (Bool)))) (hs : Sm (.pair .str (.pair (.int .i64) (.pair (.int .i64) .bool))) x) : R.qcP K x x = some ((true, ()), ()) := by
  unfold R.qcP
  simp [obind_some, pair_eta]
theorem eqRefS_id (hK : 9223372036854775807 < K) (x : List ((List UInt8) × ((Int) × ((Int) × (Bool))))) (hs : Sm (.sl (.pair .str (.pair (.int .i64) (.pair (.int .i64) .bool)))) x) : R.qcF K x x = some ((true, ()), ()) := by
  have hx : x.length ≤ 9223372036854775807 := by have : x.length ≤ 1048576 := hs.1; omega
  have := all_ok (L := fun n i => R.L_qcF_0 K n (x, x, false, (i : Nat), ())) (len := x.length) (p := fun _ => true) (t := Sum.inl (false, ())) (f := Sum.inr (false, ()))
    (fun n => by simp only [R.L_qcF_0, idx_end, cond_false]) (fun n i hi => by
      simp only [R.L_qcF_0, wrap_succ hi hx, idx_lt hi, idx_nn, Bool.and_self, Int.toNat_natCast, obind_some, cond_true, cond_false, Bool.not_true, bne_self_eq_false, beq_self_eq_true, eqRef_id hK (x.getD i ([], (0, (0, false)))) (hs.2 _ (getD_mem _ hi))]) x.length 0 K (by omega) (by omega)
  have this : R.L_qcF_0 K K (x, x, false, 0, ()) = some (Sum.inl (false, ())) := by simpa [all_true] using this
  unfold R.qcF
  simp [this, obind]
theorem eqBase_id (hK : 9223372036854775807 < K) (x : (List ((List (Int)) × (List ((List UInt8) × (Int))))) × (List ((List UInt8) × ((Int) × ((Int) × (Bool)))))) (hs : Sm (.pair (.sl (.pair (.sl (.int .i64)) (.sl (.pair .str (.int .i64))))) (.sl (.pair .str (.pair (.int .i64) (.pair (.int .i64) .bool))))) x) : R.qcA K x x = some ((true, ()), ()) := by
  unfold R.qcA
  simp [eqCommitS_id hK x.1 hs.1, eqRefS_id hK x.2 hs.2, obind_some, pair_eta]
theorem eqStringS_id (hK : 9223372036854775807 < K) (x : List (List UInt8)) (hs : Sm (.sl .str) x) : R.qba K x x = some ((true, ()), ()) := by
  have hx : x.length ≤ 9223372036854775807 := by have : x.length ≤ 1048576 := hs.1; omega
  have := all_ok (L := fun n i => R.L_qba_0 K n (x, x, false, (i : Nat), ())) (len := x.length) (p := fun _ => true) (t := Sum.inl (false, ())) (f := Sum.inr (false, ()))
    (fun n => by simp only [R.L_qba_0, idx_end, cond_false]) (fun n i hi => by
      simp only [R.L_qba_0, wrap_succ hi hx, idx_lt hi, idx_nn, Bool.and_self, Int.toNat_natCast, obind_some, cond_true, cond_false, Bool.not_true, bne_self_eq_false, beq_self_eq_true]) x.length 0 K (by omega) (by omega)
  have this : R.L_qba_0 K K (x, x, false, 0, ()) = some (Sum.inl (false, ())) := by simpa [all_true] using this
  unfold R.qba
  simp [this, obind]
theorem eqResult_id (hK : 9223372036854775807 < K) (x : (Int) × ((Int) × ((Int) × ((List (List UInt8)) × (List ((List UInt8) × (Int))))))) (hs : Sm (.pair (.int .i64) (.pair (.int .i64) (.pair (.int .i64) (.pair (.sl .str) (.sl (.pair .str (.int .i64))))))) x) : R.qbs K x x = some ((true, ()), ()) := by
  unfold R.qbs
  simp [eqStringS_id hK x.2.2.2.1 hs.2.2.2.1, eqEntryS_id hK x.2.2.2.2 hs.2.2.2.2, obind_some, pair_eta]
theorem eqEdit_id (hK : 9223372036854775807 < K) (x : (List UInt8) × ((Int) × (Bool))) (hs : Sm (.pair .str (.pair (.int .i64) .bool)) x) : R.qcn K x x = some ((true, ()), ()) := by
  unfold R.qcn
  simp [obind_some, pair_eta]
theorem eqEditS_id (hK : 9223372036854775807 < K) (x : List ((List UInt8) × ((Int) × (Bool)))) (hs : Sm (.sl (.pair .str (.pair (.int .i64) .bool))) x) : R.qbL K x x = some ((true, ()), ()) := by
  have hx : x.length ≤ 9223372036854775807 := by have : x.length ≤ 1048576 := hs.1; omega
  have := all_ok (L := fun n i => R.L_qbL_0 K n (x, x, false, (i : Nat), ())) (len := x.length) (p := fun _ => true) (t := Sum.inl (false, ())) (f := Sum.inr (false, ()))
    (fun n => by simp only [R.L_qbL_0, idx_end, cond_false]) (fun n i hi => by
      simp only [R.L_qbL_0, wrap_succ hi hx, idx_lt hi, idx_nn, Bool.and_self, Int.toNat_natCast, obind_some, cond_true, cond_false, Bool.not_true, bne_self_eq_false, beq_self_eq_true, eqEdit_id hK (x.getD i ([], (0, false))) (hs.2 _ (getD_mem _ hi))]) x.length 0 K (by omega) (by omega)
  have this : R.L_qbL_0 K K (x, x, false, 0, ()) = some (Sum.inl (false, ())) := by simpa [all_true] using this
  unfold R.qbL
  simp [this, obind]
theorem eqOp_id (hK : 9223372036854775807 < K) (x : (Int) × ((Int) × ((List UInt8) × ((List UInt8) × (List ((List UInt8) × ((Int) × (Bool)))))))) (hs : Sm (.pair (.int .i64) (.pair (.int .i64) (.pair .str (.pair .str (.sl (.pair .str (.pair (.int .i64) .bool))))))) x) : R.qcZ K x x = some ((true, ()), ()) := by
  unfold R.qcZ
  simp [eqEditS_id hK x.2.2.2.2 hs.2.2.2.2, obind_some, pair_eta]

-- key IntS go
theorem markIntS_go (hK : 9223372036854775807 < K) (x : List (Int)) (hs : Sm (.sl (.int .i64)) x) (k : Int) (h0 : 0 ≤ k) (h1 : k + 1048576 ≤ 9223372036854775807) :
    ∃ k' y, R.qbj K x k = some ((k', ()), (y, ())) ∧ k ≤ k' ∧ k' ≤ k + 1048576 := by
  have hl : x.length ≤ 1048576 := hs.1
  have ml := mark_loop (d := 0) (L := fun n i k xs => R.L_qbj_0 K n (k, 0, (i : Nat), xs, ())) (len := x.length) (fin := fun k ys => (Sum.inl (k, 0, ys, ()))) (c := 1) (B := 9223372036854775807) (H := fun _ _ _ => True) (Good := Sm (.int .i64)) (by omega)
    (fun n k xs hx => by simp only [R.L_qbj_0, hx, idx_end, cond_false]) (fun n i k xs hi hx h0 h1 hs => by
      have hi' : i < xs.length := by omega
      generalize ee : xs.getD i 0 = e at hs
      have w1 : IntKind.i64.wrap (k + 1) = k + 1 := wrap_id (by omega) (by omega)
      refine ⟨k + 1, k, by omega, by omega, trivial, ?_⟩
      · simp only [R.L_qbj_0, idx_lt hi', idx_nn, Bool.and_self, Int.toNat_natCast, cond_true, cond_false, ee, w1, obind_some, wrap_succ hi' (by omega : xs.length ≤ 9223372036854775807), List.length_set, List.set_set, getD_set hi', nbeq, bleC, Nat.reduceAdd, Nat.reduceLeDiff])
    x.length 0 K k x (by omega) (by omega) rfl h0 (by omega) (fun j _ hj => hs.2 _ (getD_mem _ hj))
  obtain ⟨k', ys, e, g1, g2, g3, _, g5⟩ := ml
  have e : R.L_qbj_0 K K (k, 0, 0, x, ()) = some (Sum.inl (k', 0, ys, ())) := e
  refine ⟨k', ys, ?_, g1, by omega⟩
  · simp only [R.qbj, e, obind_some]

-- key IntS ok
def HIntS (K : Nat) (k : Int) (y : Int) (k' : Int) : Prop := ∀ (n i : Nat) (xs : List (Int)), i < xs.length → xs.length ≤ 9223372036854775807 → xs.getD i 0 = y → R.L_qbr_0 K (n + 1) (xs, k, 0, (i : Nat), ()) = R.L_qbr_0 K n (xs, k', 0, ((i + 1 : Nat) : Int), ())
theorem markIntS_ok (hK : 9223372036854775807 < K) (x : List (Int)) (hs : Sm (.sl (.int .i64)) x) (k : Int) (h0 : 0 ≤ k) (h1 : k + 1048576 ≤ 9223372036854775807) :
    ∃ k' y, R.qbj K x k = some ((k', ()), (y, ())) ∧ k ≤ k' ∧ k' ≤ k + 1048576 ∧ R.qbr K y k = some ((k', ()), ()) := by
  have hl : x.length ≤ 1048576 := hs.1
  have ml := mark_loop (d := 0) (L := fun n i k xs => R.L_qbj_0 K n (k, 0, (i : Nat), xs, ())) (len := x.length) (fin := fun k ys => (Sum.inl (k, 0, ys, ()))) (c := 1) (B := 9223372036854775807) (H := HIntS K) (Good := Sm (.int .i64)) (by omega)
    (fun n k xs hx => by simp only [R.L_qbj_0, hx, idx_end, cond_false]) (fun n i k xs hi hx h0 h1 hs => by
      have hi' : i < xs.length := by omega
      generalize ee : xs.getD i 0 = e at hs
      have w1 : IntKind.i64.wrap (k + 1) = k + 1 := wrap_id (by omega) (by omega)
      refine ⟨k + 1, k, by omega, by omega, fun n j ys hj hy ey => ?_, ?_⟩
      · simp only [R.L_qbr_0, idx_lt hj, idx_nn, Bool.and_self, Int.toNat_natCast, cond_true, cond_false, ey, w1, obind_some, wrap_succ hj hy, bne_self_eq_false, beq_self_eq_true, Bool.not_true, nbeq]
      · simp only [R.L_qbj_0, idx_lt hi', idx_nn, Bool.and_self, Int.toNat_natCast, cond_true, cond_false, ee, w1, obind_some, wrap_succ hi' (by omega : xs.length ≤ 9223372036854775807), List.length_set, List.set_set, getD_set hi', nbeq, bleC, Nat.reduceAdd, Nat.reduceLeDiff])
    x.length 0 K k x (by omega) (by omega) rfl h0 (by omega) (fun j _ hj => hs.2 _ (getD_mem _ hj))
  obtain ⟨k', ys, e, g1, g2, g3, _, g5⟩ := ml
  have e : R.L_qbj_0 K K (k, 0, 0, x, ()) = some (Sum.inl (k', 0, ys, ())) := e
  have hd := held_loop (d := 0) (ys := ys) (L := fun n i k => R.L_qbr_0 K n (ys, k, 0, (i : Nat), ())) (len := x.length) (fin := fun k => (Sum.inl (k, 0, ()))) (H := HIntS K)
    (fun n k => by rw [← g3]; simp only [R.L_qbr_0, idx_end, cond_false]) (fun n i k k' hi h => h n i ys (by omega) (by omega) rfl) x.length 0 K k k' (by omega) (by omega) g5
  have hd : R.L_qbr_0 K K (ys, k, 0, 0, ()) = some (Sum.inl (k', 0, ())) := hd
  refine ⟨k', ys, ?_, g1, by omega, ?_⟩
  · simp only [R.qbj, e, obind_some]
  · simp only [R.qbr, hd, obind_some]

-- key EntryS go
theorem markEntryS_go (hK : 9223372036854775807 < K) (x : List ((List UInt8) × (Int))) (hs : Sm (.sl (.pair .str (.int .i64))) x) (k : Int) (h0 : 0 ≤ k) (h1 : k + 2097152 ≤ 9223372036854775807) :
    ∃ k' y, R.qaR K x k = some ((k', ()), (y, ())) ∧ k ≤ k' ∧ k' ≤ k + 2097152 := by
  have hl : x.length ≤ 1048576 := hs.1
  have ml := mark_loop (d := ([], 0)) (L := fun n i k xs => R.L_qaR_0 K n (k, 0, (i : Nat), xs, ())) (len := x.length) (fin := fun k ys => (Sum.inl (k, 0, ys, ()))) (c := 2) (B := 9223372036854775807) (H := fun _ _ _ => True) (Good := Sm (.pair .str (.int .i64))) (by omega)
    (fun n k xs hx => by simp only [R.L_qaR_0, hx, idx_end, cond_false]) (fun n i k xs hi hx h0 h1 hs => by
      have hi' : i < xs.length := by omega
      generalize ee : xs.getD i ([], 0) = e at hs
      obtain ⟨t1, e1⟩ := markText_ok hK (k) (by omega) (by omega)
      have w2 : IntKind.i64.wrap (k + 1) = k + 1 := wrap_id (by omega) (by omega)
      have w3 : IntKind.i64.wrap (k + 1 + 1) = k + 1 + 1 := wrap_id (by omega) (by omega)
      refine ⟨k + 1 + 1, (t1, k + 1), by omega, by omega, trivial, ?_⟩
      · simp only [R.L_qaR_0, idx_lt hi', idx_nn, Bool.and_self, Int.toNat_natCast, cond_true, cond_false, ee, e1, w2, w3, obind_some, wrap_succ hi' (by omega : xs.length ≤ 9223372036854775807), List.length_set, List.set_set, getD_set hi', nbeq, bleC, Nat.reduceAdd, Nat.reduceLeDiff])
    x.length 0 K k x (by omega) (by omega) rfl h0 (by omega) (fun j _ hj => hs.2 _ (getD_mem _ hj))
  obtain ⟨k', ys, e, g1, g2, g3, _, g5⟩ := ml
  have e : R.L_qaR_0 K K (k, 0, 0, x, ()) = some (Sum.inl (k', 0, ys, ())) := e
  refine ⟨k', ys, ?_, g1, by omega⟩
  · simp only [R.qaR, e, obind_some]

-- key EntryS ok
def HEntryS (K : Nat) (k : Int) (y : (List UInt8) × (Int)) (k' : Int) : Prop := ∀ (n i : Nat) (xs : List ((List UInt8) × (Int))), i < xs.length → xs.length ≤ 9223372036854775807 → xs.getD i ([], 0) = y → R.L_qaS_0 K (n + 1) (xs, k, 0, (i : Nat), ()) = R.L_qaS_0 K n (xs, k', 0, ((i + 1 : Nat) : Int), ())
theorem markEntryS_ok (hK : 9223372036854775807 < K) (x : List ((List UInt8) × (Int))) (hs : Sm (.sl (.pair .str (.int .i64))) x) (k : Int) (h0 : 0 ≤ k) (h1 : k + 2097152 ≤ 9223372036854775807) :
    ∃ k' y, R.qaR K x k = some ((k', ()), (y, ())) ∧ k ≤ k' ∧ k' ≤ k + 2097152 ∧ R.qaS K y k = some ((k', ()), ()) := by
  have hl : x.length ≤ 1048576 := hs.1
  have ml := mark_loop (d := ([], 0)) (L := fun n i k xs => R.L_qaR_0 K n (k, 0, (i : Nat), xs, ())) (len := x.length) (fin := fun k ys => (Sum.inl (k, 0, ys, ()))) (c := 2) (B := 9223372036854775807) (H := HEntryS K) (Good := Sm (.pair .str (.int .i64))) (by omega)
    (fun n k xs hx => by simp only [R.L_qaR_0, hx, idx_end, cond_false]) (fun n i k xs hi hx h0 h1 hs => by
      have hi' : i < xs.length := by omega
      generalize ee : xs.getD i ([], 0) = e at hs
      obtain ⟨t1, e1⟩ := markText_ok hK (k) (by omega) (by omega)
      have w2 : IntKind.i64.wrap (k + 1) = k + 1 := wrap_id (by omega) (by omega)
      have w3 : IntKind.i64.wrap (k + 1 + 1) = k + 1 + 1 := wrap_id (by omega) (by omega)
      refine ⟨k + 1 + 1, (t1, k + 1), by omega, by omega, fun n j ys hj hy ey => ?_, ?_⟩
      · simp only [R.L_qaS_0, idx_lt hj, idx_nn, Bool.and_self, Int.toNat_natCast, cond_true, cond_false, ey, e1, w2, w3, obind_some, wrap_succ hj hy, bne_self_eq_false, beq_self_eq_true, Bool.not_true, nbeq]
      · simp only [R.L_qaR_0, idx_lt hi', idx_nn, Bool.and_self, Int.toNat_natCast, cond_true, cond_false, ee, e1, w2, w3, obind_some, wrap_succ hi' (by omega : xs.length ≤ 9223372036854775807), List.length_set, List.set_set, getD_set hi', nbeq, bleC, Nat.reduceAdd, Nat.reduceLeDiff])
    x.length 0 K k x (by omega) (by omega) rfl h0 (by omega) (fun j _ hj => hs.2 _ (getD_mem _ hj))
  obtain ⟨k', ys, e, g1, g2, g3, _, g5⟩ := ml
  have e : R.L_qaR_0 K K (k, 0, 0, x, ()) = some (Sum.inl (k', 0, ys, ())) := e
  have hd := held_loop (d := ([], 0)) (ys := ys) (L := fun n i k => R.L_qaS_0 K n (ys, k, 0, (i : Nat), ())) (len := x.length) (fin := fun k => (Sum.inl (k, 0, ()))) (H := HEntryS K)
    (fun n k => by rw [← g3]; simp only [R.L_qaS_0, idx_end, cond_false]) (fun n i k k' hi h => h n i ys (by omega) (by omega) rfl) x.length 0 K k k' (by omega) (by omega) g5
  have hd : R.L_qaS_0 K K (ys, k, 0, 0, ()) = some (Sum.inl (k', 0, ())) := hd
  refine ⟨k', ys, ?_, g1, by omega, ?_⟩
  · simp only [R.qaR, e, obind_some]
  · simp only [R.qaS, hd, obind_some]

-- key CommitS go
theorem markCommitS_go (hK : 9223372036854775807 < K) (x : List ((List (Int)) × (List ((List UInt8) × (Int))))) (hs : Sm (.sl (.pair (.sl (.int .i64)) (.sl (.pair .str (.int .i64))))) x) (k : Int) (h0 : 0 ≤ k) (h1 : k + 3298534883328 ≤ 9223372036854775807) :
    ∃ k' y, R.qaK K x k = some ((k', ()), (y, ())) ∧ k ≤ k' ∧ k' ≤ k + 3298534883328 := by
  have hl : x.length ≤ 1048576 := hs.1
  have ml := mark_loop (d := ([], [])) (L := fun n i k xs => R.L_qaK_0 K n (k, 0, (i : Nat), xs, ())) (len := x.length) (fin := fun k ys => (Sum.inl (k, 0, ys, ()))) (c := 3145728) (B := 9223372036854775807) (H := fun _ _ _ => True) (Good := Sm (.pair (.sl (.int .i64)) (.sl (.pair .str (.int .i64))))) (by omega)
    (fun n k xs hx => by simp only [R.L_qaK_0, hx, idx_end, cond_false]) (fun n i k xs hi hx h0 h1 hs => by
      have hi' : i < xs.length := by omega
      generalize ee : xs.getD i ([], []) = e at hs
      obtain ⟨k1, y1, m1, a1, b1⟩ := markIntS_go hK e.1 hs.1 (k) (by omega) (by omega)
      have z1 := lt0 (show 0 ≤ k1 by omega)
      obtain ⟨k2, y2, m2, a2, b2⟩ := markEntryS_go hK e.2 hs.2 (k1) (by omega) (by omega)
      have z2 := lt0 (show 0 ≤ k2 by omega)
      refine ⟨k2, (y1, y2), by omega, by omega, trivial, ?_⟩
      · simp only [R.L_qaK_0, idx_lt hi', idx_nn, Bool.and_self, Int.toNat_natCast, cond_true, cond_false, ee, m1, z1, m2, z2, obind_some, wrap_succ hi' (by omega : xs.length ≤ 9223372036854775807), List.length_set, List.set_set, getD_set hi', nbeq, bleC, Nat.reduceAdd, Nat.reduceLeDiff])
    x.length 0 K k x (by omega) (by omega) rfl h0 (by omega) (fun j _ hj => hs.2 _ (getD_mem _ hj))
  obtain ⟨k', ys, e, g1, g2, g3, _, g5⟩ := ml
  have e : R.L_qaK_0 K K (k, 0, 0, x, ()) = some (Sum.inl (k', 0, ys, ())) := e
  refine ⟨k', ys, ?_, g1, by omega⟩
  · simp only [R.qaK, e, obind_some]

-- key CommitS ok
def HCommitS (K : Nat) (k : Int) (y : (List (Int)) × (List ((List UInt8) × (Int)))) (k' : Int) : Prop := ∀ (n i : Nat) (xs : List ((List (Int)) × (List ((List UInt8) × (Int))))), i < xs.length → xs.length ≤ 9223372036854775807 → xs.getD i ([], []) = y → R.L_qaI_0 K (n + 1) (xs, k, 0, (i : Nat), ()) = R.L_qaI_0 K n (xs, k', 0, ((i + 1 : Nat) : Int), ())
theorem markCommitS_ok (hK : 9223372036854775807 < K) (x : List ((List (Int)) × (List ((List UInt8) × (Int))))) (hs : Sm (.sl (.pair (.sl (.int .i64)) (.sl (.pair .str (.int .i64))))) x) (k : Int) (h0 : 0 ≤ k) (h1 : k + 3298534883328 ≤ 9223372036854775807) :
    ∃ k' y, R.qaK K x k = some ((k', ()), (y, ())) ∧ k ≤ k' ∧ k' ≤ k + 3298534883328 ∧ R.qaI K y k = some ((k', ()), ()) := by
  have hl : x.length ≤ 1048576 := hs.1
  have ml := mark_loop (d := ([], [])) (L := fun n i k xs => R.L_qaK_0 K n (k, 0, (i : Nat), xs, ())) (len := x.length) (fin := fun k ys => (Sum.inl (k, 0, ys, ()))) (c := 3145728) (B := 9223372036854775807) (H := HCommitS K) (Good := Sm (.pair (.sl (.int .i64)) (.sl (.pair .str (.int .i64))))) (by omega)
    (fun n k xs hx => by simp only [R.L_qaK_0, hx, idx_end, cond_false]) (fun n i k xs hi hx h0 h1 hs => by
      have hi' : i < xs.length := by omega
      generalize ee : xs.getD i ([], []) = e at hs
      obtain ⟨k1, y1, m1, a1, b1, u1⟩ := markIntS_ok hK e.1 hs.1 (k) (by omega) (by omega)
      have z1 := lt0 (show 0 ≤ k1 by omega)
      obtain ⟨k2, y2, m2, a2, b2, u2⟩ := markEntryS_ok hK e.2 hs.2 (k1) (by omega) (by omega)
      have z2 := lt0 (show 0 ≤ k2 by omega)
      refine ⟨k2, (y1, y2), by omega, by omega, fun n j ys hj hy ey => ?_, ?_⟩
      · simp only [R.L_qaI_0, idx_lt hj, idx_nn, Bool.and_self, Int.toNat_natCast, cond_true, cond_false, ey, m1, u1, z1, m2, u2, z2, obind_some, wrap_succ hj hy, bne_self_eq_false, beq_self_eq_true, Bool.not_true, nbeq]
      · simp only [R.L_qaK_0, idx_lt hi', idx_nn, Bool.and_self, Int.toNat_natCast, cond_true, cond_false, ee, m1, u1, z1, m2, u2, z2, obind_some, wrap_succ hi' (by omega : xs.length ≤ 9223372036854775807), List.length_set, List.set_set, getD_set hi', nbeq, bleC, Nat.reduceAdd, Nat.reduceLeDiff])
    x.length 0 K k x (by omega) (by omega) rfl h0 (by omega) (fun j _ hj => hs.2 _ (getD_mem _ hj))
  obtain ⟨k', ys, e, g1, g2, g3, _, g5⟩ := ml
  have e : R.L_qaK_0 K K (k, 0, 0, x, ()) = some (Sum.inl (k', 0, ys, ())) := e
  have hd := held_loop (d := ([], [])) (ys := ys) (L := fun n i k => R.L_qaI_0 K n (ys, k, 0, (i : Nat), ())) (len := x.length) (fin := fun k => (Sum.inl (k, 0, ()))) (H := HCommitS K)
    (fun n k => by rw [← g3]; simp only [R.L_qaI_0, idx_end, cond_false]) (fun n i k k' hi h => h n i ys (by omega) (by omega) rfl) x.length 0 K k k' (by omega) (by omega) g5
  have hd : R.L_qaI_0 K K (ys, k, 0, 0, ()) = some (Sum.inl (k', 0, ())) := hd
  refine ⟨k', ys, ?_, g1, by omega, ?_⟩
  · simp only [R.qaK, e, obind_some]
  · simp only [R.qaI, hd, obind_some]

-- key RefS go
theorem markRefS_go (hK : 9223372036854775807 < K) (x : List ((List UInt8) × ((Int) × ((Int) × (Bool))))) (hs : Sm (.sl (.pair .str (.pair (.int .i64) (.pair (.int .i64) .bool)))) x) (k : Int) (h0 : 0 ≤ k) (h1 : k + 4194304 ≤ 9223372036854775807) :
    ∃ k' y, R.qbz K x k = some ((k', ()), (y, ())) ∧ k ≤ k' ∧ k' ≤ k + 4194304 := by
  have hl : x.length ≤ 1048576 := hs.1
  have ml := mark_loop (d := ([], (0, (0, false)))) (L := fun n i k xs => R.L_qbz_0 K n (k, 0, (i : Nat), xs, ())) (len := x.length) (fin := fun k ys => (Sum.inl (k, 0, ys, ()))) (c := 4) (B := 9223372036854775807) (H := fun _ _ _ => True) (Good := Sm (.pair .str (.pair (.int .i64) (.pair (.int .i64) .bool)))) (by omega)
    (fun n k xs hx => by simp only [R.L_qbz_0, hx, idx_end, cond_false]) (fun n i k xs hi hx h0 h1 hs => by
      have hi' : i < xs.length := by omega
      generalize ee : xs.getD i ([], (0, (0, false))) = e at hs
      obtain ⟨t1, e1⟩ := markText_ok hK (k) (by omega) (by omega)
      have w2 : IntKind.i64.wrap (k + 1) = k + 1 := wrap_id (by omega) (by omega)
      have w3 : IntKind.i64.wrap (k + 1 + 1) = k + 1 + 1 := wrap_id (by omega) (by omega)
      have w4 : IntKind.i64.wrap (k + 1 + 1 + 1) = k + 1 + 1 + 1 := wrap_id (by omega) (by omega)
      have w5 : IntKind.i64.wrap (k + 1 + 1 + 1 + 1) = k + 1 + 1 + 1 + 1 := wrap_id (by omega) (by omega)
      refine ⟨k + 1 + 1 + 1 + 1, (t1, (k + 1, (k + 1 + 1, (Int.tmod (k + 1 + 1 + 1) 3 == 0)))), by omega, by omega, trivial, ?_⟩
      · simp only [R.L_qbz_0, idx_lt hi', idx_nn, Bool.and_self, Int.toNat_natCast, cond_true, cond_false, ee, e1, w2, w3, w4, w5, obind_some, wrap_succ hi' (by omega : xs.length ≤ 9223372036854775807), List.length_set, List.set_set, getD_set hi', nbeq, bleC, Nat.reduceAdd, Nat.reduceLeDiff])
    x.length 0 K k x (by omega) (by omega) rfl h0 (by omega) (fun j _ hj => hs.2 _ (getD_mem _ hj))
  obtain ⟨k', ys, e, g1, g2, g3, _, g5⟩ := ml
  have e : R.L_qbz_0 K K (k, 0, 0, x, ()) = some (Sum.inl (k', 0, ys, ())) := e
  refine ⟨k', ys, ?_, g1, by omega⟩
  · simp only [R.qbz, e, obind_some]

-- key RefS ok
def HRefS (K : Nat) (k : Int) (y : (List UInt8) × ((Int) × ((Int) × (Bool)))) (k' : Int) : Prop := ∀ (n i : Nat) (xs : List ((List UInt8) × ((Int) × ((Int) × (Bool))))), i < xs.length → xs.length ≤ 9223372036854775807 → xs.getD i ([], (0, (0, false))) = y → R.L_qbo_0 K (n + 1) (xs, k, 0, (i : Nat), ()) = R.L_qbo_0 K n (xs, k', 0, ((i + 1 : Nat) : Int), ())
theorem markRefS_ok (hK : 9223372036854775807 < K) (x : List ((List UInt8) × ((Int) × ((Int) × (Bool))))) (hs : Sm (.sl (.pair .str (.pair (.int .i64) (.pair (.int .i64) .bool)))) x) (k : Int) (h0 : 0 ≤ k) (h1 : k + 4194304 ≤ 9223372036854775807) :
    ∃ k' y, R.qbz K x k = some ((k', ()), (y, ())) ∧ k ≤ k' ∧ k' ≤ k + 4194304 ∧ R.qbo K y k = some ((k', ()), ()) := by
  have hl : x.length ≤ 1048576 := hs.1
  have ml := mark_loop (d := ([], (0, (0, false)))) (L := fun n i k xs => R.L_qbz_0 K n (k, 0, (i : Nat), xs, ())) (len := x.length) (fin := fun k ys => (Sum.inl (k, 0, ys, ()))) (c := 4) (B := 9223372036854775807) (H := HRefS K) (Good := Sm (.pair .str (.pair (.int .i64) (.pair (.int .i64) .bool)))) (by omega)
    (fun n k xs hx => by simp only [R.L_qbz_0, hx, idx_end, cond_false]) (fun n i k xs hi hx h0 h1 hs => by
      have hi' : i < xs.length := by omega
      generalize ee : xs.getD i ([], (0, (0, false))) = e at hs
      obtain ⟨t1, e1⟩ := markText_ok hK (k) (by omega) (by omega)
      have w2 : IntKind.i64.wrap (k + 1) = k + 1 := wrap_id (by omega) (by omega)
      have w3 : IntKind.i64.wrap (k + 1 + 1) = k + 1 + 1 := wrap_id (by omega) (by omega)
      have w4 : IntKind.i64.wrap (k + 1 + 1 + 1) = k + 1 + 1 + 1 := wrap_id (by omega) (by omega)
      have w5 : IntKind.i64.wrap (k + 1 + 1 + 1 + 1) = k + 1 + 1 + 1 + 1 := wrap_id (by omega) (by omega)
      refine ⟨k + 1 + 1 + 1 + 1, (t1, (k + 1, (k + 1 + 1, (Int.tmod (k + 1 + 1 + 1) 3 == 0)))), by omega, by omega, fun n j ys hj hy ey => ?_, ?_⟩
      · simp only [R.L_qbo_0, idx_lt hj, idx_nn, Bool.and_self, Int.toNat_natCast, cond_true, cond_false, ey, e1, w2, w3, w4, w5, obind_some, wrap_succ hj hy, bne_self_eq_false, beq_self_eq_true, Bool.not_true, nbeq]
      · simp only [R.L_qbz_0, idx_lt hi', idx_nn, Bool.and_self, Int.toNat_natCast, cond_true, cond_false, ee, e1, w2, w3, w4, w5, obind_some, wrap_succ hi' (by omega : xs.length ≤ 9223372036854775807), List.length_set, List.set_set, getD_set hi', nbeq, bleC, Nat.reduceAdd, Nat.reduceLeDiff])
    x.length 0 K k x (by omega) (by omega) rfl h0 (by omega) (fun j _ hj => hs.2 _ (getD_mem _ hj))
  obtain ⟨k', ys, e, g1, g2, g3, _, g5⟩ := ml
  have e : R.L_qbz_0 K K (k, 0, 0, x, ()) = some (Sum.inl (k', 0, ys, ())) := e
  have hd := held_loop (d := ([], (0, (0, false)))) (ys := ys) (L := fun n i k => R.L_qbo_0 K n (ys, k, 0, (i : Nat), ())) (len := x.length) (fin := fun k => (Sum.inl (k, 0, ()))) (H := HRefS K)
    (fun n k => by rw [← g3]; simp only [R.L_qbo_0, idx_end, cond_false]) (fun n i k k' hi h => h n i ys (by omega) (by omega) rfl) x.length 0 K k k' (by omega) (by omega) g5
  have hd : R.L_qbo_0 K K (ys, k, 0, 0, ()) = some (Sum.inl (k', 0, ())) := hd
  refine ⟨k', ys, ?_, g1, by omega, ?_⟩
  · simp only [R.qbz, e, obind_some]
  · simp only [R.qbo, hd, obind_some]

-- key Base go
theorem markBase_go (hK : 9223372036854775807 < K) (x : (List ((List (Int)) × (List ((List UInt8) × (Int))))) × (List ((List UInt8) × ((Int) × ((Int) × (Bool)))))) (hs : Sm (.pair (.sl (.pair (.sl (.int .i64)) (.sl (.pair .str (.int .i64))))) (.sl (.pair .str (.pair (.int .i64) (.pair (.int .i64) .bool))))) x) (k : Int) (h0 : 0 ≤ k) (h1 : k + 3298539077632 ≤ 9223372036854775807) :
    ∃ k' y, R.qbm K x k = some ((k', ()), (y, ())) ∧ k ≤ k' ∧ k' ≤ k + 3298539077632 := by
  obtain ⟨k1, y1, m1, a1, b1⟩ := markCommitS_go hK x.1 hs.1 (k) (by omega) (by omega)
  have z1 := lt0 (show 0 ≤ k1 by omega)
  obtain ⟨k2, y2, m2, a2, b2⟩ := markRefS_go hK x.2 hs.2 (k1) (by omega) (by omega)
  have z2 := lt0 (show 0 ≤ k2 by omega)
  refine ⟨k2, (y1, y2), ?_, by omega, by omega⟩
  · simp only [R.qbm, m1, z1, m2, z2, obind_some]

-- key Base ok
theorem markBase_ok (hK : 9223372036854775807 < K) (x : (List ((List (Int)) × (List ((List UInt8) × (Int))))) × (List ((List UInt8) × ((Int) × ((Int) × (Bool)))))) (hs : Sm (.pair (.sl (.pair (.sl (.int .i64)) (.sl (.pair .str (.int .i64))))) (.sl (.pair .str (.pair (.int .i64) (.pair (.int .i64) .bool))))) x) (k : Int) (h0 : 0 ≤ k) (h1 : k + 3298539077632 ≤ 9223372036854775807) :
    ∃ k' y, R.qbm K x k = some ((k', ()), (y, ())) ∧ k ≤ k' ∧ k' ≤ k + 3298539077632 ∧ R.qby K y k = some ((k', ()), ()) := by
  obtain ⟨k1, y1, m1, a1, b1, u1⟩ := markCommitS_ok hK x.1 hs.1 (k) (by omega) (by omega)
  have z1 := lt0 (show 0 ≤ k1 by omega)
  obtain ⟨k2, y2, m2, a2, b2, u2⟩ := markRefS_ok hK x.2 hs.2 (k1) (by omega) (by omega)
  have z2 := lt0 (show 0 ≤ k2 by omega)
  refine ⟨k2, (y1, y2), ?_, by omega, by omega, ?_⟩
  · simp only [R.qbm, m1, u1, z1, m2, u2, z2, obind_some]
  · simp only [R.qby, m1, u1, z1, m2, u2, z2, obind_some, cond_false]

-- key EditS go
theorem markEditS_go (hK : 9223372036854775807 < K) (x : List ((List UInt8) × ((Int) × (Bool)))) (hs : Sm (.sl (.pair .str (.pair (.int .i64) .bool))) x) (k : Int) (h0 : 0 ≤ k) (h1 : k + 3145728 ≤ 9223372036854775807) :
    ∃ k' y, R.qbd K x k = some ((k', ()), (y, ())) ∧ k ≤ k' ∧ k' ≤ k + 3145728 := by
  have hl : x.length ≤ 1048576 := hs.1
  have ml := mark_loop (d := ([], (0, false))) (L := fun n i k xs => R.L_qbd_0 K n (k, 0, (i : Nat), xs, ())) (len := x.length) (fin := fun k ys => (Sum.inl (k, 0, ys, ()))) (c := 3) (B := 9223372036854775807) (H := fun _ _ _ => True) (Good := Sm (.pair .str (.pair (.int .i64) .bool))) (by omega)
    (fun n k xs hx => by simp only [R.L_qbd_0, hx, idx_end, cond_false]) (fun n i k xs hi hx h0 h1 hs => by
      have hi' : i < xs.length := by omega
      generalize ee : xs.getD i ([], (0, false)) = e at hs
      obtain ⟨t1, e1⟩ := markText_ok hK (k) (by omega) (by omega)
      have w2 : IntKind.i64.wrap (k + 1) = k + 1 := wrap_id (by omega) (by omega)
      have w3 : IntKind.i64.wrap (k + 1 + 1) = k + 1 + 1 := wrap_id (by omega) (by omega)
      have w4 : IntKind.i64.wrap (k + 1 + 1 + 1) = k + 1 + 1 + 1 := wrap_id (by omega) (by omega)
      refine ⟨k + 1 + 1 + 1, (t1, (k + 1, (Int.tmod (k + 1 + 1) 3 == 0))), by omega, by omega, trivial, ?_⟩
      · simp only [R.L_qbd_0, idx_lt hi', idx_nn, Bool.and_self, Int.toNat_natCast, cond_true, cond_false, ee, e1, w2, w3, w4, obind_some, wrap_succ hi' (by omega : xs.length ≤ 9223372036854775807), List.length_set, List.set_set, getD_set hi', nbeq, bleC, Nat.reduceAdd, Nat.reduceLeDiff])
    x.length 0 K k x (by omega) (by omega) rfl h0 (by omega) (fun j _ hj => hs.2 _ (getD_mem _ hj))
  obtain ⟨k', ys, e, g1, g2, g3, _, g5⟩ := ml
  have e : R.L_qbd_0 K K (k, 0, 0, x, ()) = some (Sum.inl (k', 0, ys, ())) := e
  refine ⟨k', ys, ?_, g1, by omega⟩
  · simp only [R.qbd, e, obind_some]

-- key Op go
theorem markOp_go (hK : 9223372036854775807 < K) (x : (Int) × ((Int) × ((List UInt8) × ((List UInt8) × (List ((List UInt8) × ((Int) × (Bool)))))))) (hs : Sm (.pair (.int .i64) (.pair (.int .i64) (.pair .str (.pair .str (.sl (.pair .str (.pair (.int .i64) .bool))))))) x) (k : Int) (h0 : 0 ≤ k) (h1 : k + 3145728 ≤ 9223372036854775807) :
    ∃ k' y, R.qcm K x k = some ((k', ()), (y, ())) ∧ k ≤ k' ∧ k' ≤ k + 3145728 := by
  obtain ⟨k1, y1, m1, a1, b1⟩ := markEditS_go hK x.2.2.2.2 hs.2.2.2.2 (k) (by omega) (by omega)
  have z1 := lt0 (show 0 ≤ k1 by omega)
  refine ⟨k1, (x.1, (x.2.1, (x.2.2.1, (x.2.2.2.1, y1)))), ?_, by omega, by omega⟩
  · simp only [R.qcm, m1, z1, obind_some]

-- key StringS go
def HStringS (K : Nat) (k : Int) (y : List UInt8) (k' : Int) : Prop := ∀ (n i : Nat) (xs : List (List UInt8)), i < xs.length → xs.length ≤ 9223372036854775807 → xs.getD i [] = y → R.L_qaF_0 K (n + 1) (xs, k, 0, (i : Nat), ()) = R.L_qaF_0 K n (xs, k', 0, ((i + 1 : Nat) : Int), ())
theorem markStringS_ok (hK : 9223372036854775807 < K) (x : List (List UInt8)) (hs : Sm (.sl .str) x) (k : Int) (h0 : 0 ≤ k) (h1 : k + 1048576 ≤ 9223372036854775807) :
    ∃ k' y, R.qaE K x k = some ((k', ()), (y, ())) ∧ k ≤ k' ∧ k' ≤ k + 1048576 ∧ R.qaF K y k = some ((k', ()), ()) := by
  have hl : x.length ≤ 1048576 := hs.1
  have ml := mark_loop (d := []) (L := fun n i k xs => R.L_qaE_0 K n (k, 0, (i : Nat), xs, ())) (len := x.length) (fin := fun k ys => (Sum.inl (k, 0, ys, ()))) (c := 1) (B := 9223372036854775807) (H := HStringS K) (Good := Sm .str) (by omega)
    (fun n k xs hx => by simp only [R.L_qaE_0, hx, idx_end, cond_false]) (fun n i k xs hi hx h0 h1 hs => by
      have hi' : i < xs.length := by omega
      generalize ee : xs.getD i [] = e at hs
      obtain ⟨t1, e1⟩ := markText_ok hK (k) (by omega) (by omega)
      have w2 : IntKind.i64.wrap (k + 1) = k + 1 := wrap_id (by omega) (by omega)
      refine ⟨k + 1, t1, by omega, by omega, fun n j ys hj hy ey => ?_, ?_⟩
      · simp only [R.L_qaF_0, idx_lt hj, idx_nn, Bool.and_self, Int.toNat_natCast, cond_true, cond_false, ey, e1, w2, obind_some, wrap_succ hj hy, bne_self_eq_false, beq_self_eq_true, Bool.not_true, nbeq]
      · simp only [R.L_qaE_0, idx_lt hi', idx_nn, Bool.and_self, Int.toNat_natCast, cond_true, cond_false, ee, e1, w2, obind_some, wrap_succ hi' (by omega : xs.length ≤ 9223372036854775807), List.length_set, List.set_set, getD_set hi', nbeq, bleC, Nat.reduceAdd, Nat.reduceLeDiff])
    x.length 0 K k x (by omega) (by omega) rfl h0 (by omega) (fun j _ hj => hs.2 _ (getD_mem _ hj))
  obtain ⟨k', ys, e, g1, g2, g3, _, g5⟩ := ml
  have e : R.L_qaE_0 K K (k, 0, 0, x, ()) = some (Sum.inl (k', 0, ys, ())) := e
  have hd := held_loop (d := []) (ys := ys) (L := fun n i k => R.L_qaF_0 K n (ys, k, 0, (i : Nat), ())) (len := x.length) (fin := fun k => (Sum.inl (k, 0, ()))) (H := HStringS K)
    (fun n k => by rw [← g3]; simp only [R.L_qaF_0, idx_end, cond_false]) (fun n i k k' hi h => h n i ys (by omega) (by omega) rfl) x.length 0 K k k' (by omega) (by omega) g5
  have hd : R.L_qaF_0 K K (ys, k, 0, 0, ()) = some (Sum.inl (k', 0, ())) := hd
  refine ⟨k', ys, ?_, g1, by omega, ?_⟩
  · simp only [R.qaE, e, obind_some]
  · simp only [R.qaF, hd, obind_some]

-- key Result go
theorem markResult_ok (hK : 9223372036854775807 < K) (x : (Int) × ((Int) × ((Int) × ((List (List UInt8)) × (List ((List UInt8) × (Int))))))) (hs : Sm (.pair (.int .i64) (.pair (.int .i64) (.pair (.int .i64) (.pair (.sl .str) (.sl (.pair .str (.int .i64))))))) x) (k : Int) (h0 : 0 ≤ k) (h1 : k + 3145728 ≤ 9223372036854775807) :
    ∃ k' y, R.qaQ K x k = some ((k', ()), (y, ())) ∧ k ≤ k' ∧ k' ≤ k + 3145728 ∧ R.qaT K y k = some ((k', ()), ()) := by
  obtain ⟨k1, y1, m1, a1, b1, u1⟩ := markStringS_ok hK x.2.2.2.1 hs.2.2.2.1 (k) (by omega) (by omega)
  have z1 := lt0 (show 0 ≤ k1 by omega)
  obtain ⟨k2, y2, m2, a2, b2, u2⟩ := markEntryS_ok hK x.2.2.2.2 hs.2.2.2.2 (k1) (by omega) (by omega)
  have z2 := lt0 (show 0 ≤ k2 by omega)
  refine ⟨k2, (x.1, (x.2.1, (x.2.2.1, (y1, y2)))), ?_, by omega, by omega, ?_⟩
  · simp only [R.qaQ, m1, u1, z1, m2, u2, z2, obind_some]
  · simp only [R.qaT, m1, u1, z1, m2, u2, z2, obind_some, cond_false]

-- key EditS ok
abbrev tEn : Ty := .pair .str (.int .i64)
abbrev tCm : Ty := .pair (.sl (.int .i64)) (.sl tEn)
abbrev tRf : Ty := .pair .str (.pair (.int .i64) (.pair (.int .i64) .bool))
abbrev tBa : Ty := .pair (.sl tCm) (.sl tRf)
theorem app_ok {α τ : Type} {L : Nat → Nat → List α → Option τ} {len : Nat} {g : Nat → α} {fin : List α → τ} (h0 : ∀ n s, L (n + 1) len s = some (fin s))
    (h1 : ∀ n i s, i < len → s.length ≤ i → L (n + 1) i s = L n (i + 1) (s ++ [g i])) :
    ∀ (m i n : Nat) (s : List α), i + m = len → m < n → s.length ≤ i → L n i s = some (fin (s ++ (List.range' i m).map g))
  | 0, i, n + 1, s, hi, _, _ => by
    have : i = len := by omega
    subst this
    rw [h0]
    simp
  | m + 1, i, n + 1, s, hi, hn, hs => by
    rw [h1 n i s (by omega) hs, app_ok h0 h1 m (i + 1) n (s ++ [g i]) (by omega) (by omega) (by simp; omega), List.range'_succ, List.map_cons, List.append_assoc]
    rfl
abbrev Ed := List UInt8 × Int × Bool
def edOK (m : List Ed) (i : Nat) : Bool := wordM (m.getD i ([], 0, false)).1 && inV (m.getD i ([], 0, false)).2.1 && !((m.getD i ([], 0, false)).2.2 && ((m.getD i ([], 0, false)).2.1 != 0)) && (decide (i = 0) || sless (m.getD (i - 1) ([], 0, false)).1 (m.getD i ([], 0, false)).1)
def editsM (m : List Ed) : Bool := decide (m.length ≤ 6) && (List.range' 0 m.length).all (edOK m)
theorem l01Edits_eq (hK : 9223372036854775807 < K) (m : List Ed) : R.qbF K m = some ((editsM m, ()), ()) := by
  unfold R.qbF editsM
  by_cases h : m.length ≤ 6
  · have := all_ok (L := fun n i => R.L_qbF_0 K n (m, false, (i : Nat), ())) (len := m.length) (p := edOK m) (t := Sum.inl (false, ())) (f := Sum.inr (false, ()))
      (fun n => by simp only [R.L_qbF_0, idx_end, cond_false]) (fun n i hi => by
        simp only [R.L_qbF_0, wrap_succ hi (by omega), idx_lt hi, idx_nn, Bool.and_self, Int.toNat_natCast, word_eq hK, in_eq, obind_some, cond_true, edOK, inV]
        cases i with
        | zero =>
          cases wordM (m.getD 0 ([], 0, false)).1 <;> cases decide (-1000000 ≤ (m.getD 0 ([], 0, false)).2.1) && decide ((m.getD 0 ([], 0, false)).2.1 ≤ 1000000) <;> cases (m.getD 0 ([], 0, false)).2.2 <;> cases (m.getD 0 ([], 0, false)).2.1 != 0 <;> rfl
        | succ i =>
          have g1 : (((i + 1 : Nat) : Int) > 0) := by omega
          have g2 : i < m.length := by omega
          simp only [wrap_pred hi (by omega), Int.toNat_natCast, Nat.add_sub_cancel, idx_lt g2, idx_nn, Bool.and_self, g1, decide_true, cond_true, show ¬ (i + 1 = 0) by omega, decide_false, Bool.false_or]
          rw [← sless_tri]
          cases wordM (m.getD (i + 1) ([], 0, false)).1 <;> cases decide (-1000000 ≤ (m.getD (i + 1) ([], 0, false)).2.1) && decide ((m.getD (i + 1) ([], 0, false)).2.1 ≤ 1000000) <;> cases (m.getD (i + 1) ([], 0, false)).2.2 <;> cases (m.getD (i + 1) ([], 0, false)).2.1 != 0 <;> cases sless (m.getD i ([], 0, false)).1 (m.getD (i + 1) ([], 0, false)).1 <;> rfl) m.length 0 K (by omega) (by omega)
    have this : R.L_qbF_0 K K (m, false, 0, ()) = _ := this
    simp only [this, h, show ¬ ((m.length : Int) > 6) by omega, obind_some, decide_true, decide_false, cond_false, Bool.true_and]
    cases (List.range' 0 m.length).all (edOK m) <;> rfl
  · simp [h, show (m.length : Int) > 6 by omega]
theorem EditsOK_eq (hK : 9223372036854775807 < K) (m : List Ed) (hx : m.length ≤ 9223372036854775807) : R.qbH K m = some ((editsM m, ()), ()) := by
  have := all_ok (L := fun n i => R.L_qbH_0 K n (m, false, m, (m.length : Int), (i : Nat), ())) (len := m.length) (p := edOK m) (t := Sum.inl (m, false, ())) (f := Sum.inr (false, ()))
      (fun n => by simp only [R.L_qbH_0, idx_end, cond_false]) (fun n i hi => by
        simp only [R.L_qbH_0, wrap_succ hi hx, idx_lt hi, idx_nn, Bool.and_self, Int.toNat_natCast, NameOK_eq hK, isValue_eq, obind_some, cond_true, edOK]
        cases i with
        | zero =>
          cases wordM (m.getD 0 ([], 0, false)).1 <;> cases inV (m.getD 0 ([], 0, false)).2.1 <;> cases (m.getD 0 ([], 0, false)).2.2 <;> cases (m.getD 0 ([], 0, false)).2.1 != 0 <;> rfl
        | succ i =>
          have g1 : (((i + 1 : Nat) : Int) > 0) := by omega
          have g2 : i < m.length := by omega
          simp only [wrap_pred hi hx, Int.toNat_natCast, Nat.add_sub_cancel, idx_lt g2, idx_nn, Bool.and_self, g1, decide_true, cond_true, show ¬ (i + 1 = 0) by omega, decide_false, Bool.false_or]
          cases wordM (m.getD (i + 1) ([], 0, false)).1 <;> cases inV (m.getD (i + 1) ([], 0, false)).2.1 <;> cases (m.getD (i + 1) ([], 0, false)).2.2 <;> cases (m.getD (i + 1) ([], 0, false)).2.1 != 0 <;> cases sless (m.getD i ([], 0, false)).1 (m.getD (i + 1) ([], 0, false)).1 <;> rfl) m.length 0 K (by omega) (by omega)
  have this : R.L_qbH_0 K K (m, false, m, (m.length : Int), 0, ()) = _ := this
  unfold R.qbH editsM
  rw [this]
  cases (List.range' 0 m.length).all (edOK m)
  · simp [obind]
  · by_cases h : m.length ≤ 6
    · simp [obind, h, show (m.length : Int) ≤ 6 by omega]
    · simp [obind, h, show ¬ (m.length : Int) ≤ 6 by omega]
abbrev tEd : Ty := .pair .str (.pair (.int .i64) .bool)
theorem kinds {k : Int} (h1 : 1 ≤ k) (h2 : k ≤ 6) : k = 1 ∨ k = 2 ∨ k = 3 ∨ k = 4 ∨ k = 5 ∨ k = 6 := by omega
theorem gt0 {n : Nat} : decide ((n : Int) > 0) = !decide (n = 0) := by
  by_cases h : n = 0
  · simp [h]
  · have : (n : Int) > 0 := by omega
    simp [h]; omega
abbrev Rs := Int × Int × Int × List (List UInt8) × List En
abbrev tRs : Ty := .pair (.int .i64) (.pair (.int .i64) (.pair (.int .i64) (.pair (.sl .str) (.sl tEn))))
abbrev OpT := Int × Int × List UInt8 × List UInt8 × List Ed
def opM (o : OpT) : Bool := wordM o.2.2.1 && (decide (1 ≤ o.1) && decide (o.1 ≤ 6)) && editsM o.2.2.2.2 && (o.1 == 3 || decide (o.2.2.2.2.length = 0)) && (bif o.1 == 5 then wordM o.2.2.2.1 else o.2.2.2.1 == []) &&
  (bif o.1 == 1 || o.1 == 4 then decide (1 ≤ o.2.1) && decide (o.2.1 ≤ 60) else bif o.1 == 3 then decide (0 ≤ o.2.1) && decide (o.2.1 ≤ 60) else o.2.1 == 0)
set_option maxHeartbeats 3200000 in
theorem l05Op_eq (hK : 9223372036854775807 < K) (o : OpT) : R.qcY K o = some ((opM o, ()), ()) := by
  unfold R.qcY opM
  simp only [word_eq hK, in_eq, l01Edits_eq hK, obind_some, gt0]
  obtain ⟨k, fr, name, key, ed⟩ := o
  dsimp only
  cases wordM name
  · rfl
  by_cases h1 : k < 1
  · simp [show ¬ 1 ≤ k by omega]
  have h1 : 1 ≤ k := by omega
  by_cases h2 : 6 < k
  · simp [show ¬ k ≤ 6 by omega]
  have h2 : k ≤ 6 := by omega
  cases editsM ed
  · simp [h1, h2]
  simp only [h1, h2, decide_true, Bool.and_self, Bool.not_true, cond_false, Bool.true_and]
  have hs : ∀ t : List UInt8, (t == Array.toList (ByteArray.data (ByteArray.mk #[]))) = (t == []) := fun _ => rfl
  try simp only [hs]
  rcases kinds h1 h2 with rfl | rfl | rfl | rfl | rfl | rfl <;>
    cases decide (ed.length = 0) <;> cases wordM key <;> cases key == [] <;> cases decide (1 ≤ fr) <;> cases decide (fr ≤ 60) <;> cases decide (0 ≤ fr) <;> cases fr == 0 <;> rfl
set_option maxHeartbeats 6400000 in
theorem OpOK_eq (hK : 9223372036854775807 < K) (o : OpT) (hx : o.2.2.2.2.length ≤ 9223372036854775807) : R.qde K o = some ((opM o, ()), ()) := by
  unfold R.qde opM
  obtain ⟨k, fr, name, key, ed⟩ := o
  have hs : ∀ t : List UInt8, (t == Array.toList (ByteArray.data (ByteArray.mk #[]))) = (t == []) := fun _ => rfl
  have hx : ed.length ≤ 9223372036854775807 := hx
  simp only [NameOK_eq hK, EditsOK_eq hK ed hx, within_eq, R.qcC, obind_some, gt0, hs]
  by_cases h1 : 1 ≤ k
  · by_cases h2 : k ≤ 6
    · simp only [h1, h2, decide_true, Bool.and_self, Bool.true_and]
      have e0 : ed.length = 0 → editsM ed = true := fun h => by
        have : ed = [] := List.eq_nil_of_length_eq_zero h
        subst this; rfl
      by_cases he : ed.length = 0
      · rw [e0 he]
        rcases kinds h1 h2 with rfl | rfl | rfl | rfl | rfl | rfl <;>
          simp only [he, decide_true] <;> cases wordM name <;> cases wordM key <;> cases key == [] <;> cases decide (1 ≤ fr) <;> cases decide (fr ≤ 60) <;> cases decide (0 ≤ fr) <;> cases fr == 0 <;> rfl
      · rcases kinds h1 h2 with rfl | rfl | rfl | rfl | rfl | rfl <;>
          simp only [he, decide_false] <;> cases wordM name <;> cases wordM key <;> cases key == [] <;> cases editsM ed <;> cases decide (1 ≤ fr) <;> cases decide (fr ≤ 60) <;> cases decide (0 ≤ fr) <;> cases fr == 0 <;> rfl
    · have n1 : (k == 1) = false := by simp; omega
      have n2 : (k == 2) = false := by simp; omega
      have n3 : (k == 3) = false := by simp; omega
      have n4 : (k == 4) = false := by simp; omega
      have n5 : (k == 5) = false := by simp; omega
      have n6 : (k == 6) = false := by simp; omega
      simp only [h1, h2, bne, n1, n2, n3, n4, n5, n6, decide_true, decide_false, Bool.and_false, Bool.false_and, cond_false, Bool.not_false, cond_true]
      cases decide (ed.length = 0) <;> cases wordM name <;> cases key == [] <;> rfl
  · have n1 : (k == 1) = false := by simp; omega
    have n2 : (k == 2) = false := by simp; omega
    have n3 : (k == 3) = false := by simp; omega
    have n4 : (k == 4) = false := by simp; omega
    have n5 : (k == 5) = false := by simp; omega
    have n6 : (k == 6) = false := by simp; omega
    simp only [h1, bne, n1, n2, n3, n4, n5, n6, decide_true, decide_false, Bool.and_false, Bool.false_and, cond_false, Bool.not_false, cond_true]
    cases decide (ed.length = 0) <;> cases wordM name <;> cases key == [] <;> rfl
abbrev tOp : Ty := .pair (.int .i64) (.pair (.int .i64) (.pair .str (.pair .str (.sl tEd))))
theorem Clone_int_eq (xs : List Int) (hx : xs.length ≤ 268435456) : R.qaC K xs = some ((xs, ()), ()) := by
  unfold R.qaC
  cases xs with
  | nil =>
    simp [alt]
    rfl
  | cons a r =>
    have : Nat.ble (0 + (a :: r).length) 268435456 = true := Nat.ble_eq_true_of_le (by simpa using hx)
    simp only [List.isEmpty_cons, cond_false, this, cond_true]
theorem Clone_En_eq (xs : List En) (hx : xs.length ≤ 268435456) : R.qaq K xs = some ((xs, ()), ()) := by
  unfold R.qaq
  cases xs with
  | nil =>
    simp [alt]
    rfl
  | cons a r =>
    have : Nat.ble (0 + (a :: r).length) 268435456 = true := Nat.ble_eq_true_of_le (by simpa using hx)
    simp only [List.isEmpty_cons, cond_false, this, cond_true]
def CmB (c : Cm) : Prop := c.1.length ≤ 1048576 ∧ c.2.length ≤ 1048576
theorem Commit_own_eq (c : Cm) (h : CmB c) : R.qaM K c = some ((c, ()), ()) := by
  unfold R.qaM
  have h1 : c.1.length ≤ 1048576 := h.1
  have h2 : c.2.length ≤ 1048576 := h.2
  rw [Clone_int_eq _ (by omega), Clone_En_eq _ (by omega)]
  rfl
theorem l03Own_eq (c : Cm) (h : CmB c) : R.qck K c = some ((c, ()), ()) := by
  unfold R.qck
  have h1 : c.1.length ≤ 1048576 := h.1
  have h2 : c.2.length ≤ 1048576 := h.2
  have e1 : Nat.ble (0 + c.1.length) 268435456 = true := Nat.ble_eq_true_of_le (by omega)
  have e2 : Nat.ble (0 + c.2.length) 268435456 = true := Nat.ble_eq_true_of_le (by omega)
  simp only [e1, e2, cond_true, dup_eq, alt_self, obind_some]
theorem map_range_getD {α : Type} (d : α) (s : List α) : (List.range' 0 s.length).map (fun i => s.getD i d) = s := by
  apply List.ext_getElem (by simp)
  intro i h1 h2
  simp [List.getD_eq_getElem?_getD, h2]
theorem ownStore_eq (hK : 9223372036854775807 < K) (s : List Cm) (hs : s.length ≤ 1048576) (h : ∀ c ∈ s, CmB c) : R.qbG K s = some ((s, ()), ()) := by
  have := app_ok (L := fun n i ys => R.L_qbG_0 K n (s, (s.length : Nat), (i : Nat), [], ys, ())) (len := s.length) (g := fun i => s.getD i ([], [])) (fin := fun ys => Sum.inl ([], ys, ()))
    (fun n ys => by simp only [R.L_qbG_0, idx_end, cond_false])
    (fun n i ys hi hy => by
      have hb : Nat.ble (ys.length + 1) 268435456 = true := Nat.ble_eq_true_of_le (by omega)
      simp only [R.L_qbG_0, idx_lt hi, idx_nn, Bool.and_self, Int.toNat_natCast, cond_true, Commit_own_eq _ (h _ (getD_mem _ hi)), obind_some, hb, wrap_succ hi (by omega)]) s.length 0 K [] (by omega) (by omega) (by simp)
  rw [map_range_getD, List.nil_append] at this
  have this : R.L_qbG_0 K K (s, (s.length : Int), 0, [], [], ()) = some (Sum.inl ([], s, ())) := this
  unfold R.qbG
  simp only [this, obind_some]
theorem l03Copy_eq (hK : 9223372036854775807 < K) (s : List Cm) (hs : s.length ≤ 1048576) (h : ∀ c ∈ s, CmB c) : R.qbW K s = some ((s, ()), ()) := by
  have := app_ok (L := fun n i ys => R.L_qbW_0 K n (s, (i : Nat), [], ys, ())) (len := s.length) (g := fun i => s.getD i ([], [])) (fin := fun ys => Sum.inl ([], ys, ()))
    (fun n ys => by simp only [R.L_qbW_0, idx_end, cond_false])
    (fun n i ys hi hy => by
      have hb : Nat.ble (ys.length + 1) 268435456 = true := Nat.ble_eq_true_of_le (by omega)
      simp only [R.L_qbW_0, idx_lt hi, idx_nn, Bool.and_self, Int.toNat_natCast, cond_true, l03Own_eq _ (h _ (getD_mem _ hi)), obind_some, hb, wrap_succ hi (by omega)]) s.length 0 K [] (by omega) (by omega) (by simp)
  rw [map_range_getD, List.nil_append] at this
  have this : R.L_qbW_0 K K (s, 0, [], [], ()) = some (Sum.inl ([], s, ())) := this
  unfold R.qbW
  simp only [this, obind_some]
theorem wrap_lenS {n : Nat} (h : n ≤ 1048576) : IntKind.i64.wrap ((n : Int) + 1) = (n : Int) + 1 := wrap_id (by omega) (by omega)
abbrev RSt := Nat × Bool
def Good {α : Type} (t : List UInt8) (f : RSt → α × RSt) : Prop := ∀ s : RSt, s.1 ≤ t.length → (f s).2.1 ≤ t.length ∧ (s.2 = true → (f s).2.2 = true)
def BaB (b : Ba) : Prop := b.1.length ≤ 1048576 ∧ (∀ c ∈ b.1, CmB c) ∧ b.2.length ≤ 1048576 ∧ ∀ r ∈ b.2, r.1.length ≤ 1048576
theorem Clone_Rf_eq (xs : List Rf) (hx : xs.length ≤ 268435456) : R.qas K xs = some ((xs, ()), ()) := by
  unfold R.qas
  cases xs with
  | nil =>
    simp [alt]
    rfl
  | cons a r =>
    have : Nat.ble (0 + (a :: r).length) 268435456 = true := Nat.ble_eq_true_of_le (by simpa using hx)
    simp only [List.isEmpty_cons, cond_false, this, cond_true]
theorem Base_own_eq (hK : 9223372036854775807 < K) (b : Ba) (h : BaB b) : R.qbh K b = some ((b, ()), ()) := by
  obtain ⟨h1, h2, h3, h4⟩ := h
  unfold R.qbh
  simp only [ownStore_eq hK b.1 h1 h2, Clone_Rf_eq b.2 (by omega), obind_some]
theorem l05Own_eq (hK : 9223372036854775807 < K) (b : Ba) (h : BaB b) : R.qcB K b = some ((b, ()), ()) := by
  obtain ⟨h1, h2, h3, h4⟩ := h
  have hb : Nat.ble (0 + b.2.length) 268435456 = true := Nat.ble_eq_true_of_le (by omega)
  unfold R.qcB
  simp only [l03Copy_eq hK b.1 h1 h2, hb, obind_some, cond_true, dup_eq, alt_self]
theorem ba_sm {b : Ba} (h : Sm tBa b) : BaB b := ⟨h.1.1, fun c hc => ⟨(h.1.2 c hc).1.1, (h.1.2 c hc).2.1⟩, h.2.1, fun r hr => (h.2.2 r hr).1⟩
theorem sless_irr (a : List UInt8) : sless a a = false := Fw.bless_irr a
theorem sless_trans (a b c : List UInt8) (h1 : sless a b = true) (h2 : sless b c = true) : sless a c = true := Fw.bless_trans a b c h1 h2
theorem sless_asym {a b : List UInt8} (h : sless a b = true) : sless b a = false := by
  cases e : sless b a with
  | false => rfl
  | true => have := sless_trans _ _ _ h e; rw [sless_irr] at this; cases this
theorem sless_ne {a b : List UInt8} (h : sless a b = true) : a ≠ b := fun e => by subst e; rw [sless_irr] at h; cases h
theorem sless_eq {a b : List UInt8} (h1 : sless a b = false) (h2 : sless b a = false) : a = b := Fw.bless_tri a b h1 h2
def Srt {α : Type} (m : List (List UInt8 × α)) : Prop := m.Pairwise fun a b => sless a.1 b.1 = true
def lowK {α : Type} (m : List (List UInt8 × α)) (k : List UInt8) : Nat := (m.takeWhile fun e => sless e.1 k).length
def hasK {α : Type} (m : List (List UInt8 × α)) (k : List UInt8) : Bool := match m[lowK m k]? with
  | some e => e.1 == k
  | none => false
def getK {α : Type} (m : List (List UInt8 × α)) (k : List UInt8) : Option (List UInt8 × α) := m.find? fun e => e.1 == k
theorem lowK_cons {α : Type} (e : List UInt8 × α) (m : List (List UInt8 × α)) (k : List UInt8) : lowK (e :: m) k = bif sless e.1 k then lowK m k + 1 else 0 := by
  unfold lowK
  rw [List.takeWhile_cons]
  cases sless e.1 k <;> simp
theorem hasK_cons {α : Type} (e : List UInt8 × α) (m : List (List UInt8 × α)) (k : List UInt8) : hasK (e :: m) k = bif sless e.1 k then hasK m k else e.1 == k := by
  unfold hasK
  rw [lowK_cons]
  cases sless e.1 k <;> simp
theorem lowK_le {α : Type} (k : List UInt8) : ∀ m : List (List UInt8 × α), lowK m k ≤ m.length
  | [] => by simp [lowK]
  | e :: m => by
    have := lowK_le k m
    rw [lowK_cons]
    cases sless e.1 k <;> simp <;> omega
theorem hasK_lt {α : Type} {m : List (List UInt8 × α)} {k : List UInt8} (h : hasK m k = true) : lowK m k < m.length := by
  unfold hasK at h
  cases e : m[lowK m k]? with
  | none => rw [e] at h; cases h
  | some x => exact (List.getElem?_eq_some_iff.1 e).1
theorem getK_eq {α : Type} (k : List UInt8) : ∀ (m : List (List UInt8 × α)), Srt m → getK m k = bif hasK m k then m[lowK m k]? else none
  | [], _ => by simp [getK, hasK, lowK]
  | e :: m, h => by
    have ih := getK_eq k m (List.pairwise_cons.1 h).2
    unfold getK at ih ⊢
    rw [List.find?_cons, hasK_cons, lowK_cons]
    cases hl : sless e.1 k with
    | true =>
      have : (e.1 == k) = false := by simpa using sless_ne hl
      simp [this, ih]
    | false =>
      cases he : e.1 == k with
      | true => simp
      | false =>
        simp only [cond_false]
        rw [List.find?_eq_none]
        intro x hx
        have h1 := (List.pairwise_cons.1 h).1 x hx
        have h2 : sless k e.1 = true := by
          cases h3 : sless k e.1 with
          | true => rfl
          | false => exact absurd (sless_eq hl h3) (by simpa using he)
        have := sless_ne (sless_trans _ _ _ h2 h1)
        simpa using this.symm
theorem hasK_get {α : Type} {m : List (List UInt8 × α)} (h : Srt m) (k : List UInt8) : hasK m k = (getK m k).isSome := by
  rw [getK_eq k m h]
  cases e : hasK m k with
  | false => rfl
  | true => simp [hasK_lt e]
def putS : List En → List UInt8 → Int → List En
  | [], k, v => [(k, v)]
  | e :: m, k, v => bif sless e.1 k then e :: putS m k v else bif e.1 == k then (k, v) :: m else (k, v) :: e :: m
def remS (m : List En) (k : List UInt8) : List En := m.filter fun e => !(e.1 == k)
def editS (m : List En) (e : Ed) : List En := bif e.2.2 then remS m e.1 else putS m e.1 e.2.1
def cutM (m : List En) (k : List UInt8) : List En := bif hasK m k then m.take (lowK m k) ++ m.drop (lowK m k + 1) else m
theorem cut_put (k : List UInt8) (v : Int) : ∀ m : List En, (cutM m k).take (lowK m k) ++ ([(k, v)] ++ (cutM m k).drop (lowK m k)) = putS m k v
  | [] => rfl
  | e :: m => by
    have ih := cut_put k v m
    unfold cutM at ih ⊢
    rw [lowK_cons, hasK_cons]
    unfold putS
    cases hl : sless e.1 k with
    | true =>
      simp only [cond_true] at ih ⊢
      rw [← ih]
      cases hasK m k <;> simp
    | false =>
      cases he : e.1 == k <;> simp
theorem cut_rem (k : List UInt8) : ∀ m : List En, Srt m → cutM m k = remS m k
  | [], _ => by simp [cutM, remS, hasK]
  | e :: m, h => by
    have h2 := (List.pairwise_cons.1 h)
    have ih := cut_rem k m h2.2
    unfold cutM remS at ih ⊢
    rw [lowK_cons, hasK_cons, List.filter_cons]
    cases hl : sless e.1 k with
    | true =>
      have : (e.1 == k) = false := by simpa using sless_ne hl
      simp only [cond_true, this, Bool.not_false, if_true]
      rw [← ih]
      cases hasK m k <;> simp
    | false =>
      have big : ∀ x ∈ m, sless k x.1 = true := fun x hx => by
        have h1 := h2.1 x hx
        cases h3 : sless k e.1 with
        | true => exact sless_trans _ _ _ h3 h1
        | false => rw [← sless_eq hl h3]; exact h1
      have hm : (m.filter fun e => !(e.1 == k)) = m := List.filter_eq_self.2 fun x hx => by
        have := sless_ne (big x hx)
        simpa using this.symm
      rw [hm]
      cases he : e.1 == k <;> simp
theorem mem_putS {k : List UInt8} {v : Int} : ∀ {m : List En} {x : En}, x ∈ putS m k v → x = (k, v) ∨ x ∈ m
  | [], x, h => by simpa [putS] using h
  | e :: m, x, h => by
    unfold putS at h
    cases hl : sless e.1 k with
    | true =>
      rw [hl] at h
      rcases List.mem_cons.1 h with h | h
      · exact .inr (by simp [h])
      · exact (mem_putS h).imp id fun h => by simp [h]
    | false =>
      rw [hl] at h
      cases he : e.1 == k <;> rw [he] at h <;> simp at h ⊢ <;> rcases h with h | h <;> simp [h]
theorem putS_srt (k : List UInt8) (v : Int) : ∀ {m : List En}, Srt m → Srt (putS m k v)
  | [], _ => by simp [putS, Srt]
  | e :: m, h => by
    have h2 := List.pairwise_cons.1 h
    unfold putS
    cases hl : sless e.1 k with
    | true =>
      refine List.pairwise_cons.2 ⟨fun x hx => ?_, putS_srt k v h2.2⟩
      rcases mem_putS hx with rfl | hx
      · exact hl
      · exact h2.1 x hx
    | false =>
      cases he : e.1 == k with
      | true =>
        simp only [cond_false, cond_true]
        have : e.1 = k := by simpa using he
        exact List.pairwise_cons.2 ⟨fun x hx => by rw [← this]; exact h2.1 x hx, h2.2⟩
      | false =>
        have h3 : sless k e.1 = true := by
          cases h3 : sless k e.1 with
          | true => rfl
          | false => exact absurd (sless_eq hl h3) (by simpa using he)
        simp only [cond_false]
        refine List.pairwise_cons.2 ⟨fun x hx => ?_, h⟩
        rcases List.mem_cons.1 hx with rfl | hx
        · exact h3
        · exact sless_trans _ _ _ h3 (h2.1 x hx)
theorem remS_srt (k : List UInt8) {m : List En} (h : Srt m) : Srt (remS m k) := List.Pairwise.filter _ h
theorem editS_srt (e : Ed) {m : List En} (h : Srt m) : Srt (editS m e) := by
  unfold editS
  cases e.2.2
  · exact putS_srt _ _ h
  · exact remS_srt _ h
def editsS (m : List En) (l : List Ed) : List En := l.foldl editS m
theorem editsS_srt : ∀ (l : List Ed) {m : List En}, Srt m → Srt (editsS m l)
  | [], _, h => h
  | e :: l, _, h => editsS_srt l (editS_srt e h)
def putL (k : List UInt8) (v : Int) : Bool → List En → List En
  | d, [] => bif d then [] else [(k, v)]
  | d, e :: m => (bif !d && !sless e.1 k then [(k, v)] else []) ++ ((bif e.1 == k then [] else [e]) ++ putL k v (d || !sless e.1 k) m)
theorem putL_done (k : List UInt8) (v : Int) : ∀ (m : List En), (∀ x ∈ m, sless k x.1 = true) → putL k v true m = m
  | [], _ => rfl
  | e :: m, h => by
    have he : (e.1 == k) = false := by simpa using (sless_ne (h e (by simp))).symm
    simp [putL, he, putL_done k v m fun x hx => h x (by simp [hx])]
theorem putL_eq (k : List UInt8) (v : Int) : ∀ {m : List En}, Srt m → putL k v false m = putS m k v
  | [], _ => rfl
  | e :: m, h => by
    have h2 := List.pairwise_cons.1 h
    unfold putL putS
    cases hl : sless e.1 k with
    | true =>
      have : (e.1 == k) = false := by simpa using sless_ne hl
      simp [this, putL_eq k v h2.2]
    | false =>
      have big : ∀ x ∈ m, sless k x.1 = true := fun x hx => by
        have h1 := h2.1 x hx
        cases h3 : sless k e.1 with
        | true => exact sless_trans _ _ _ h3 h1
        | false => rw [← sless_eq hl h3]; exact h1
      simp only [Bool.not_false, Bool.and_self, cond_true, Bool.or_true, putL_done k v m big]
      cases he : e.1 == k <;> simp
def diffS : List En → List En → List Ed
  | [], [] => []
  | x :: a, [] => (x.1, 0, true) :: diffS a []
  | [], y :: b => (y.1, y.2, false) :: diffS [] b
  | x :: a, y :: b => bif sless x.1 y.1 then (x.1, 0, true) :: diffS a (y :: b) else bif sless y.1 x.1 then (y.1, y.2, false) :: diffS (x :: a) b else (bif x.2 == y.2 then [] else [(y.1, y.2, false)]) ++ diffS a b
termination_by a b => a.length + b.length
def putsD (a b : List En) : List Ed := b.filterMap fun e => bif getK a e.1 == some e then none else some (e.1, e.2, false)
def gonesD (a b : List En) : List Ed := a.filterMap fun e => bif (getK b e.1).isSome then none else some (e.1, 0, true)
theorem getK_none {α : Type} {m : List (List UInt8 × α)} {k : List UInt8} (h : ∀ x ∈ m, sless k x.1 = true) : getK m k = none := by
  unfold getK
  rw [List.find?_eq_none]
  intro x hx
  simpa using (sless_ne (h x hx)).symm
theorem getK_skip {α : Type} {e : List UInt8 × α} {m : List (List UInt8 × α)} {k : List UInt8} (h : e.1 ≠ k) : getK (e :: m) k = getK m k := by
  unfold getK
  rw [List.find?_cons]
  have : (e.1 == k) = false := by simpa using h
  rw [this]
theorem putsD_skip {x : En} {a b : List En} (h : ∀ e ∈ b, x.1 ≠ e.1) : putsD (x :: a) b = putsD a b := by
  unfold putsD
  induction b with
  | nil => rfl
  | cons e b ih =>
    rw [List.filterMap_cons, List.filterMap_cons, ih fun e he => h e (by simp [he]), getK_skip (h e (by simp))]
theorem gonesD_skip {y : En} {a b : List En} (h : ∀ e ∈ a, y.1 ≠ e.1) : gonesD a (y :: b) = gonesD a b := by
  unfold gonesD
  induction a with
  | nil => rfl
  | cons e a ih =>
    rw [List.filterMap_cons, List.filterMap_cons, ih fun e he => h e (by simp [he]), getK_skip (h e (by simp))]
theorem diff_perm : ∀ (a b : List En), Srt a → Srt b → (diffS a b).Perm (putsD a b ++ gonesD a b)
  | [], [], _, _ => by simp [diffS, putsD, gonesD]
  | x :: a, [], ha, _ => by
    have ih := diff_perm a [] (List.pairwise_cons.1 ha).2 List.Pairwise.nil
    simp [diffS, putsD, gonesD, getK] at ih ⊢
    exact ih
  | [], y :: b, _, hb => by
    have ih := diff_perm [] b List.Pairwise.nil (List.pairwise_cons.1 hb).2
    simp [diffS, putsD, gonesD, getK] at ih ⊢
    exact ih
  | x :: a, y :: b, ha, hb => by
    have ha2 := List.pairwise_cons.1 ha
    have hb2 := List.pairwise_cons.1 hb
    unfold diffS
    cases h1 : sless x.1 y.1 with
    | true =>
      have ih := diff_perm a (y :: b) ha2.2 hb
      have big : ∀ e ∈ y :: b, sless x.1 e.1 = true := fun e he => by
        rcases List.mem_cons.1 he with rfl | he
        · exact h1
        · exact sless_trans _ _ _ h1 (hb2.1 e he)
      simp only [cond_true]
      rw [putsD_skip fun e he => sless_ne (big e he)]
      have : gonesD (x :: a) (y :: b) = (x.1, 0, true) :: gonesD a (y :: b) := by
        unfold gonesD
        rw [List.filterMap_cons, getK_none big]; rfl
      rw [this]
      exact (List.Perm.cons _ ih).trans List.perm_middle.symm
    | false =>
      cases h2 : sless y.1 x.1 with
      | true =>
        have ih := diff_perm (x :: a) b ha hb2.2
        have big : ∀ e ∈ x :: a, sless y.1 e.1 = true := fun e he => by
          rcases List.mem_cons.1 he with rfl | he
          · exact h2
          · exact sless_trans _ _ _ h2 (ha2.1 e he)
        simp only [cond_true, cond_false]
        rw [gonesD_skip fun e he => sless_ne (big e he)]
        have : putsD (x :: a) (y :: b) = (y.1, y.2, false) :: putsD (x :: a) b := by
          unfold putsD
          rw [List.filterMap_cons, getK_none big]; rfl
        rw [this]
        exact List.Perm.cons _ ih
      | false =>
        have e := sless_eq h1 h2
        have ih := diff_perm a b ha2.2 hb2.2
        simp only [cond_false]
        have g1 : gonesD (x :: a) (y :: b) = gonesD a b := by
          have : gonesD (x :: a) (y :: b) = gonesD a (y :: b) := by
            unfold gonesD
            rw [List.filterMap_cons]
            have : getK (y :: b) x.1 = some y := by
              unfold getK; rw [List.find?_cons]; simp [e]
            rw [this]; rfl
          rw [this, gonesD_skip fun z hz => by rw [← e]; exact sless_ne (ha2.1 z hz)]
        have g2 : putsD (x :: a) (y :: b) = (bif x.2 == y.2 then [] else [(y.1, y.2, false)]) ++ putsD a b := by
          have h3 : putsD (x :: a) b = putsD a b := putsD_skip fun z hz => by rw [e]; exact sless_ne (hb2.1 z hz)
          have h4 : getK (x :: a) y.1 = some x := by unfold getK; rw [List.find?_cons]; simp [e]
          have h5 : ((some x : Option En) == some y) = (x.2 == y.2) := by
            obtain ⟨x1, x2⟩ := x
            obtain ⟨y1, y2⟩ := y
            have e : x1 = y1 := e
            subst e
            show ((x1, x2) == (x1, y2)) = (x2 == y2)
            rw [Bool.eq_iff_iff]
            simp
          rw [← h3]
          unfold putsD
          rw [List.filterMap_cons, h4, h5]
          cases x.2 == y.2 <;> rfl
        rw [g1, g2, List.append_assoc]
        exact ih.append_left _
termination_by a b => a.length + b.length
theorem mem_diffS : ∀ (a b : List En) (e : Ed), e ∈ diffS a b → (∃ x ∈ a, x.1 = e.1) ∨ ∃ y ∈ b, y.1 = e.1
  | [], [], _, h => by simp [diffS] at h
  | x :: a, [], e, h => by
    simp [diffS] at h
    rcases h with rfl | h
    · exact .inl ⟨x, by simp, rfl⟩
    · rcases mem_diffS a [] e h with ⟨z, hz, h⟩ | ⟨z, hz, h⟩
      · exact .inl ⟨z, by simp [hz], h⟩
      · cases hz
  | [], y :: b, e, h => by
    simp [diffS] at h
    rcases h with rfl | h
    · exact .inr ⟨y, by simp, rfl⟩
    · rcases mem_diffS [] b e h with ⟨z, hz, h⟩ | ⟨z, hz, h⟩
      · cases hz
      · exact .inr ⟨z, by simp [hz], h⟩
  | x :: a, y :: b, e, h => by
    unfold diffS at h
    cases h1 : sless x.1 y.1 with
    | true =>
      rw [h1] at h
      rcases List.mem_cons.1 h with rfl | h
      · exact .inl ⟨x, by simp, rfl⟩
      · rcases mem_diffS a (y :: b) e h with ⟨z, hz, h⟩ | h
        · exact .inl ⟨z, by simp [hz], h⟩
        · exact .inr h
    | false =>
      rw [h1] at h
      cases h2 : sless y.1 x.1 with
      | true =>
        rw [h2] at h
        rcases List.mem_cons.1 h with rfl | h
        · exact .inr ⟨y, by simp, rfl⟩
        · rcases mem_diffS (x :: a) b e h with h | ⟨z, hz, h⟩
          · exact .inl h
          · exact .inr ⟨z, by simp [hz], h⟩
      | false =>
        rw [h2] at h
        rcases List.mem_append.1 h with h | h
        · have : e = (y.1, y.2, false) := by cases h3 : x.2 == y.2 <;> rw [h3] at h <;> simpa using h
          exact .inr ⟨y, by simp, by rw [this]⟩
        · rcases mem_diffS a b e h with ⟨z, hz, h⟩ | ⟨z, hz, h⟩
          · exact .inl ⟨z, by simp [hz], h⟩
          · exact .inr ⟨z, by simp [hz], h⟩
termination_by a b => a.length + b.length
theorem diffS_srt : ∀ (a b : List En), Srt a → Srt b → Srt (diffS a b)
  | [], [], _, _ => by simp [diffS, Srt]
  | x :: a, [], ha, hb => by
    have ha2 := List.pairwise_cons.1 ha
    simp only [diffS]
    refine List.pairwise_cons.2 ⟨fun e he => ?_, diffS_srt a [] ha2.2 hb⟩
    rcases mem_diffS _ _ _ he with ⟨z, hz, h⟩ | ⟨z, hz, h⟩
    · rw [← h]; exact ha2.1 z hz
    · cases hz
  | [], y :: b, ha, hb => by
    have hb2 := List.pairwise_cons.1 hb
    simp only [diffS]
    refine List.pairwise_cons.2 ⟨fun e he => ?_, diffS_srt [] b ha hb2.2⟩
    rcases mem_diffS _ _ _ he with ⟨z, hz, h⟩ | ⟨z, hz, h⟩
    · cases hz
    · rw [← h]; exact hb2.1 z hz
  | x :: a, y :: b, ha, hb => by
    have ha2 := List.pairwise_cons.1 ha
    have hb2 := List.pairwise_cons.1 hb
    unfold diffS
    cases h1 : sless x.1 y.1 with
    | true =>
      refine List.pairwise_cons.2 ⟨fun e he => ?_, diffS_srt a (y :: b) ha2.2 hb⟩
      rcases mem_diffS _ _ _ he with ⟨z, hz, h⟩ | ⟨z, hz, h⟩
      · rw [← h]; exact ha2.1 z hz
      · rw [← h]
        rcases List.mem_cons.1 hz with rfl | hz
        · exact h1
        · exact sless_trans _ _ _ h1 (hb2.1 z hz)
    | false =>
      cases h2 : sless y.1 x.1 with
      | true =>
        simp only [cond_true, cond_false]
        refine List.pairwise_cons.2 ⟨fun e he => ?_, diffS_srt (x :: a) b ha hb2.2⟩
        rcases mem_diffS _ _ _ he with ⟨z, hz, h⟩ | ⟨z, hz, h⟩
        · rw [← h]
          rcases List.mem_cons.1 hz with rfl | hz
          · exact h2
          · exact sless_trans _ _ _ h2 (ha2.1 z hz)
        · rw [← h]; exact hb2.1 z hz
      | false =>
        have e := sless_eq h1 h2
        have ih := diffS_srt a b ha2.2 hb2.2
        simp only [cond_false]
        cases h3 : x.2 == y.2 with
        | true => exact ih
        | false =>
          refine List.pairwise_cons.2 ⟨fun z hz => ?_, ih⟩
          rcases mem_diffS _ _ _ hz with ⟨u, hu, h⟩ | ⟨u, hu, h⟩
          · rw [← h, ← e]; exact ha2.1 u hu
          · rw [← h]; exact hb2.1 u hu
termination_by a b => a.length + b.length
theorem perm_srt {q l : List Ed} (hp : q.Perm l) (hl : Srt l) (hq : q.Pairwise fun a b => sless b.1 a.1 = false) : q = l := by
  have hl' : l.Pairwise fun a b => sless b.1 a.1 = false := hl.imp fun h => sless_asym h
  refine hp.eq_of_pairwise (fun a b ha hb h1 h2 => ?_) hq hl'
  have e := sless_eq h2 h1
  have ha' : a ∈ l := hp.subset ha
  by_cases hab : a = b
  · exact hab
  · have : sless a.1 b.1 = true ∨ sless b.1 a.1 = true := by
      rcases List.pairwise_iff_getElem.1 hl with hg
      obtain ⟨i, hi, rfl⟩ := List.getElem_of_mem ha'
      obtain ⟨j, hj, rfl⟩ := List.getElem_of_mem hb
      rcases Nat.lt_trichotomy i j with h | h | h
      · exact .inl (hg i j hi hj h)
      · subst h; exact absurd rfl hab
      · exact .inr (hg j i hj hi h)
    rcases this with h | h
    · rw [e, sless_irr] at h; cases h
    · rw [e, sless_irr] at h; cases h
theorem getD_get {α : Type} {l : List α} {i : Nat} (h : i < l.length) (d : α) : l.getD i d = l[i] := by simp [List.getD_eq_getElem?_getD, h]
theorem fold_ok {α σ τ : Type} {L : Nat → Nat → σ → Option τ} {l : List α} {d : α} {f : σ → α → σ} {fin : σ → τ} {I : Nat → σ → Prop} (h0 : ∀ n s, I l.length s → L (n + 1) l.length s = some (fin s))
    (h1 : ∀ n i s, (hi : i < l.length) → I i s → L (n + 1) i s = L n (i + 1) (f s (l.getD i d)) ∧ I (i + 1) (f s (l.getD i d))) :
    ∀ (m i n : Nat) (s : σ), i + m = l.length → m < n → I i s → L n i s = some (fin ((l.drop i).foldl f s))
  | 0, i, n + 1, s, hi, _, hI => by
    have : i = l.length := by omega
    subst this
    rw [h0 n s hI, List.drop_length]
    rfl
  | m + 1, i, n + 1, s, hi, hn, hI => by
    have hlt : i < l.length := by omega
    obtain ⟨e, hI'⟩ := h1 n i s hlt hI
    rw [e, fold_ok h0 h1 m (i + 1) n _ (by omega) (by omega) hI', getD_get hlt, List.drop_eq_getElem_cons hlt, List.foldl_cons]
def addO {β : Type} (s : List β) : Option β → List β
  | none => s
  | some y => s ++ [y]
theorem foldl_filterMap {α β : Type} (g : α → Option β) : ∀ (l : List α) (s : List β), l.foldl (fun s e => addO s (g e)) s = s ++ l.filterMap g
  | [], s => by simp
  | e :: l, s => by
    rw [List.foldl_cons, foldl_filterMap g l, List.filterMap_cons]
    cases g e <;> simp [addO]
theorem low_less (k : List UInt8) : ∀ (m : List En), Srt m → ∀ (h : Nat) (hh : h < m.length), sless m[h].1 k = decide (h < lowK m k)
  | e :: m, hs, h, hh => by
    have h2 := List.pairwise_cons.1 hs
    rw [lowK_cons]
    cases hl : sless e.1 k with
    | true =>
      cases h with
      | zero => simp [hl]
      | succ h =>
        have := low_less k m h2.2 h (by simpa using hh)
        simp [this]
    | false =>
      cases h with
      | zero => simp [hl]
      | succ h =>
        have hm : m[h]'(by simpa using hh) ∈ m := List.getElem_mem _
        have h1 := h2.1 _ hm
        simp only [List.getElem_cons_succ, cond_false, Nat.not_lt_zero, decide_false]
        cases h3 : sless (m[h]'(by simpa using hh)).1 k with
        | false => rfl
        | true => have := sless_trans _ _ _ h1 h3; rw [hl] at this; cases this
theorem half_eq {i j : Nat} (h : i < j) (hj : j ≤ 4611686018427387903) : IntKind.i64.wrap (Fw.shrOf (IntKind.u64.wrap (IntKind.i64.wrap ((i : Int) + (j : Int)))) (min (Int.toNat 1) (IntKind.bits .u64))) = (((i + j) / 2 : Nat) : Int) := by
  have e1 : IntKind.i64.wrap ((i : Int) + (j : Int)) = ((i + j : Nat) : Int) := by rw [wrap_id (by omega) (by omega)]; omega
  have e2 : IntKind.u64.wrap ((i + j : Nat) : Int) = ((i + j : Nat) : Int) := by
    show (((i + j : Nat) : Int) % 18446744073709551616) = _
    omega
  have e3 : Fw.shrOf ((i + j : Nat) : Int) (min (Int.toNat 1) (IntKind.bits .u64)) = (((i + j) / 2 : Nat) : Int) := by
    show Int.fdiv ((i + j : Nat) : Int) (2 ^ 1) = _
    rw [Int.fdiv_eq_ediv_of_nonneg _ (by decide)]
    omega
  rw [e1, e2, e3, wrap_id (by omega) (by omega)]
theorem bs_loop {m : List En} (hs : Srt m) (hm : m.length ≤ 4611686018427387903) (k : List UInt8) (q2 : Int) (q3 : Bool) (q4 : Int) : ∀ (d n i j : Nat), j - i ≤ d → d < n → i ≤ lowK m k → lowK m k ≤ j → j ≤ m.length →
    R.L_qaa_0 K n (m, k, q2, q3, q4, (i : Int), (j : Int), ()) = some (.inl (m, k, q2, q3, q4, (lowK m k : Int), ()))
  | d, n + 1, i, j, hd, hn, h1, h2, h3 => by
    unfold R.L_qaa_0
    by_cases hij : i < j
    · have hh : (i + j) / 2 < m.length := by omega
      have e := low_less k m hs ((i + j) / 2) hh
      rw [half_eq hij (by omega)]
      simp only [show (i : Int) < (j : Int) from by omega, decide_true, cond_true, idx_nn, idx_lt hh, Bool.and_self, Int.toNat_natCast, getD_get hh, cmpB_lt, e]
      by_cases hl : (i + j) / 2 < lowK m k
      · rw [wrap_succ hh (by omega)]
        simp only [hl, decide_true, cond_true]
        cases d with
        | zero => omega
        | succ d => exact bs_loop hs hm k q2 q3 q4 d n _ _ (by omega) (by omega) (by omega) h2 h3
      · simp only [hl, decide_false, cond_false]
        cases d with
        | zero => omega
        | succ d => exact bs_loop hs hm k q2 q3 q4 d n _ _ (by omega) (by omega) h1 (by omega) (by omega)
    · have e : i = lowK m k := by omega
      simp only [show ¬ (i : Int) < (j : Int) from by omega, decide_false, cond_false]
      rw [e]
  | _, 0, _, _, _, hn, _, _, _ => absurd hn (Nat.not_lt_zero _)
theorem find_eq (hK : 9223372036854775807 < K) {m : List En} (hs : Srt m) (hm : m.length ≤ 4611686018427387903) (k : List UInt8) : R.qdd K m k = some (((lowK m k : Int), hasK m k, ()), ()) := by
  unfold R.qdd R.qaa
  have := bs_loop (K := K) hs hm k 0 false (m.length : Int) m.length K 0 m.length (by omega) (by omega) (Nat.zero_le _) (lowK_le k m) (Nat.le_refl _)
  rw [show ((0 : Nat) : Int) = 0 from rfl] at this
  rw [this]
  simp only [obind_some]
  by_cases h : lowK m k < m.length
  · simp only [idx_lt h, idx_nn, cond_true, Bool.and_self, Int.toNat_natCast, obind_some]
    have : (Lib.compareBytes (m.getD (lowK m k) ([], 0)).1 k == 0) = hasK m k := by
      have e := cmpB_eq (m.getD (lowK m k) ([], 0)).1 k
      rw [getD_get h] at e ⊢
      unfold hasK
      rw [List.getElem?_eq_getElem h]
      exact e
    rw [this]
  · simp only [show ¬ ((lowK m k : Nat) : Int) < (m.length : Int) from by omega, decide_false, cond_false, obind_some]
    have : hasK m k = false := by
      unfold hasK
      rw [List.getElem?_eq_none (by omega)]
    rw [this]
theorem putS_len (k : List UInt8) (v : Int) : ∀ (m : List En), (putS m k v).length ≤ m.length + 1
  | [] => by simp [putS]
  | e :: m => by
    have := putS_len k v m
    unfold putS
    cases sless e.1 k <;> cases e.1 == k <;> simp <;> omega
theorem editS_len (e : Ed) (m : List En) : (editS m e).length ≤ m.length + 1 := by
  unfold editS
  cases e.2.2
  · exact putS_len _ _ m
  · have := List.length_filter_le (fun x : En => !(x.1 == e.1)) m
    simp only [cond_true, remS]
    omega
theorem cutK_le (m : List En) (k : List UInt8) : lowK m k ≤ (cutM m k).length ∧ (cutM m k).length ≤ m.length := by
  have := lowK_le k m
  unfold cutM
  cases h : hasK m k with
  | false => simpa using this
  | true =>
    have := hasK_lt h
    simp only [cond_true, List.length_append, List.length_take, List.length_drop]
    omega
theorem edited_loop (hK : 9223372036854775807 < K) (l : List Ed) (hl : l.length ≤ 1000000) : ∀ (m i n : Nat) (s : List En), i + m = l.length → m < n → (Srt s ∧ s.length ≤ 1000000 + i) →
    R.L_qct_0 K n (l, (l.length : Int), (i : Int), [], s, ()) = some (.inl ([], (l.drop i).foldl editS s, ())) := by
  refine fold_ok (L := fun n i s => R.L_qct_0 K n (l, (l.length : Int), (i : Int), [], s, ())) (d := ([], 0, false)) (I := fun i s => Srt s ∧ s.length ≤ 1000000 + i) (fin := fun s => .inl ([], s, ())) (fun n s hI => ?_) (fun n i s hi hI => ?_)
  · simp only [R.L_qct_0, idx_end, cond_false]
  · generalize hge : l.getD i ([], 0, false) = e
    obtain ⟨hs, hlen⟩ := hI
    have hcl := cutK_le s e.1
    refine ⟨?_, editS_srt e hs, by have := editS_len e s; omega⟩
    simp only [R.L_qct_0, idx_lt hi, idx_nn, Bool.and_self, cond_true, Int.toNat_natCast, hge, find_eq hK hs (show s.length ≤ 4611686018427387903 by omega), obind_some, wrap_succ hi (show l.length ≤ 9223372036854775807 by omega)]
    have hins : R.qak K (cutM s e.1) (lowK s e.1 : Int) [(e.1, e.2.1)] = some ((putS s e.1 e.2.1, ()), ()) := by
      unfold R.qak Fw.insF
      have h1 : ((lowK s e.1 : Nat) : Int) ≤ ((cutM s e.1).length : Int) := by omega
      have h2 : Nat.ble ((cutM s e.1).length + 1) Fw.maxGrow = true := Nat.ble_eq_true_of_le (by show _ ≤ 268435456; omega)
      simp only [idx_nn, h1, decide_true, h2, Bool.and_self, Bool.true_and, Bool.and_true, List.length_cons, List.length_nil, Int.toNat_natCast, cut_put]
      rfl
    have hcut : hasK s e.1 = true → R.qal K s (lowK s e.1 : Int) (IntKind.i64.wrap ((lowK s e.1 : Int) + 1)) = some ((cutM s e.1, ()), ()) := fun h => by
      have hlt := hasK_lt h
      unfold R.qal Fw.delF cutM
      rw [wrap_succ hlt (by omega)]
      have e1 : decide (((lowK s e.1 + 1 : Nat) : Int) = ((lowK s e.1 : Nat) : Int) + 1) = true := by simp
      simp only [idx_nn, idx_lt hlt, e1, Bool.and_self, cond_true, Int.toNat_natCast, h]
    unfold editS
    cases h : hasK s e.1 with
    | true =>
      simp only [cond_true, hcut h, obind_some]
      cases e.2.2 with
      | false => simp only [Bool.not_false, cond_true, hins, obind_some, cond_false]
      | true => simp only [Bool.not_true, cond_false, cond_true, cut_rem _ _ hs]
    | false =>
      have hc : cutM s e.1 = s := by unfold cutM; rw [h]; rfl
      rw [hc] at hins
      simp only [cond_false]
      cases e.2.2 with
      | false => simp only [Bool.not_false, cond_true, hins, obind_some, cond_false]
      | true =>
        have := cut_rem e.1 s hs
        rw [hc] at this
        simp only [Bool.not_true, cond_false, cond_true]
        rw [← this]
theorem edited_eq (hK : 9223372036854775807 < K) {m : List En} (hs : Srt m) (hm : m.length ≤ 1000000) (l : List Ed) (hl : l.length ≤ 1000000) : R.qct K m l = some ((editsS m l, ()), ()) := by
  unfold R.qct editsS
  have := edited_loop (K := K) hK l hl l.length 0 K m (by omega) (by omega) ⟨hs, by omega⟩
  rw [show ((0 : Nat) : Int) = 0 from rfl] at this
  simp only [Clone_En_eq m (by omega), obind_some, this, List.drop_zero]
theorem remove_eq (hK : 9223372036854775807 < K) (m : List En) (hm : m.length ≤ 1000000) (k : List UInt8) : R.qaW K m k = some ((remS m k, ()), ()) := by
  have h := fold_ok (L := fun n i s => R.L_qaW_0 K n (m, k, (i : Int), [], s, ())) (d := ([], 0)) (l := m) (I := fun i s => s.length ≤ i) (f := fun s e => addO s (if (!(e.1 == k)) = true then some e else none)) (fin := fun s => .inl ([], s, ())) (fun n s hI => by simp only [R.L_qaW_0, idx_end, cond_false]) (fun n i s hi hI => by
    generalize hge : m.getD i ([], 0) = e
    have h2 : Nat.ble (s.length + 1) 268435456 = true := Nat.ble_eq_true_of_le (by omega)
    simp only [R.L_qaW_0, idx_lt hi, idx_nn, Bool.and_self, cond_true, Int.toNat_natCast, hge, h2, wrap_succ hi (show m.length ≤ 9223372036854775807 by omega)]
    cases e.1 == k
    · refine ⟨by simp [addO], by simp [addO]; omega⟩
    · refine ⟨by simp [addO], by simp [addO]; omega⟩) m.length 0 K [] (by omega) (by omega) (by simp)
  unfold R.qaW
  have h : R.L_qaW_0 K K (m, k, 0, [], [], ()) = _ := h
  rw [foldl_filterMap (fun e : En => if (!(e.1 == k)) = true then some e else none)] at h
  simp only [h, obind_some, List.drop_zero, List.nil_append, remS]
  congr 3
  rw [← List.filterMap_eq_filter]
  rfl
theorem put_loop (k : List UInt8) (v : Int) : ∀ (r : List En) (n i : Nat) (m : List En) (d : Bool) (q5 out : List En), m.length ≤ 1000000 → i + r.length = m.length → m.drop i = r → r.length < n → out.length ≤ 2 * i →
    ∃ out', R.L_qcy_0 K n (m, k, v, d, (i : Int), q5, out, ()) = some (.inl (k, v, d || r.any fun e => !sless e.1 k, q5, out', ())) ∧ out'.length ≤ 2 * m.length ∧ out' ++ (bif d || r.any fun e => !sless e.1 k then [] else [(k, v)]) = out ++ putL k v d r
  | [], n + 1, i, m, d, q5, out, hm, hi, hr, hn, ho => by
    have : i = m.length := by simpa using hi
    subst this
    refine ⟨out, by simp only [R.L_qcy_0, idx_end, cond_false, List.any_nil, Bool.or_false], by omega, ?_⟩
    cases d <;> simp [putL]
  | e :: r, n + 1, i, m, d, q5, out, hm, hi, hr, hn, ho => by
    have hlt : i < m.length := by simp at hi; omega
    have hge : m.getD i ([], 0) = e := by
      rw [getD_get hlt]
      have := List.drop_eq_getElem_cons hlt
      rw [hr] at this
      exact (List.cons.inj this).1.symm
    have hr2 : m.drop (i + 1) = r := by
      have := List.drop_eq_getElem_cons hlt
      rw [hr] at this
      exact (List.cons.inj this).2.symm
    have b1 : Nat.ble (out.length + 1) 268435456 = true := Nat.ble_eq_true_of_le (by omega)
    have b2 : Nat.ble ((out ++ [(k, v)]).length + 1) 268435456 = true := Nat.ble_eq_true_of_le (by simp; omega)
    have hi2 : i + 1 + r.length = m.length := by simp at hi; omega
    have hn2 : r.length < n := by simp at hn; omega
    cases d with
    | true =>
      cases he : e.1 == k with
      | true =>
        obtain ⟨o, h1, h2, h3⟩ := put_loop k v r n (i + 1) m true q5 out hm hi2 hr2 hn2 (by omega)
        refine ⟨o, ?_, h2, ?_⟩
        · simp only [R.L_qcy_0, idx_lt hlt, idx_nn, Bool.and_self, cond_true, cond_false, Bool.not_true, Int.toNat_natCast, hge, he, wrap_succ hlt (show m.length ≤ 9223372036854775807 by omega), h1]
          simp
        · rw [putL]; simp [he] at h3 ⊢; exact h3
      | false =>
        obtain ⟨o, h1, h2, h3⟩ := put_loop k v r n (i + 1) m true q5 (out ++ [e]) hm hi2 hr2 hn2 (by simp; omega)
        refine ⟨o, ?_, h2, ?_⟩
        · simp only [R.L_qcy_0, idx_lt hlt, idx_nn, Bool.and_self, cond_true, cond_false, Bool.not_true, Bool.not_false, Int.toNat_natCast, hge, he, b1, wrap_succ hlt (show m.length ≤ 9223372036854775807 by omega), h1]
          simp
        · rw [putL]; simp [he] at h3 ⊢; exact h3
    | false =>
      cases hl : sless e.1 k with
      | true =>
        have he : (e.1 == k) = false := by simpa using sless_ne hl
        obtain ⟨o, h1, h2, h3⟩ := put_loop k v r n (i + 1) m false q5 (out ++ [e]) hm hi2 hr2 hn2 (by simp; omega)
        refine ⟨o, ?_, h2, ?_⟩
        · simp only [R.L_qcy_0, idx_lt hlt, idx_nn, Bool.and_self, cond_true, cond_false, Bool.not_true, Bool.not_false, Int.toNat_natCast, hge, he, hl, b1, wrap_succ hlt (show m.length ≤ 9223372036854775807 by omega), h1]
          simp [hl]
        · rw [putL]; simp [he, hl] at h3 ⊢; exact h3
      | false =>
        cases he : e.1 == k with
        | true =>
          obtain ⟨o, h1, h2, h3⟩ := put_loop k v r n (i + 1) m true q5 (out ++ [(k, v)]) hm hi2 hr2 hn2 (by simp; omega)
          refine ⟨o, ?_, h2, ?_⟩
          · simp only [R.L_qcy_0, idx_lt hlt, idx_nn, Bool.and_self, cond_true, cond_false, Bool.not_true, Bool.not_false, Int.toNat_natCast, hge, he, hl, b1, wrap_succ hlt (show m.length ≤ 9223372036854775807 by omega), h1]
            simp [hl]
          · rw [putL]; simp [he, hl] at h3 ⊢; exact h3
        | false =>
          obtain ⟨o, h1, h2, h3⟩ := put_loop k v r n (i + 1) m true q5 (out ++ [(k, v)] ++ [e]) hm hi2 hr2 hn2 (by simp; omega)
          refine ⟨o, ?_, h2, ?_⟩
          · simp only [R.L_qcy_0, idx_lt hlt, idx_nn, Bool.and_self, cond_true, cond_false, Bool.not_true, Bool.not_false, Int.toNat_natCast, hge, he, hl, b1, b2, wrap_succ hlt (show m.length ≤ 9223372036854775807 by omega), h1]
            simp [hl]
          · rw [putL]; simp [he, hl] at h3 ⊢; exact h3
theorem put_eq (hK : 9223372036854775807 < K) {m : List En} (hs : Srt m) (hm : m.length ≤ 1000000) (k : List UInt8) (v : Int) : R.qcy K m k v = some ((putS m k v, ()), ()) := by
  obtain ⟨o, h1, h2, h3⟩ := put_loop (K := K) k v m K 0 m false [] [] hm (by omega) rfl (by omega) (by simp)
  have h1 : R.L_qcy_0 K K (m, k, v, false, 0, [], [], ()) = _ := h1
  unfold R.qcy
  rw [putL_eq k v hs, List.nil_append] at h3
  simp only [h1, obind_some, Bool.false_or]
  simp only [Bool.false_or] at h3
  rw [← h3]
  have b1 : Nat.ble (o.length + 1) 268435456 = true := Nat.ble_eq_true_of_le (by omega)
  cases m.any fun e => !sless e.1 k <;> simp [b1]
theorem apply_eq (hK : 9223372036854775807 < K) {m : List En} (hs : Srt m) (hm : m.length ≤ 500000) (l : List Ed) (hl : l.length ≤ 400000) : R.qbp K m l = some ((editsS m l, ()), ()) := by
  have h := fold_ok (L := fun n i s => R.L_qbp_0 K n (l, (i : Int), s, [], ())) (d := ([], 0, false)) (l := l) (I := fun i s => Srt s ∧ s.length ≤ 500000 + i) (f := editS) (fin := fun s => .inl (s, [], ())) (fun n s hI => by simp only [R.L_qbp_0, idx_end, cond_false]) (fun n i s hi hI => by
    obtain ⟨hI1, hI2⟩ := hI
    generalize hge : l.getD i ([], 0, false) = e
    refine ⟨?_, editS_srt e hI1, by have := editS_len e s; omega⟩
    simp only [R.L_qbp_0, idx_lt hi, idx_nn, Bool.and_self, cond_true, Int.toNat_natCast, hge, wrap_succ hi (show l.length ≤ 9223372036854775807 by omega), remove_eq hK s (show s.length ≤ 1000000 by omega), put_eq hK hI1 (show s.length ≤ 1000000 by omega), obind_some]
    unfold editS
    cases e.2.2 <;> rfl) l.length 0 K m (by omega) (by omega) ⟨hs, by omega⟩
  unfold R.qbp
  have h : R.L_qbp_0 K K (l, 0, m, [], ()) = _ := h
  have b1 : Nat.ble (0 + m.length) 268435456 = true := Nat.ble_eq_true_of_le (by omega)
  simp only [h, obind_some, List.drop_zero, b1, cond_true, editsS]
theorem puts_fold {a : List En} (ha : Srt a) (s : List Ed) (e : En) :
    addO s (bif getK a e.1 == some e then none else some (e.1, e.2, false) : Option Ed) = bif hasK a e.1 && ((a.getD (lowK a e.1) ([], 0)).2 == e.2) then s else s ++ [(e.1, e.2, false)] := by
  have hg := getK_eq e.1 a ha
  cases h : hasK a e.1 with
  | false => rw [h] at hg; simp only [cond_false] at hg; rw [hg]; simp [addO]
  | true =>
    have hlt := hasK_lt h
    rw [h, List.getElem?_eq_getElem hlt] at hg
    simp only [cond_true] at hg
    rw [hg, getD_get hlt]
    have hk : (a[lowK a e.1]).1 = e.1 := by
      have := h
      unfold hasK at this
      rw [List.getElem?_eq_getElem hlt] at this
      simpa using this
    have : ((some a[lowK a e.1] : Option En) == some e) = (a[lowK a e.1].2 == e.2) := by
      show (a[lowK a e.1] == e) = _
      obtain ⟨e1, e2⟩ := e
      generalize a[lowK a (e1, e2).1] = z at hk ⊢
      obtain ⟨z1, z2⟩ := z
      have hk : z1 = e1 := hk
      subst hk
      rw [Bool.eq_iff_iff]
      simp
    rw [this]
    cases a[lowK a e.1].2 == e.2 <;> rfl
theorem diff0_loop (hK : 9223372036854775807 < K) {a : List En} (ha : Srt a) (hla : a.length ≤ 1000000) (b : List En) (hlb : b.length ≤ 1000000) (q5 : List Ed) : ∀ (m i n : Nat) (s : List Ed), i + m = b.length → m < n → s.length ≤ i →
    R.L_qdb_0 K n (a, b, b, (b.length : Int), (i : Int), q5, s, ()) = some (.inl (a, b, q5, (b.drop i).foldl (fun s e => addO s (bif getK a e.1 == some e then none else some (e.1, e.2, false) : Option Ed)) s, ())) := by
  refine fold_ok (L := fun n i s => R.L_qdb_0 K n (a, b, b, (b.length : Int), (i : Int), q5, s, ())) (d := ([], 0)) (I := fun i s => s.length ≤ i) (fin := fun s => .inl (a, b, q5, s, ())) (fun n s hI => by simp only [R.L_qdb_0, idx_end, cond_false]) (fun n i s hi hI => ?_)
  generalize hge : b.getD i ([], 0) = e
  rw [puts_fold ha]
  have b1 : Nat.ble (s.length + 1) 268435456 = true := Nat.ble_eq_true_of_le (by omega)
  simp only [R.L_qdb_0, idx_lt hi, idx_nn, Bool.and_self, cond_true, Int.toNat_natCast, hge, b1, find_eq hK ha (show a.length ≤ 4611686018427387903 by omega), obind_some, wrap_succ hi (show b.length ≤ 9223372036854775807 by omega)]
  cases h : hasK a e.1 with
  | false => exact ⟨rfl, by simp; omega⟩
  | true =>
    have hlt := hasK_lt h
    simp only [Bool.not_true, cond_false, idx_lt hlt, cond_true, Bool.true_and, bne]
    cases (a.getD (lowK a e.1) ([], 0)).2 == e.2
    · exact ⟨rfl, by simp; omega⟩
    · exact ⟨rfl, by simp; omega⟩
theorem diff1_loop (hK : 9223372036854775807 < K) {b : List En} (hb : Srt b) (hlb : b.length ≤ 1000000) (a : List En) (hla : a.length ≤ 1000000) (q4 : List Ed) : ∀ (m i n : Nat) (s : List Ed), i + m = a.length → m < n → s.length ≤ 1000000 + i →
    R.L_qcs K n (b, a, (a.length : Int), (i : Int), q4, s, ()) = some (.inl (q4, (a.drop i).foldl (fun s e => addO s (bif (getK b e.1).isSome then none else some (e.1, 0, true) : Option Ed)) s, ())) := by
  refine fold_ok (L := fun n i s => R.L_qcs K n (b, a, (a.length : Int), (i : Int), q4, s, ())) (d := ([], 0)) (I := fun i s => s.length ≤ 1000000 + i) (fin := fun s => .inl (q4, s, ())) (fun n s hI => by simp only [R.L_qcs, idx_end, cond_false]) (fun n i s hi hI => ?_)
  generalize hge : a.getD i ([], 0) = e
  have b1 : Nat.ble (s.length + 1) 268435456 = true := Nat.ble_eq_true_of_le (by omega)
  simp only [R.L_qcs, idx_lt hi, idx_nn, Bool.and_self, cond_true, Int.toNat_natCast, hge, b1, find_eq hK hb (show b.length ≤ 4611686018427387903 by omega), obind_some, wrap_succ hi (show a.length ≤ 9223372036854775807 by omega), ← hasK_get hb]
  cases hasK b e.1 with
  | false => exact ⟨rfl, by simp [addO]; omega⟩
  | true => exact ⟨rfl, by simp [addO]; omega⟩
theorem sorted_eq {xs l : List Ed} (hp : l.Perm xs) (hl : Srt l) : (Sort.pdq (ltOf Fw.keyCmp) xs.toArray 0 xs.length (Lib.bitLen xs.length) true true).toList = l := by
  have h := Sort.pdq_sorts (ltOf Fw.keyCmp) Fw.keyCmp_swo xs.toArray 0 xs.toArray.size (Lib.bitLen xs.toArray.size) true true (Nat.zero_le _) (Nat.le_refl _) (Or.inl rfl)
  simp only [List.size_toArray] at h
  generalize Sort.pdq (ltOf Fw.keyCmp) xs.toArray 0 xs.length (Lib.bitLen xs.length) true true = q at h ⊢
  obtain ⟨⟨h1, _, h3⟩, h4⟩ := h
  have hq : q.size = xs.length := by simpa using h1
  have e1 : (q.extract 0 xs.length).toList = q.toList := by rw [← hq]; simp
  have e2 : (xs.toArray.extract 0 xs.length).toList = xs := by simp
  rw [e1, e2] at h3
  refine perm_srt (h3.trans hp.symm) hl (List.pairwise_iff_getElem.2 fun i j hi hj hij => ?_)
  have := h4 i j (Nat.zero_le _) hij (by rw [← hq]; simpa using hj)
  rw [getElem!_pos q j (by simpa using hj), getElem!_pos q i (by simpa using hi), Fw.keyCmp_lt] at this
  simpa using this
theorem diff_eq (hK : 9223372036854775807 < K) {a b : List En} (ha : Srt a) (hb : Srt b) (hla : a.length ≤ 1000000) (hlb : b.length ≤ 1000000) : R.qdb K a b = some ((diffS a b, ()), ()) := by
  have h0 := diff0_loop (K := K) hK ha hla b hlb [] b.length 0 K [] (by omega) (by omega) (by simp)
  rw [foldl_filterMap (fun e : En => (bif getK a e.1 == some e then none else some (e.1, e.2, false) : Option Ed)), List.nil_append, List.drop_zero] at h0
  have h0 : R.L_qdb_0 K K (a, b, b, (b.length : Int), 0, [], [], ()) = _ := h0
  have hlen : (putsD a b).length ≤ b.length := by unfold putsD; exact List.length_filterMap_le _ _
  have hlen2 : (gonesD a b).length ≤ a.length := by unfold gonesD; exact List.length_filterMap_le _ _
  have h1 := diff1_loop (K := K) hK hb hlb a hla [] a.length 0 K (putsD a b) (by omega) (by omega) (by omega)
  rw [foldl_filterMap (fun e : En => (bif (getK b e.1).isSome then none else some (e.1, 0, true) : Option Ed)), List.drop_zero] at h1
  have h1 : R.L_qcs K K (b, a, (a.length : Int), 0, [], putsD a b, ()) = _ := h1
  unfold R.qdb R.qaj Fw.sortF
  simp only [h0, obind_some]
  show obind (R.L_qcs K K (b, a, (a.length : Int), 0, [], putsD a b, ())) _ = _
  rw [h1]
  simp only [obind_some]
  have b1 : Nat.ble (putsD a b ++ gonesD a b).length Fw.maxGrow = true := Nat.ble_eq_true_of_le (by show _ ≤ 268435456; simp; omega)
  have := sorted_eq (diff_perm a b ha hb) (diffS_srt a b ha hb)
  show obind (bif Nat.ble (putsD a b ++ gonesD a b).length Fw.maxGrow then some ((), ((Sort.pdq (ltOf Fw.keyCmp) (putsD a b ++ gonesD a b).toArray 0 (putsD a b ++ gonesD a b).length (Lib.bitLen (putsD a b ++ gonesD a b).length) true true).toList, ())) else none) _ = _
  rw [b1, this]
  rfl
theorem ieq_lt {i n : Nat} (h : i < n) : ((i : Int) == (n : Int)) = false := by
  have : ¬ ((i : Int) = (n : Int)) := by omega
  simpa using this
theorem ieq_self {n : Nat} : ((n : Int) == (n : Int)) = true := by simp
theorem diffL (a b : List En) (hla : a.length ≤ 1000000) (hlb : b.length ≤ 1000000) (q4 : List Ed) : ∀ (d n i k : Nat) (out : List Ed), (a.length - i) + (b.length - k) ≤ d → d < n → i ≤ a.length → k ≤ b.length → out.length ≤ i + k →
    R.L_qbJ_0 K n (a, b, (i : Int), (k : Int), q4, out, ()) = some (.inl (q4, out ++ diffS (a.drop i) (b.drop k), ()))
  | d, 0, _, _, _, _, hn, _, _, _ => absurd hn (Nat.not_lt_zero _)
  | d, n + 1, i, k, out, hd, hn, hi, hk, ho => by
    have b1 : Nat.ble (out.length + 1) 268435456 = true := Nat.ble_eq_true_of_le (by omega)
    by_cases h1 : i < a.length
    · have w1 := wrap_succ h1 (show a.length ≤ 9223372036854775807 by omega)
      by_cases h2 : k < b.length
      · have w2 := wrap_succ h2 (show b.length ≤ 9223372036854775807 by omega)
        cases d with
        | zero => omega
        | succ d =>
          rw [List.drop_eq_getElem_cons h1, List.drop_eq_getElem_cons h2, diffS, ← List.drop_eq_getElem_cons h1, ← List.drop_eq_getElem_cons h2]
          simp only [R.L_qbJ_0, idx_lt h1, idx_lt h2, idx_nn, Bool.and_self, cond_true, cond_false, ieq_lt h1, ieq_lt h2, Int.toNat_natCast, getD_get h1, getD_get h2, b1, w1, w2]
          cases e1 : sless a[i].1 b[k].1 with
          | true =>
            simp only [cond_true, cond_false]
            rw [diffL a b hla hlb q4 d n (i + 1) k _ (by omega) (by omega) (by omega) hk (by simp; omega)]
            simp
          | false =>
            cases e2 : sless b[k].1 a[i].1 with
            | true =>
              simp only [cond_true, cond_false]
              rw [diffL a b hla hlb q4 d n i (k + 1) _ (by omega) (by omega) hi (by omega) (by simp; omega)]
              simp
            | false =>
              simp only [cond_true, cond_false, bne]
              cases e3 : a[i].2 == b[k].2 with
              | true =>
                simp only [Bool.not_true, cond_true, cond_false]
                rw [diffL a b hla hlb q4 d n (i + 1) (k + 1) _ (by omega) (by omega) (by omega) (by omega) (by omega)]
                simp
              | false =>
                simp only [Bool.not_false, cond_true, cond_false]
                rw [diffL a b hla hlb q4 d n (i + 1) (k + 1) _ (by omega) (by omega) (by omega) (by omega) (by simp; omega)]
                simp
      · have h2 : k = b.length := by omega
        subst h2
        cases d with
        | zero => omega
        | succ d =>
          simp only [R.L_qbJ_0, idx_lt h1, idx_nn, Bool.and_self, cond_true, cond_false, ieq_self, Int.toNat_natCast, getD_get h1, b1, w1]
          rw [diffL a b hla hlb q4 d n (i + 1) b.length _ (by omega) (by omega) (by omega) (by omega) (by simp; omega)]
          rw [List.drop_eq_getElem_cons h1, List.drop_length, diffS]
          simp
    · have h1 : i = a.length := by omega
      subst h1
      by_cases h2 : k < b.length
      · have w2 := wrap_succ h2 (show b.length ≤ 9223372036854775807 by omega)
        cases d with
        | zero => omega
        | succ d =>
          simp only [R.L_qbJ_0, idx_lt h2, idx_nn, idx_end, Bool.and_self, Bool.and_false, cond_true, cond_false, ieq_lt h2, ieq_self, Int.toNat_natCast, getD_get h2, b1, w2]
          rw [diffL a b hla hlb q4 d n a.length (k + 1) _ (by omega) (by omega) (by omega) (by omega) (by simp; omega)]
          rw [List.drop_eq_getElem_cons h2, List.drop_length, diffS]
          simp
      · have h2 : k = b.length := by omega
        subst h2
        simp only [R.L_qbJ_0, idx_end, cond_false, List.drop_length, diffS, List.append_nil]
theorem l01Diff_eq (hK : 9223372036854775807 < K) {a b : List En} (hla : a.length ≤ 1000000) (hlb : b.length ≤ 1000000) : R.qbJ K a b = some ((diffS a b, ()), ()) := by
  have := diffL (K := K) a b hla hlb [] (a.length + b.length) K 0 0 [] (by omega) (by omega) (by omega) (by omega) (by simp)
  have this : R.L_qbJ_0 K K (a, b, 0, 0, [], [], ()) = _ := this
  unfold R.qbJ
  simp only [this, obind_some, List.drop_zero, List.nil_append]
def edSame (x e : Ed) : Bool := x.1 == e.1 && (x.2.1 == e.2.1 && x.2.2 == e.2.2)
def mstep (left : List Ed) (s : List Ed × List (List UInt8)) (e : Ed) : List Ed × List (List UInt8) :=
  match getK left e.1 with
  | none => (s.1 ++ [e], s.2)
  | some x => bif edSame x e then s else (s.1, s.2 ++ [e.1])
def mergeS (base a b : List En) : List Ed × List (List UInt8) := (diffS base b).foldl (mstep (diffS base a)) ([], [])
def merge3 (base a b : List En) : List En × List (List UInt8) × Int :=
  bif decide (0 < (mergeS base a b).2.length) then ([], (mergeS base a b).2, 11)
  else bif decide (12 < (editsS a (mergeS base a b).1).length) then ([], [], 7) else (editsS a (mergeS base a b).1, [], 0)
def asM (l : List Ed) : List (List UInt8 × Ed) := l.map fun e => (e.1, e)
theorem putM_new (e : Ed) : ∀ (l : List Ed), (∀ x ∈ l, x.1 ≠ e.1) → Fw.putM (asM l) e.1 e = asM (l ++ [e])
  | [], _ => rfl
  | x :: l, h => by
    have hx : (e.1 == x.1) = false := by simpa using (h x (by simp)).symm
    show (bif e.1 == x.1 then _ else (x.1, x) :: Fw.putM (asM l) e.1 e) = _
    rw [hx, putM_new e l fun y hy => h y (by simp [hy])]
    rfl
theorem hasM_as (k : List UInt8) : ∀ (l : List Ed), Fw.hasM (asM l) k = (getK l k).isSome
  | [] => rfl
  | x :: l => by
    have ih := hasM_as k l
    unfold getK at ih ⊢
    rw [List.find?_cons]
    show (bif k == x.1 then true else Fw.hasM (asM l) k) = _
    rw [ih]
    by_cases h : x.1 = k
    · have h1 : (k == x.1) = true := by simpa using h.symm
      have h2 : (x.1 == k) = true := by simpa using h
      rw [h1, h2]; rfl
    · have h1 : (k == x.1) = false := by simpa using fun e => h e.symm
      have h2 : (x.1 == k) = false := by simpa using h
      rw [h1, h2]; rfl
theorem getM_as (d : Ed) (k : List UInt8) : ∀ (l : List Ed), Fw.getM d (asM l) k = (getK l k).getD d
  | [] => rfl
  | x :: l => by
    have ih := getM_as d k l
    unfold getK at ih ⊢
    rw [List.find?_cons]
    show (bif k == x.1 then x else Fw.getM d (asM l) k) = _
    rw [ih]
    by_cases h : x.1 = k
    · have h1 : (k == x.1) = true := by simpa using h.symm
      have h2 : (x.1 == k) = true := by simpa using h
      rw [h1, h2]; rfl
    · have h1 : (k == x.1) = false := by simpa using fun e => h e.symm
      have h2 : (x.1 == k) = false := by simpa using h
      rw [h1, h2]; rfl
theorem own_loop {l : List Ed} (hs : Srt l) (hl : l.length ≤ 2000000) (q0 q1 q2 : List En) (q3 : Int) (q6 : List En) (q7 : List (List UInt8)) : ∀ (m i n : Nat), i + m = l.length → m < n →
    R.L_qcO_0 K n (q0, q1, q2, q3, (l.length : Int), (i : Int), q6, q7, asM (l.take i), l, ()) = some (.inl (q0, q1, q2, q3, q6, q7, asM l, ()))
  | 0, i, n + 1, hi, _ => by
    have : i = l.length := by omega
    subst this
    simp only [R.L_qcO_0, idx_end, cond_false, List.take_length]
  | m + 1, i, n + 1, hi, hn => by
    have hlt : i < l.length := by omega
    have hnew : Fw.putM (asM (l.take i)) l[i].1 l[i] = asM (l.take (i + 1)) := by
      rw [putM_new, List.take_add_one, List.getElem?_eq_getElem hlt]
      · rfl
      · intro x hx
        obtain ⟨j, hj, rfl⟩ := List.getElem_of_mem hx
        have hj' : j < i := by simp at hj; omega
        rw [List.getElem_take]
        exact sless_ne (List.pairwise_iff_getElem.1 hs j i (by omega) hlt hj')
    simp only [R.L_qcO_0, idx_lt hlt, idx_nn, Bool.and_self, cond_true, Int.toNat_natCast, getD_get hlt, hnew, wrap_succ hlt (show l.length ≤ 9223372036854775807 by omega)]
    exact own_loop hs hl q0 q1 q2 q3 q6 q7 m (i + 1) n (by omega) (by omega)
theorem mstep_len (left : List Ed) (s : List Ed × List (List UInt8)) (e : Ed) (i : Nat) (h : s.1.length ≤ i ∧ s.2.length ≤ i) : (mstep left s e).1.length ≤ i + 1 ∧ (mstep left s e).2.length ≤ i + 1 := by
  unfold mstep
  cases getK left e.1 with
  | none => simp; omega
  | some x =>
    show (bif edSame x e then s else (s.1, s.2 ++ [e.1])).1.length ≤ i + 1 ∧ (bif edSame x e then s else (s.1, s.2 ++ [e.1])).2.length ≤ i + 1
    cases edSame x e
    · simp only [cond_false, List.length_append, List.length_cons, List.length_nil]; omega
    · simp only [cond_true]; omega
theorem merge_loop (left l : List Ed) (hl : l.length ≤ 2000000) (q0 : List En) (q1 : Int) (q4 : List En) (q5 : List (List UInt8)) : ∀ (m i n : Nat) (s : List Ed × List (List UInt8)), i + m = l.length → m < n → (s.1.length ≤ i ∧ s.2.length ≤ i) →
    R.L_qcO_1 K n (q0, q1, (l.length : Int), (i : Int), q4, q5, asM left, s.1, s.2, l, ()) = some (.inl (q0, q1, q4, q5, ((l.drop i).foldl (mstep left) s).1, ((l.drop i).foldl (mstep left) s).2, ())) := by
  refine fold_ok (l := l) (L := fun n i (s : List Ed × List (List UInt8)) => R.L_qcO_1 K n (q0, q1, (l.length : Int), (i : Int), q4, q5, asM left, s.1, s.2, l, ())) (d := ([], 0, false)) (I := fun i (s : List Ed × List (List UInt8)) => s.1.length ≤ i ∧ s.2.length ≤ i) (fin := fun (s : List Ed × List (List UInt8)) => .inl (q0, q1, q4, q5, s.1, s.2, ())) (fun n s hI => by simp only [R.L_qcO_1, idx_end, cond_false]) (fun n i s hi hI => ?_)
  generalize hge : l.getD i ([], 0, false) = e
  refine ⟨?_, mstep_len left s e i hI⟩
  have b1 : Nat.ble (s.1.length + 1) 268435456 = true := Nat.ble_eq_true_of_le (by omega)
  have b2 : Nat.ble (s.2.length + 1) 268435456 = true := Nat.ble_eq_true_of_le (by omega)
  simp only [R.L_qcO_1, idx_lt hi, idx_nn, Bool.and_self, cond_true, Int.toNat_natCast, hge, b1, b2, hasM_as, getM_as, wrap_succ hi (show l.length ≤ 9223372036854775807 by omega)]
  unfold mstep
  cases h : getK left e.1 with
  | none => rfl
  | some x =>
    simp only [Option.isSome_some, Bool.not_true, cond_false, Option.getD_some]
    show (bif !edSame x e then _ else _) = _
    cases edSame x e <;> rfl
theorem mergeS_len (base a b : List En) : (mergeS base a b).1.length ≤ (diffS base b).length ∧ (mergeS base a b).2.length ≤ (diffS base b).length := by
  unfold mergeS
  have : ∀ (l : List Ed) (left : List Ed) (i : Nat) (s : List Ed × List (List UInt8)), (s.1.length ≤ i ∧ s.2.length ≤ i) → (l.foldl (mstep left) s).1.length ≤ i + l.length ∧ (l.foldl (mstep left) s).2.length ≤ i + l.length := by
    intro l
    induction l with
    | nil => intro left i s h; simpa using h
    | cons e l ih =>
      intro left i s h
      have := ih left (i + 1) _ (mstep_len left s e i h)
      rw [List.foldl_cons]
      simp only [List.length_cons]
      omega
  have := this (diffS base b) (diffS base a) 0 ([], []) (by simp)
  omega
theorem diffS_len : ∀ (a b : List En), (diffS a b).length ≤ a.length + b.length
  | [], [] => by simp [diffS]
  | x :: a, [] => by have := diffS_len a []; simp [diffS] at this ⊢; omega
  | [], y :: b => by have := diffS_len [] b; simp [diffS] at this ⊢; omega
  | x :: a, y :: b => by
    have h1 := diffS_len a (y :: b)
    have h2 := diffS_len (x :: a) b
    have h3 := diffS_len a b
    unfold diffS
    simp only [List.length_cons] at h1 h2
    cases sless x.1 y.1 with
    | true => simp only [cond_true, List.length_cons]; omega
    | false =>
      cases sless y.1 x.1 with
      | true => simp only [cond_true, cond_false, List.length_cons]; omega
      | false => cases x.2 == y.2 <;> simp <;> omega
termination_by a b => a.length + b.length
theorem merge_eq (hK : 9223372036854775807 < K) {base a b : List En} (h0 : Srt base) (h1 : Srt a) (h2 : Srt b) (l0 : base.length ≤ 100000) (l1 : a.length ≤ 100000) (l2 : b.length ≤ 100000) :
    R.qcO K base a b = some (((merge3 base a b).1, (merge3 base a b).2.1, (merge3 base a b).2.2, ()), ()) := by
  have ha := diffS_len base a
  have hb := diffS_len base b
  have hm := mergeS_len base a b
  have o := own_loop (K := K) (diffS_srt base a h0 h1) (by omega) base a b 0 [] [] (diffS base a).length 0 K (by omega) (by omega)
  have o : R.L_qcO_0 K K (base, a, b, 0, ((diffS base a).length : Int), 0, [], [], [], diffS base a, ()) = _ := o
  have g := merge_loop (K := K) (diffS base a) (diffS base b) (by omega) a 0 [] [] (diffS base b).length 0 K ([], []) (by omega) (by omega) (by simp)
  rw [List.drop_zero] at g
  have g : R.L_qcO_1 K K (a, 0, ((diffS base b).length : Int), 0, [], [], asM (diffS base a), [], [], diffS base b, ()) = some (.inl (a, 0, [], [], (mergeS base a b).1, (mergeS base a b).2, ())) := g
  unfold R.qcO merge3
  simp only [diff_eq hK h0 h1 (show base.length ≤ 1000000 by omega) (show a.length ≤ 1000000 by omega), diff_eq hK h0 h2 (show base.length ≤ 1000000 by omega) (show b.length ≤ 1000000 by omega), obind_some, o, g]
  by_cases hc : 0 < (mergeS base a b).2.length
  · simp only [show ((mergeS base a b).2.length : Int) > 0 from by omega, hc, decide_true, cond_true]
  · simp only [show ¬ ((mergeS base a b).2.length : Int) > 0 from by omega, hc, decide_false, cond_false, edited_eq hK h1 (show a.length ≤ 1000000 by omega) (mergeS base a b).1 (by omega), obind_some]
    by_cases hq : 12 < (editsS a (mergeS base a b).1).length
    · simp only [hq, show ((editsS a (mergeS base a b).1).length : Int) > 12 from by omega, decide_true, cond_true]
    · simp only [hq, show ¬ ((editsS a (mergeS base a b).1).length : Int) > 12 from by omega, decide_false, cond_false]
def ParOK (s : List Cm) : Prop := ∀ j, j < s.length → (∀ p ∈ (s.getD j ([], [])).1, 1 ≤ p ∧ p ≤ (j : Int)) ∧ (0 < j → (s.getD j ([], [])).1 ≠ [])
def setAll (ps : List Int) (o : List Bool) : List Bool := ps.foldl (fun o p => o.set p.toNat true) o
def ancM (s : List Cm) : Nat → List Bool → List Bool
  | 0, o => o
  | i + 1, o => ancM s i (bif o.getD (i + 1) false then setAll (s.getD i ([], [])).1 o else o)
def ancOf (s : List Cm) (a : Nat) : List Bool := ancM s a ((List.replicate (s.length + 1) false).set a true)
def downM (x y : List Bool) : Nat → Nat
  | 0 => 0
  | k + 1 => bif x.getD (k + 1) false && y.getD (k + 1) false then k + 1 else downM x y k
def baseNo (s : List Cm) (a b : Nat) : Nat := downM (ancOf s a) (ancOf s b) (min a b)
theorem setAll_len : ∀ (ps : List Int) (o : List Bool), (setAll ps o).length = o.length
  | [], _ => rfl
  | p :: ps, o => by
    show (setAll ps (o.set p.toNat true)).length = _
    rw [setAll_len ps]; simp
theorem ancM_len (s : List Cm) : ∀ (i : Nat) (o : List Bool), (ancM s i o).length = o.length
  | 0, _ => rfl
  | i + 1, o => by
    unfold ancM
    rw [ancM_len s i]
    cases o.getD (i + 1) false
    · rfl
    · exact setAll_len _ _
theorem getD_set_true {o : List Bool} {k j : Nat} (h : o.getD k false = true) : (o.set j true).getD k false = true := by
  simp only [List.getD_eq_getElem?_getD, List.getElem?_set] at h ⊢
  by_cases e : j = k
  · subst e
    have : j < o.length := by
      rcases Nat.lt_or_ge j o.length with h' | h'
      · exact h'
      · simp [List.getElem?_eq_none h'] at h
    simp [this]
  · simpa [e] using h
theorem setAll_mono : ∀ (ps : List Int) {o : List Bool} {k : Nat}, o.getD k false = true → (setAll ps o).getD k false = true
  | [], _, _, h => h
  | p :: ps, o, k, h => setAll_mono ps (getD_set_true h)
theorem setAll_mem : ∀ (ps : List Int) {o : List Bool} {p : Int}, p ∈ ps → p.toNat < o.length → (setAll ps o).getD p.toNat false = true
  | q :: ps, o, p, h, hl => by
    rcases List.mem_cons.1 h with rfl | h
    · exact setAll_mono ps (by simp [List.getD_eq_getElem?_getD, hl])
    · exact setAll_mem ps h (by simpa using hl)
theorem ancM_one {s : List Cm} (hp : ParOK s) : ∀ (i : Nat) (o : List Bool), i ≤ s.length → o.length = s.length + 1 → (∃ j, 1 ≤ j ∧ j ≤ i ∧ o.getD j false = true) → (ancM s i o).getD 1 false = true
  | 0, _, _, _, ⟨j, h1, h2, _⟩ => by omega
  | i + 1, o, hi, hl, ⟨j, h1, h2, h3⟩ => by
    unfold ancM
    have mono : ∀ k, o.getD k false = true → (bif o.getD (i + 1) false then setAll (s.getD i ([], [])).1 o else o).getD k false = true := fun k hk => by
      cases o.getD (i + 1) false
      · exact hk
      · exact setAll_mono _ hk
    have hl' : (bif o.getD (i + 1) false then setAll (s.getD i ([], [])).1 o else o).length = s.length + 1 := by
      cases o.getD (i + 1) false
      · exact hl
      · rw [← hl]; exact setAll_len _ _
    by_cases hj : j ≤ i
    · exact ancM_one hp i _ (by omega) hl' ⟨j, h1, hj, mono j h3⟩
    · have hj : j = i + 1 := by omega
      subst hj
      cases i with
      | zero => exact mono 1 h3
      | succ i =>
        obtain ⟨g1, g2⟩ := hp (i + 1) (by omega)
        cases hq : (s.getD (i + 1) ([], [])).1 with
        | nil => exact absurd hq (g2 (by omega))
        | cons p ps =>
          have hm : p ∈ (s.getD (i + 1) ([], [])).1 := by rw [hq]; simp
          obtain ⟨q1, q2⟩ := g1 p hm
          refine ancM_one hp (i + 1) _ (by omega) (by rw [← hq]; exact hl') ⟨p.toNat, by omega, by omega, ?_⟩
          rw [h3, ← hq]
          exact setAll_mem _ hm (by omega)
theorem ancOf_one {s : List Cm} (hp : ParOK s) {a : Nat} (h1 : 1 ≤ a) (h2 : a ≤ s.length) : (ancOf s a).getD 1 false = true ∧ (ancOf s a).length = s.length + 1 := by
  refine ⟨ancM_one hp a _ h2 (by simp) ⟨a, h1, Nat.le_refl _, by simp [List.getD_eq_getElem?_getD, show a < s.length + 1 by omega]⟩, ?_⟩
  unfold ancOf
  rw [ancM_len]; simp
theorem downM_le (x y : List Bool) : ∀ k, downM x y k ≤ k
  | 0 => Nat.le_refl _
  | k + 1 => by
    have := downM_le x y k
    unfold downM
    cases x.getD (k + 1) false && y.getD (k + 1) false <;> simp <;> omega
theorem downM_pos {x y : List Bool} (hx : x.getD 1 false = true) (hy : y.getD 1 false = true) : ∀ k, 1 ≤ k → 1 ≤ downM x y k
  | k + 1, _ => by
    unfold downM
    cases h : x.getD (k + 1) false && y.getD (k + 1) false with
    | true => simp
    | false =>
      cases k with
      | zero => rw [hx, hy] at h; cases h
      | succ k => exact downM_pos hx hy (k + 1) (by omega)
theorem baseNo_ok {s : List Cm} (hp : ParOK s) {a b : Nat} (ha : 1 ≤ a) (ha2 : a ≤ s.length) (hb : 1 ≤ b) (hb2 : b ≤ s.length) : 1 ≤ baseNo s a b ∧ baseNo s a b ≤ a ∧ baseNo s a b ≤ b := by
  have h1 := downM_le (ancOf s a) (ancOf s b) (min a b)
  have h2 := downM_pos (ancOf_one hp ha ha2).1 (ancOf_one hp hb hb2).1 (min a b) (by omega)
  unfold baseNo
  omega
theorem wrap_dec {j : Nat} (h : j ≤ 9223372036854775806) : IntKind.i64.wrap (((j + 1 : Nat) : Int) - 1) = (j : Int) := by
  rw [wrap_id (by omega) (by omega)]; omega
theorem anc1_loop (ps : List Int) (hps : ps.length ≤ 1000000) (q0 : List Cm) (q1 q2 : Int) (q3 : Bool) (q4 q5 : Int) (q6 : Bool) (q7 : List Cm) (q8 q9 : Int) (q10 q11 : Cm) (q15 : List Bool) : ∀ (m i n : Nat) (o : List Bool), i + m = ps.length → m < n → (∀ p ∈ ps, 0 ≤ p ∧ p < (o.length : Int)) →
    R.L_qbe_1 K n (q0, q1, q2, q3, q4, q5, q6, q7, q8, q9, q10, q11, ps, (ps.length : Int), (i : Int), q15, o, ()) = some (.inl (q0, q1, q2, q3, q4, ((Int.toNat q5 : Nat) : Int), q6, q7, q8, q9, q10, q11, ps, (ps.length : Int), (ps.length : Int), false, q15, setAll (ps.drop i) o, ()))
  | 0, i, n + 1, o, hi, _, _ => by
    have : i = ps.length := by omega
    subst this
    simp only [R.L_qbe_1, idx_end, cond_false, List.drop_length]
    rfl
  | m + 1, i, n + 1, o, hi, hn, hp => by
    have hlt : i < ps.length := by omega
    obtain ⟨h1, h2⟩ := hp ps[i] (List.getElem_mem _)
    simp only [R.L_qbe_1, idx_lt hlt, idx_nn, Bool.and_self, cond_true, Int.toNat_natCast, getD_get hlt, h1, h2, decide_true, wrap_succ hlt (show ps.length ≤ 9223372036854775807 by omega)]
    rw [anc1_loop ps hps q0 q1 q2 q3 q4 _ q6 q7 q8 q9 q10 q11 q15 m (i + 1) n _ (by omega) (by omega) (fun p h => by simpa using hp p h), List.drop_eq_getElem_cons hlt]
    rfl
theorem anc0_loop (hK : 9223372036854775807 < K) {s : List Cm} (hp : ParOK s) (hl : s.length ≤ 1000000) (hpl : ∀ c ∈ s, c.1.length ≤ 1000000) (q2 : List Bool) : ∀ (i n : Nat) (o : List Bool), i ≤ s.length → o.length = s.length + 1 → i < n →
    R.L_qbe_0 K n (s, (i : Int), q2, o, ()) = some (.inl (q2, ancM s i o, ()))
  | 0, n + 1, o, _, _, _ => by simp [R.L_qbe_0, ancM]
  | i + 1, n + 1, o, hi, ho, hn => by
    have hlt : i + 1 < o.length := by omega
    have hli : i < s.length := by omega
    have w := wrap_dec (j := i) (by omega)
    simp only [R.L_qbe_0, show (((i + 1 : Nat) : Int) > 0) from by omega, decide_true, cond_true, idx_lt hlt, idx_nn, Bool.and_self, Int.toNat_natCast, w, idx_lt hli]
    unfold ancM
    cases he : o.getD (i + 1) false with
    | false =>
      simp only [cond_false]
      exact anc0_loop hK hp hl hpl q2 i n o (by omega) ho (by omega)
    | true =>
      have hm : (s.getD i ([], [])) ∈ s := by rw [getD_get hli]; exact List.getElem_mem _
      have hin : ∀ p ∈ (s.getD i ([], [])).1, 0 ≤ p ∧ p < (o.length : Int) := fun p h => by have := (hp i hli).1 p h; omega
      have h1 := anc1_loop (K := K) (s.getD i ([], [])).1 (hpl _ hm) s ((i + 1 : Nat) : Int) ((i + 1 : Nat) : Int) true ((i + 1 : Nat) : Int) ((i + 1 : Nat) : Int) true s ((i + 1 : Nat) : Int) (i : Int) (s.getD i ([], [])) (s.getD i ([], [])) q2 (s.getD i ([], [])).1.length 0 K o (by omega) (by have := hpl _ hm; omega) hin
      rw [show ((0 : Nat) : Int) = 0 from rfl] at h1
      simp only [cond_true, h1, obind_some, List.drop_zero, w]
      exact anc0_loop hK hp hl hpl q2 i n _ (by omega) (by rw [setAll_len]; exact ho) (by omega)
theorem ancestors_eq (hK : 9223372036854775807 < K) {s : List Cm} (hp : ParOK s) (hl : s.length ≤ 1000000) (hpl : ∀ c ∈ s, c.1.length ≤ 1000000) {a : Nat} (ha : a ≤ s.length) : R.qbe K s (a : Int) = some ((ancOf s a, ()), ()) := by
  have w : IntKind.i64.wrap ((s.length : Int) + 1) = ((s.length + 1 : Nat) : Int) := by rw [wrap_id (by omega) (by omega)]; omega
  have h := anc0_loop (K := K) hK hp hl hpl [] a K ((List.replicate (s.length + 1) false).set a true) ha (by simp) (by omega)
  unfold R.qbe ancOf
  have h1 : ((s.length + 1 : Nat) : Int) ≤ 268435456 := by omega
  have h2 : a < (List.replicate (s.length + 1) false).length := by simp; omega
  simp only [w, idx_nn, Int.le_refl, decide_true, Bool.and_self, h1, cond_true, Int.toNat_natCast, idx_lt h2, h, obind_some]
theorem reach1_loop {s : List Cm} {j : Nat} (hj : j < s.length) (hjl : s.length ≤ 1000000) (q3 : Int) (q4 : Bool) (q5 q6 : Int) (q7 q8 : Bool) (q9 : List Bool) (hps : (s.getD j ([], [])).1.length ≤ 1000000) : ∀ (m i n : Nat) (o : List Bool), i + m = (s.getD j ([], [])).1.length → m < n → (∀ p ∈ (s.getD j ([], [])).1, 0 ≤ p ∧ p < (o.length : Int)) →
    R.L_qbE_1 K n (s, ((j + 1 : Nat) : Int), (i : Int), q3, q4, q5, q6, q7, q8, q9, o, ()) = some (.inl (s, ((j + 1 : Nat) : Int), ((s.getD j ([], [])).1.length : Int), q3, q4, q5, ((Int.toNat q6 : Nat) : Int), q7, q8, ((s.getD j ([], [])).1.length : Int), s, ((j + 1 : Nat) : Int), (j : Int), s.getD j ([], []), s.getD j ([], []), (s.getD j ([], [])).1, ((s.getD j ([], [])).1.length : Int), false, q9, setAll ((s.getD j ([], [])).1.drop i) o, ()))
  | 0, i, n + 1, o, hi, _, _ => by
    have : i = (s.getD j ([], [])).1.length := by omega
    subst this
    simp only [R.L_qbE_1, wrap_dec (show j ≤ 9223372036854775806 by omega), idx_nn, idx_lt hj, Bool.and_self, cond_true, Int.toNat_natCast, idx_end, cond_false, List.drop_length]
    rfl
  | m + 1, i, n + 1, o, hi, hn, hp => by
    have hlt : i < (s.getD j ([], [])).1.length := by omega
    obtain ⟨h1, h2⟩ := hp (s.getD j ([], [])).1[i] (List.getElem_mem _)
    simp only [R.L_qbE_1, wrap_dec (show j ≤ 9223372036854775806 by omega), idx_nn, idx_lt hj, Bool.and_self, cond_true, Int.toNat_natCast, idx_lt hlt, getD_get hlt, h1, h2, decide_true, wrap_succ hlt (show (s.getD j ([], [])).1.length ≤ 9223372036854775807 by omega)]
    rw [reach1_loop hj hjl q3 q4 q5 _ q7 q8 q9 hps m (i + 1) n _ (by omega) (by omega) (fun p h => by simpa using hp p h), List.drop_eq_getElem_cons hlt]
    rfl
theorem reach0_loop (hK : 9223372036854775807 < K) {s : List Cm} (hp : ParOK s) (hl : s.length ≤ 1000000) (hpl : ∀ c ∈ s, c.1.length ≤ 1000000) (q2 : List Bool) : ∀ (i n : Nat) (o : List Bool), i ≤ s.length → o.length = s.length + 1 → i < n →
    R.L_qbE_0 K n (s, (i : Int), q2, o, ()) = some (.inl (q2, ancM s i o, ()))
  | 0, n + 1, o, _, _, _ => by simp [R.L_qbE_0, ancM]
  | i + 1, n + 1, o, hi, ho, hn => by
    have hlt : i + 1 < o.length := by omega
    have hli : i < s.length := by omega
    have w := wrap_dec (j := i) (by omega)
    simp only [R.L_qbE_0, show (((i + 1 : Nat) : Int) > 0) from by omega, decide_true, cond_true, idx_lt hlt, idx_nn, Bool.and_self, Int.toNat_natCast, w]
    unfold ancM
    cases he : o.getD (i + 1) false with
    | false =>
      simp only [Bool.not_false, cond_true, cond_false]
      exact reach0_loop hK hp hl hpl q2 i n o (by omega) ho (by omega)
    | true =>
      have hm : (s.getD i ([], [])) ∈ s := by rw [getD_get hli]; exact List.getElem_mem _
      have hin : ∀ p ∈ (s.getD i ([], [])).1, 0 ≤ p ∧ p < (o.length : Int) := fun p h => by have := (hp i hli).1 p h; omega
      have h1 := reach1_loop (K := K) hli hl ((i + 1 : Nat) : Int) true ((i + 1 : Nat) : Int) ((i + 1 : Nat) : Int) true false q2 (hpl _ hm) (s.getD i ([], [])).1.length 0 K o (by omega) (by have := hpl _ hm; omega) hin
      rw [show ((0 : Nat) : Int) = 0 from rfl] at h1
      simp only [Bool.not_true, cond_true, cond_false, h1, obind_some, List.drop_zero, w]
      exact reach0_loop hK hp hl hpl q2 i n _ (by omega) (by rw [setAll_len]; exact ho) (by omega)
theorem reach_eq (hK : 9223372036854775807 < K) {s : List Cm} (hp : ParOK s) (hl : s.length ≤ 1000000) (hpl : ∀ c ∈ s, c.1.length ≤ 1000000) {a : Nat} (ha : a ≤ s.length) : R.qbE K s (a : Int) = some ((ancOf s a, ()), ()) := by
  have w : IntKind.i64.wrap ((s.length : Int) + 1) = ((s.length + 1 : Nat) : Int) := by rw [wrap_id (by omega) (by omega)]; omega
  have h := reach0_loop (K := K) hK hp hl hpl [] a K ((List.replicate (s.length + 1) false).set a true) ha (by simp) (by omega)
  unfold R.qbE ancOf
  have h1 : ((s.length + 1 : Nat) : Int) ≤ 268435456 := by omega
  have h2 : a < (List.replicate (s.length + 1) false).length := by simp; omega
  simp only [w, idx_nn, Int.le_refl, decide_true, Bool.and_self, h1, cond_true, Int.toNat_natCast, idx_lt h2, h, obind_some]
theorem base_loop {x y : List Bool} (hx : x.getD 1 false = true) (hy : y.getD 1 false = true) (hxl : x.length ≤ 1000001) (q0 : Int) : ∀ (i n : Nat), 1 ≤ i → i < x.length → i < y.length → i < n →
    R.L_qcD_0 K n (q0, (i : Int), x, y, ()) = some (.inl (q0, (downM x y i : Int), ()))
  | i + 1, n + 1, _, h1, h2, hn => by
    have w := wrap_dec (j := i) (by omega)
    simp only [R.L_qcD_0, idx_nn, idx_lt h1, idx_lt h2, Bool.and_self, cond_true, Int.toNat_natCast, w]
    unfold downM
    cases ex : x.getD (i + 1) false with
    | false =>
      cases i with
      | zero => rw [hx] at ex; cases ex
      | succ i =>
        simp only [Bool.not_false, cond_true, Bool.false_and, cond_false]
        exact base_loop hx hy hxl q0 (i + 1) n (by omega) (by omega) (by omega) (by omega)
    | true =>
      cases ey : y.getD (i + 1) false with
      | false =>
        cases i with
        | zero => rw [hy] at ey; cases ey
        | succ i =>
          simp only [Bool.not_false, Bool.not_true, cond_true, Bool.and_false, cond_false]
          exact base_loop hx hy hxl q0 (i + 1) n (by omega) (by omega) (by omega) (by omega)
      | true => simp
theorem base2_loop {x y : List Bool} (hx : x.getD 1 false = true) (hy : y.getD 1 false = true) (hxl : x.length ≤ 1000001) (q0 : Int) : ∀ (i n : Nat), 1 ≤ i → i < x.length → i < y.length → i < n →
    R.L_qbI_0 K n (q0, (i : Int), x, y, ()) = some (.inl (q0, (downM x y i : Int), ()))
  | i + 1, n + 1, _, h1, h2, hn => by
    have w := wrap_dec (j := i) (by omega)
    simp only [R.L_qbI_0, idx_nn, idx_lt h1, idx_lt h2, Bool.and_self, cond_true, Int.toNat_natCast, w]
    unfold downM
    cases ex : x.getD (i + 1) false with
    | false =>
      cases i with
      | zero => rw [hx] at ex; cases ex
      | succ i =>
        simp only [Bool.not_false, cond_true, Bool.false_and, cond_false]
        exact base2_loop hx hy hxl q0 (i + 1) n (by omega) (by omega) (by omega) (by omega)
    | true =>
      cases ey : y.getD (i + 1) false with
      | false =>
        cases i with
        | zero => rw [hy] at ey; cases ey
        | succ i =>
          simp only [Bool.not_false, Bool.not_true, cond_true, Bool.and_false, cond_false]
          exact base2_loop hx hy hxl q0 (i + 1) n (by omega) (by omega) (by omega) (by omega)
      | true => simp
theorem min_int (a b : Nat) : (bif decide ((b : Int) < (a : Int)) then (b : Int) else (a : Int)) = ((min a b : Nat) : Int) := by
  by_cases h : b < a
  · simp [show (b : Int) < (a : Int) from by omega, show min a b = b by omega]
  · simp [show ¬ (b : Int) < (a : Int) from by omega, show min a b = a by omega]
theorem baseOf_eq (hK : 9223372036854775807 < K) {s : List Cm} (hp : ParOK s) (hl : s.length ≤ 1000000) (hpl : ∀ c ∈ s, c.1.length ≤ 1000000) {a b : Nat} (ha : 1 ≤ a) (ha2 : a ≤ s.length) (hb : 1 ≤ b) (hb2 : b ≤ s.length) :
    R.qcD K s (a : Int) (b : Int) = some (((baseNo s a b : Int), ()), ()) := by
  obtain ⟨x1, x2⟩ := ancOf_one hp ha ha2
  obtain ⟨y1, y2⟩ := ancOf_one hp hb hb2
  have h := base_loop (K := K) x1 y1 (by omega) 0 (min a b) K (by omega) (by omega) (by omega) (by omega)
  unfold R.qcD
  simp only [ancestors_eq hK hp hl hpl ha2, ancestors_eq hK hp hl hpl hb2, obind_some, min_int, h]
  rfl
theorem l03Base_eq (hK : 9223372036854775807 < K) {s : List Cm} (hp : ParOK s) (hl : s.length ≤ 1000000) (hpl : ∀ c ∈ s, c.1.length ≤ 1000000) {a b : Nat} (ha : 1 ≤ a) (ha2 : a ≤ s.length) (hb : 1 ≤ b) (hb2 : b ≤ s.length) :
    R.qbI K s (a : Int) (b : Int) = some (((baseNo s a b : Int), ()), ()) := by
  obtain ⟨x1, x2⟩ := ancOf_one hp ha ha2
  obtain ⟨y1, y2⟩ := ancOf_one hp hb hb2
  have h := base2_loop (K := K) x1 y1 (by omega) 0 (min a b) K (by omega) (by omega) (by omega) (by omega)
  unfold R.qbI
  simp only [reach_eq hK hp hl hpl ha2, reach_eq hK hp hl hpl hb2, obind_some, min_int, h]
  rfl
theorem same_all (d : En) : ∀ {a b : List En}, a.length = b.length → ((List.range' 0 a.length).all fun i => (a.getD i d).1 == (b.getD i d).1 && (a.getD i d).2 == (b.getD i d).2) = decide (a = b) := by
  intro a b hl
  rw [Bool.eq_iff_iff]
  simp only [List.all_eq_true, List.mem_range', Bool.and_eq_true, beq_iff_eq, decide_eq_true_eq]
  constructor
  · intro h
    apply List.ext_getElem hl
    intro i h1 h2
    have := h i ⟨i, h1, by omega⟩
    rw [getD_get h1, getD_get h2] at this
    exact Prod.ext this.1 this.2
  · rintro rfl i _
    exact ⟨rfl, rfl⟩
theorem EqualEn_eq (hK : 9223372036854775807 < K) (a b : List En) (ha : a.length ≤ 9223372036854775807) : R.qan K a b = some ((decide (a = b), ()), ()) := by
  unfold R.qan
  by_cases hl : a.length = b.length
  · have := all_ok (L := fun n i => R.L_qan_0 K n (a, b, false, (a.length : Int), (i : Nat), ())) (len := a.length) (p := fun i => (a.getD i ([], 0)).1 == (b.getD i ([], 0)).1 && (a.getD i ([], 0)).2 == (b.getD i ([], 0)).2) (t := Sum.inl (false, ())) (f := Sum.inr (false, ()))
      (fun n => by simp only [R.L_qan_0, idx_end, cond_false]) (fun n i hi => by
        have hi2 : i < b.length := by omega
        simp only [R.L_qan_0, wrap_succ hi ha, idx_lt hi, idx_lt hi2, idx_nn, Bool.and_self, Int.toNat_natCast, cond_true]
        cases (a.getD i ([], 0)).1 == (b.getD i ([], 0)).1 && (a.getD i ([], 0)).2 == (b.getD i ([], 0)).2 <;> rfl) a.length 0 K (by omega) (by omega)
    have this : R.L_qan_0 K K (a, b, false, (a.length : Int), 0, ()) = _ := this
    have hne : ((a.length : Int) != (b.length : Int)) = false := by simp [hl]
    simp only [hne, cond_false, this, obind_some, same_all ([], 0) hl]
    cases decide (a = b) <;> rfl
  · have hne : ((a.length : Int) != (b.length : Int)) = true := by
      have : ¬ (a.length : Int) = (b.length : Int) := by omega
      simpa using this
    have : ¬ a = b := fun e => hl (by rw [e])
    simp [hne, this]
theorem l01Same_eq (hK : 9223372036854775807 < K) (a b : List En) (ha : a.length ≤ 9223372036854775807) : R.qbY K a b = some ((decide (a = b), ()), ()) := by
  unfold R.qbY
  by_cases hl : a.length = b.length
  · have := all_ok (L := fun n i => R.L_qbY_0 K n (a, b, false, (i : Nat), ())) (len := a.length) (p := fun i => (a.getD i ([], 0)).1 == (b.getD i ([], 0)).1 && (a.getD i ([], 0)).2 == (b.getD i ([], 0)).2) (t := Sum.inl (false, ())) (f := Sum.inr (false, ()))
      (fun n => by simp only [R.L_qbY_0, idx_end, cond_false]) (fun n i hi => by
        have hi2 : i < b.length := by omega
        simp only [R.L_qbY_0, wrap_succ hi ha, idx_lt hi, idx_lt hi2, idx_nn, Bool.and_self, Int.toNat_natCast, cond_true]
        cases (a.getD i ([], 0)).1 == (b.getD i ([], 0)).1 && (a.getD i ([], 0)).2 == (b.getD i ([], 0)).2 <;> rfl) a.length 0 K (by omega) (by omega)
    have this : R.L_qbY_0 K K (a, b, false, 0, ()) = _ := this
    have hne : ((a.length : Int) != (b.length : Int)) = false := by simp [hl]
    simp only [hne, cond_false, this, obind_some, same_all ([], 0) hl]
    cases decide (a = b) <;> rfl
  · have hne : ((a.length : Int) != (b.length : Int)) = true := by
      have : ¬ (a.length : Int) = (b.length : Int) := by omega
      simpa using this
    have : ¬ a = b := fun e => hl (by rw [e])
    simp [hne, this]
theorem mapM_srt {m : List En} (h : mapM m = true) : Srt m ∧ m.length ≤ 12 := by
  unfold mapM at h
  simp only [Bool.and_eq_true, decide_eq_true_eq, List.all_eq_true] at h
  refine ⟨List.pairwise_iff_getElem.2 fun i j hi hj hij => ?_, h.1⟩
  have step : ∀ k, (hk : k + 1 < m.length) → sless (m[k]'(by omega)).1 m[k + 1].1 = true := fun k hk => by
    have := h.2 (k + 1) (by simp; omega)
    unfold entOK at this
    simp only [Bool.and_eq_true, Bool.or_eq_true, decide_eq_true_eq, Nat.add_sub_cancel] at this
    rcases this.2 with h | h
    · omega
    · rwa [getD_get (show k < m.length by omega), getD_get hk] at h
  have : ∀ d i, (hd : i + d + 1 < m.length) → sless (m[i]'(by omega)).1 m[i + d + 1].1 = true := by
    intro d
    induction d with
    | zero => intro i hd; exact step i hd
    | succ d ih => intro i hd; exact sless_trans _ _ _ (ih i (by omega)) (step (i + d + 1) hd)
  obtain ⟨d, rfl⟩ : ∃ d, j = i + d + 1 := ⟨j - i - 1, by omega⟩
  exact this d i hj
theorem storeM_ok {s : List Cm} (h : storeM s = true) : ParOK s ∧ 1 ≤ s.length ∧ s.length ≤ 60 ∧ (∀ c ∈ s, Srt c.2 ∧ c.2.length ≤ 12 ∧ c.1.length ≤ 2) := by
  unfold storeM at h
  simp only [Bool.and_eq_true, decide_eq_true_eq, List.all_eq_true] at h
  obtain ⟨⟨h1, h2⟩, h3⟩ := h
  have each : ∀ i, i < s.length → commitM i (s.getD i ([], [])) = true := fun i hi => h3 i (by simp; omega)
  refine ⟨fun j hj => ?_, h1, h2, fun c hc => ?_⟩
  · have := each j hj
    generalize s.getD j ([], []) = c at this ⊢
    unfold commitM at this
    simp only [Bool.and_eq_true, decide_eq_true_eq, beq_iff_eq] at this
    obtain ⟨⟨⟨_, g1⟩, g2⟩, g3⟩ := this
    obtain ⟨ps, m⟩ := c
    refine ⟨fun p hp => ?_, fun hj0 e => ?_⟩
    · match ps, g1, g3, hp with
      | [], _, _, hp => cases hp
      | [q], _, g3, hp =>
        simp only [parM, Bool.and_eq_true, decide_eq_true_eq] at g3
        have : p = q := by simpa using hp
        rw [this]; exact g3
      | [q, r], _, g3, hp =>
        simp only [parM, Bool.and_eq_true, decide_eq_true_eq] at g3
        have : p = q ∨ p = r := by simpa using hp
        rcases this with rfl | rfl
        · exact g3.1.1
        · exact g3.1.2
      | _ :: _ :: _ :: _, g1, _, _ => simp at g1
    · have e : ps = [] := e
      subst e
      simp at g2
      omega
  · obtain ⟨i, hi, rfl⟩ := List.getElem_of_mem hc
    have := each i hi
    rw [getD_get hi] at this
    unfold commitM at this
    simp only [Bool.and_eq_true, decide_eq_true_eq] at this
    have hm := mapM_srt this.1.1.1
    exact ⟨hm.1, hm.2, this.1.1.2⟩
theorem sfind_loop (l : List Ed) (hl : l.length ≤ 2000000) (k : List UInt8) : ∀ (m i n : Nat), i + m = l.length → m < n →
    R.L_qbV_0 K n (l, k, false, (i : Int), [], 0, false, ()) = some (match getK (l.drop i) k with | none => .inl (false, [], 0, false, ()) | some x => .inr (true, x.1, x.2.1, x.2.2, ()))
  | 0, i, n + 1, hi, _ => by
    have : i = l.length := by omega
    subst this
    simp only [R.L_qbV_0, idx_end, cond_false, List.drop_length]
    rfl
  | m + 1, i, n + 1, hi, hn => by
    have hlt : i < l.length := by omega
    simp only [R.L_qbV_0, idx_lt hlt, idx_nn, Bool.and_self, cond_true, Int.toNat_natCast, getD_get hlt, wrap_succ hlt (show l.length ≤ 9223372036854775807 by omega)]
    rw [List.drop_eq_getElem_cons hlt, getK, List.find?_cons]
    cases l[i].1 == k with
    | true => rfl
    | false =>
      simp only [cond_false]
      exact sfind_loop l hl k m (i + 1) n (by omega) (by omega)
theorem sfind_eq (hK : 9223372036854775807 < K) (l : List Ed) (hl : l.length ≤ 2000000) (k : List UInt8) : R.qbV K l k = some (((getK l k).getD ([], 0, false), (getK l k).isSome, ()), ()) := by
  have h := sfind_loop (K := K) l hl k l.length 0 K (by omega) (by omega)
  rw [List.drop_zero] at h
  have h : R.L_qbV_0 K K (l, k, false, 0, [], 0, false, ()) = _ := h
  unfold R.qbV
  simp only [h, obind_some]
  cases getK l k <;> rfl
theorem smerge_loop (hK : 9223372036854775807 < K) (left l : List Ed) (hl : l.length ≤ 2000000) (hll : left.length ≤ 2000000) (q0 : List En) (q2 : List En) (q3 : List (List UInt8)) : ∀ (m i n : Nat) (s : List Ed × List (List UInt8)), i + m = l.length → m < n → (s.1.length ≤ i ∧ s.2.length ≤ i) →
    R.L_qbA_0 K n (q0, left, l, (i : Int), q2, q3, s.2, s.1, ()) = some (.inl (q0, q2, q3, ((l.drop i).foldl (mstep left) s).2, ((l.drop i).foldl (mstep left) s).1, ())) := by
  refine fold_ok (l := l) (L := fun n i (s : List Ed × List (List UInt8)) => R.L_qbA_0 K n (q0, left, l, (i : Int), q2, q3, s.2, s.1, ())) (d := ([], 0, false)) (I := fun i (s : List Ed × List (List UInt8)) => s.1.length ≤ i ∧ s.2.length ≤ i) (fin := fun (s : List Ed × List (List UInt8)) => .inl (q0, q2, q3, s.2, s.1, ())) (fun n s hI => by simp only [R.L_qbA_0, idx_end, cond_false]) (fun n i s hi hI => ?_)
  generalize hge : l.getD i ([], 0, false) = e
  refine ⟨?_, mstep_len left s e i hI⟩
  have b1 : Nat.ble (s.1.length + 1) 268435456 = true := Nat.ble_eq_true_of_le (by omega)
  have b2 : Nat.ble (s.2.length + 1) 268435456 = true := Nat.ble_eq_true_of_le (by omega)
  simp only [R.L_qbA_0, idx_lt hi, idx_nn, Bool.and_self, cond_true, Int.toNat_natCast, hge, b1, b2, sfind_eq hK left hll, obind_some, wrap_succ hi (show l.length ≤ 9223372036854775807 by omega)]
  unfold mstep
  cases h : getK left e.1 with
  | none => rfl
  | some x =>
    simp only [Option.isSome_some, Bool.not_true, cond_false, Option.getD_some]
    show (bif !edSame x e then _ else _) = _
    cases edSame x e <;> rfl
theorem told_eq (m : List En) (c : List (List UInt8)) : R.qcd K m c = some ((bif decide (0 < c.length) then ([], c, 11, ()) else bif decide (12 < m.length) then ([], [], 7, ()) else (m, [], 0, ()), ())) := by
  unfold R.qcd
  by_cases h1 : 0 < c.length
  · simp [h1, show (c.length : Int) > 0 by omega]
  · by_cases h2 : 12 < m.length
    · simp [h1, show ¬ (c.length : Int) > 0 by omega, h2, show (m.length : Int) > 12 by omega]
    · simp [h1, show ¬ (c.length : Int) > 0 by omega, h2, show ¬ (m.length : Int) > 12 by omega]
theorem l02Merge_eq (hK : 9223372036854775807 < K) {base a b : List En} (h1 : Srt a) (l0 : base.length ≤ 100000) (l1 : a.length ≤ 100000) (l2 : b.length ≤ 100000) :
    R.qbA K base a b = some ((editsS a (mergeS base a b).1, (mergeS base a b).2, ()), ()) := by
  have ha := diffS_len base a
  have hb := diffS_len base b
  have hm := mergeS_len base a b
  have g := smerge_loop (K := K) hK (diffS base a) (diffS base b) (by omega) (by omega) a [] [] (diffS base b).length 0 K ([], []) (by omega) (by omega) (by simp)
  rw [List.drop_zero] at g
  have g : R.L_qbA_0 K K (a, diffS base a, diffS base b, 0, [], [], [], [], ()) = some (.inl (a, [], [], (mergeS base a b).2, (mergeS base a b).1, ())) := g
  unfold R.qbA
  simp only [l01Diff_eq hK (show base.length ≤ 1000000 by omega) (show a.length ≤ 1000000 by omega), l01Diff_eq hK (show base.length ≤ 1000000 by omega) (show b.length ≤ 1000000 by omega), obind_some, g, apply_eq hK h1 (show a.length ≤ 500000 by omega) (mergeS base a b).1 (by omega)]
def mapNo (s : List Cm) (a : Nat) : List En := (s.getD (a - 1) ([], [])).2
def commitP (s : List Cm) (src head : Nat) (ed : List Ed) : List En × List (List UInt8) × Int :=
  bif decide (12 < (editsS (mapNo s src) ed).length) then ([], [], 7)
  else ((merge3 (mapNo s src) (editsS (mapNo s src) ed) (mapNo s head)).1, (merge3 (mapNo s src) (editsS (mapNo s src) ed) (mapNo s head)).2.1,
    bif (merge3 (mapNo s src) (editsS (mapNo s src) ed) (mapNo s head)).2.2 == 0 && decide ((merge3 (mapNo s src) (editsS (mapNo s src) ed) (mapNo s head)).1 = mapNo s head) then 18 else (merge3 (mapNo s src) (editsS (mapNo s src) ed) (mapNo s head)).2.2)
def joinP (s : List Cm) (head other : Nat) : Bool × List En × List (List UInt8) × Int :=
  bif baseNo s head other == other then (false, [], [], 18)
  else bif baseNo s head other == head then (true, [], [], 0)
  else (false, (merge3 (mapNo s (baseNo s head other)) (mapNo s head) (mapNo s other)).1, (merge3 (mapNo s (baseNo s head other)) (mapNo s head) (mapNo s other)).2.1, (merge3 (mapNo s (baseNo s head other)) (mapNo s head) (mapNo s other)).2.2)
def outP (f : Bool) (m : List En) (ps : List Int) (keys : List (List UInt8)) (code : Int) : Bool × List En × List Int × List (List UInt8) × Int :=
  bif code == 0 then (f, m, ps, [], 0) else (false, [], [], keys, code)
theorem merge3_len (base a b : List En) : (merge3 base a b).1.length ≤ 12 := by
  unfold merge3
  by_cases h1 : 0 < (mergeS base a b).2.length
  · simp only [h1, decide_true, cond_true, List.length_nil]; omega
  · by_cases h2 : 12 < (editsS a (mergeS base a b).1).length
    · simp only [h1, h2, decide_true, decide_false, cond_true, cond_false, List.length_nil]; omega
    · simp only [h1, h2, decide_false, cond_false]; omega
theorem at_no {s : List Cm} {a : Nat} (h1 : 1 ≤ a) (h2 : a ≤ s.length) (h3 : s.length ≤ 60) : IntKind.i64.wrap ((a : Int) - 1) = ((a - 1 : Nat) : Int) ∧ a - 1 < s.length := by
  refine ⟨?_, by omega⟩
  rw [wrap_id (by omega) (by omega)]; omega
theorem mapNo_ok {s : List Cm} (h : storeM s = true) {a : Nat} (h1 : 1 ≤ a) (h2 : a ≤ s.length) : Srt (mapNo s a) ∧ (mapNo s a).length ≤ 12 := by
  have := (storeM_ok h).2.2.2 (s.getD (a - 1) ([], [])) (by rw [getD_get (show a - 1 < s.length by omega)]; exact List.getElem_mem _)
  exact ⟨this.1, this.2.1⟩
theorem editsS_len : ∀ (l : List Ed) (m : List En), (editsS m l).length ≤ m.length + l.length
  | [], m => by simp [editsS]
  | e :: l, m => by
    have h1 := editsS_len l (editS m e)
    have h2 := editS_len e m
    show (editsS (editS m e) l).length ≤ _
    simp only [List.length_cons]
    omega
theorem plan_tail (m : List En) (keys : List (List UInt8)) (code : Int) (ps : List Int) : (bif code != 0 then some (((false, [], [], keys, code), ()), ()) else some (((false, m, ps, [], 0), ()), ())) = some ((outP false m ps keys code, ()), ()) := by
  unfold outP
  simp only [bne]
  cases h : code == 0 with
  | true => rfl
  | false => rfl
theorem commit_tail (hK : 9223372036854775807 < K) (r : List En × List (List UInt8) × Int) (own : List En) (head : Int) (hl : r.1.length ≤ 9223372036854775807) :
    (bif r.2.2 == 0 then
        obind (R.qan K r.1 own) fun v10 =>
          bif v10.1.1 then some (((false, [], [], r.2.1, 18), ()), ())
          else bif r.2.2 != 0 then some (((false, [], [], r.2.1, r.2.2), ()), ()) else some (((false, r.1, [head], [], 0), ()), ())
      else bif r.2.2 != 0 then some (((false, [], [], r.2.1, r.2.2), ()), ()) else some (((false, r.1, [head], [], 0), ()), ())) =
      some ((outP false r.1 [head] r.2.1 (bif r.2.2 == 0 && decide (r.1 = own) then 18 else r.2.2), ()), ()) := by
  simp only [EqualEn_eq hK r.1 _ hl, obind_some, plan_tail]
  cases r.2.2 == 0 with
  | true =>
    simp only [cond_true, Bool.true_and]
    cases decide (r.1 = own) <;> rfl
  | false => rfl
theorem commitAt_eq (hK : 9223372036854775807 < K) (b : Ba) (o : Int × Int × List UInt8 × List UInt8 × List Ed) (hs : storeM b.1 = true) {src head : Nat} (ho : (bif o.2.1 == 0 then (head : Int) else o.2.1) = (src : Int)) (h1 : 1 ≤ src) (h2 : src ≤ b.1.length) (h3 : 1 ≤ head) (h4 : head ≤ b.1.length) (he : o.2.2.2.2.length ≤ 1000) :
    R.qay K b o (head : Int) = some ((outP false (commitP b.1 src head o.2.2.2.2).1 [(head : Int)] (commitP b.1 src head o.2.2.2.2).2.1 (commitP b.1 src head o.2.2.2.2).2.2, ()), ()) := by
  obtain ⟨_, _, h60, _⟩ := storeM_ok hs
  obtain ⟨w1, i1⟩ := at_no h1 h2 h60
  obtain ⟨w2, i2⟩ := at_no h3 h4 h60
  obtain ⟨s1, l1⟩ := mapNo_ok hs h1 h2
  obtain ⟨s2, l2⟩ := mapNo_ok hs h3 h4
  have el := editsS_len o.2.2.2.2 (mapNo b.1 src)
  have hm := merge_eq (K := K) hK s1 (editsS_srt o.2.2.2.2 s1) s2 (show (mapNo b.1 src).length ≤ 100000 by omega) (show (editsS (mapNo b.1 src) o.2.2.2.2).length ≤ 100000 by omega) (show (mapNo b.1 head).length ≤ 100000 by omega)
  have hed := edited_eq (K := K) hK s1 (show (mapNo b.1 src).length ≤ 1000000 by omega) o.2.2.2.2 (by omega)
  unfold mapNo at hed hm
  have fin : (bif decide (((editsS (b.1.getD (src - 1) ([], [])).2 o.2.2.2.2).length : Int) > 12) then some (((false, [], [], [], 7), ()), ())
      else obind (R.qcO K (b.1.getD (src - 1) ([], [])).2 (editsS (b.1.getD (src - 1) ([], [])).2 o.2.2.2.2) (b.1.getD (head - 1) ([], [])).2) fun v7 =>
        bif v7.1.2.2.1 == 0 then
          obind (R.qan K v7.1.1 (b.1.getD (head - 1) ([], [])).2) fun v10 =>
            bif v10.1.1 then some (((false, [], [], v7.1.2.1, 18), ()), ())
            else bif v7.1.2.2.1 != 0 then some (((false, [], [], v7.1.2.1, v7.1.2.2.1), ()), ()) else some (((false, v7.1.1, [(head : Int)], [], 0), ()), ())
        else bif v7.1.2.2.1 != 0 then some (((false, [], [], v7.1.2.1, v7.1.2.2.1), ()), ()) else some (((false, v7.1.1, [(head : Int)], [], 0), ()), ())) =
      some ((outP false (commitP b.1 src head o.2.2.2.2).1 [(head : Int)] (commitP b.1 src head o.2.2.2.2).2.1 (commitP b.1 src head o.2.2.2.2).2.2, ()), ()) := by
    unfold commitP
    simp only [mapNo]
    by_cases h12 : 12 < (editsS (b.1.getD (src - 1) ([], [])).2 o.2.2.2.2).length
    · simp only [show ((editsS (b.1.getD (src - 1) ([], [])).2 o.2.2.2.2).length : Int) > 12 from by omega, h12, decide_true, cond_true]; rfl
    · simp only [show ¬ ((editsS (b.1.getD (src - 1) ([], [])).2 o.2.2.2.2).length : Int) > 12 from by omega, h12, decide_false, cond_false, hm, obind_some]
      refine commit_tail hK _ _ _ ?_
      have := merge3_len (b.1.getD (src - 1) ([], [])).2 (editsS (b.1.getD (src - 1) ([], [])).2 o.2.2.2.2) (b.1.getD (head - 1) ([], [])).2
      omega
  unfold R.qay
  cases hz : o.2.1 == 0 with
  | true =>
    rw [hz] at ho
    have e : head = src := by simp only [cond_true] at ho; omega
    subst e
    simp only [cond_true, w1, idx_nn, idx_lt i1, Bool.and_self, Int.toNat_natCast, hed, obind_some]
    exact fin
  | false =>
    rw [hz] at ho
    simp only [cond_false] at ho
    simp only [cond_false, ho, w1, w2, idx_nn, idx_lt i1, idx_lt i2, Bool.and_self, cond_true, Int.toNat_natCast, hed, obind_some]
    exact fin
theorem baseNo_le60 {s : List Cm} (h : storeM s = true) {a b : Nat} (ha : 1 ≤ a) (ha2 : a ≤ s.length) (hb : 1 ≤ b) (hb2 : b ≤ s.length) : 1 ≤ baseNo s a b ∧ baseNo s a b ≤ s.length := by
  have := baseNo_ok (storeM_ok h).1 ha ha2 hb hb2
  omega
theorem storeM_len {s : List Cm} (h : storeM s = true) : s.length ≤ 1000000 ∧ ∀ c ∈ s, c.1.length ≤ 1000000 := by
  obtain ⟨_, _, h60, hc⟩ := storeM_ok h
  exact ⟨by omega, fun c hm => by have := (hc c hm).2.2; omega⟩
theorem nat_beq (a b : Nat) : ((a : Int) == (b : Int)) = (a == b) := by
  rw [Bool.eq_iff_iff]
  simp only [beq_iff_eq]
  omega
theorem planC_eq (hK : 9223372036854775807 < K) (b : Ba) (o : Int × Int × List UInt8 × List UInt8 × List Ed) (hs : storeM b.1 = true) {src head : Nat} (hk : o.1 = 3) (ho : (bif o.2.1 == 0 then (head : Int) else o.2.1) = (src : Int)) (h1 : 1 ≤ src) (h2 : src ≤ b.1.length) (h3 : 1 ≤ head) (h4 : head ≤ b.1.length) (he : o.2.2.2.2.length ≤ 1000) :
    R.qaH K b o (head : Int) = some ((outP false (commitP b.1 src head o.2.2.2.2).1 [(head : Int)] (commitP b.1 src head o.2.2.2.2).2.1 (commitP b.1 src head o.2.2.2.2).2.2, ()), ()) := by
  unfold R.qaH
  simp only [hk, show ((3 : Int) == 3) = true from rfl, cond_true, commitAt_eq hK b o hs ho h1 h2 h3 h4 he, obind_some]
theorem planJ_eq (hK : 9223372036854775807 < K) (b : Ba) (o : Int × Int × List UInt8 × List UInt8 × List Ed) (hs : storeM b.1 = true) {src head : Nat} (hk : (o.1 == 3) = false) (ho : o.2.1 = (src : Int)) (h1 : 1 ≤ src) (h2 : src ≤ b.1.length) (h3 : 1 ≤ head) (h4 : head ≤ b.1.length) :
    R.qaH K b o (head : Int) = some ((outP (joinP b.1 head src).1 (joinP b.1 head src).2.1 (bif (joinP b.1 head src).1 then [] else [(head : Int), (src : Int)]) (joinP b.1 head src).2.2.1 (joinP b.1 head src).2.2.2, ()), ()) := by
  obtain ⟨hp, _, h60, _⟩ := storeM_ok hs
  obtain ⟨hl, hpl⟩ := storeM_len hs
  obtain ⟨g1, g2⟩ := baseNo_le60 hs h3 h4 h1 h2
  have hb := baseOf_eq (K := K) hK hp hl hpl h3 h4 h1 h2
  unfold R.qaH
  simp only [hk, cond_false, ho, hb, obind_some, nat_beq]
  unfold joinP
  cases e1 : baseNo b.1 head src == src with
  | true => rfl
  | false =>
    cases e2 : baseNo b.1 head src == head with
    | true => rfl
    | false =>
      simp only [cond_false]
      obtain ⟨w1, i1⟩ := at_no h1 h2 h60
      obtain ⟨w2, i2⟩ := at_no h3 h4 h60
      obtain ⟨w3, i3⟩ := at_no g1 g2 h60
      obtain ⟨s1, l1⟩ := mapNo_ok hs h1 h2
      obtain ⟨s2, l2⟩ := mapNo_ok hs h3 h4
      obtain ⟨s3, l3⟩ := mapNo_ok hs g1 g2
      have hm := merge_eq (K := K) hK s3 s2 s1 (by omega) (by omega) (by omega)
      unfold mapNo at hm
      unfold R.qaz
      simp only [hb, obind_some, w1, w2, w3, idx_nn, idx_lt i1, idx_lt i2, idx_lt i3, Bool.and_self, cond_true, Int.toNat_natCast, hm, plan_tail]
      rfl
theorem l05Plan_eq (hK : 9223372036854775807 < K) {s : List Cm} (hs : storeM s = true) {src head : Nat} (h1 : 1 ≤ src) (h2 : src ≤ s.length) (h3 : 1 ≤ head) (h4 : head ≤ s.length) (ed : List Ed) (he : ed.length ≤ 1000) :
    R.qbN K s (src : Int) (head : Int) ed = some (((commitP s src head ed).1, ((commitP s src head ed).2.2, 0, 0, (commitP s src head ed).2.1, []), ()), ()) := by
  obtain ⟨_, _, h60, _⟩ := storeM_ok hs
  obtain ⟨w1, i1⟩ := at_no h1 h2 h60
  obtain ⟨w2, i2⟩ := at_no h3 h4 h60
  obtain ⟨s1, l1⟩ := mapNo_ok hs h1 h2
  obtain ⟨s2, l2⟩ := mapNo_ok hs h3 h4
  have el := editsS_len ed (mapNo s src)
  have hed := apply_eq (K := K) hK s1 (show (mapNo s src).length ≤ 500000 by omega) ed (by omega)
  have hm := l02Merge_eq (K := K) hK (base := mapNo s src) (b := mapNo s head) (editsS_srt ed s1) (by omega) (show (editsS (mapNo s src) ed).length ≤ 100000 by omega) (by omega)
  unfold R.qbN
  simp only [w1, w2, idx_nn, idx_lt i1, idx_lt i2, Bool.and_self, cond_true, Int.toNat_natCast]
  unfold mapNo at hed hm
  simp only [hed, obind_some]
  unfold commitP merge3
  simp only [mapNo]
  by_cases h12 : 12 < (editsS (s.getD (src - 1) ([], [])).2 ed).length
  · simp only [show ((editsS (s.getD (src - 1) ([], [])).2 ed).length : Int) > 12 from by omega, h12, decide_true, cond_true]
  · simp only [show ¬ ((editsS (s.getD (src - 1) ([], [])).2 ed).length : Int) > 12 from by omega, h12, decide_false, cond_false, hm, obind_some, told_eq]
    by_cases h11 : 0 < (mergeS (s.getD (src - 1) ([], [])).2 (editsS (s.getD (src - 1) ([], [])).2 ed) (s.getD (head - 1) ([], [])).2).2.length
    · simp only [h11, decide_true, cond_true]; rfl
    · simp only [h11, decide_false, cond_false]
      by_cases h13 : 12 < (editsS (editsS (s.getD (src - 1) ([], [])).2 ed) (mergeS (s.getD (src - 1) ([], [])).2 (editsS (s.getD (src - 1) ([], [])).2 ed) (s.getD (head - 1) ([], [])).2).1).length
      · simp only [h13, decide_true, cond_true, cond_false]; rfl
      · simp only [h13, decide_false, cond_false, show ((0 : Int) == 0) = true from rfl, cond_true, l01Same_eq hK _ _ (show (editsS (editsS (s.getD (src - 1) ([], [])).2 ed) (mergeS (s.getD (src - 1) ([], [])).2 (editsS (s.getD (src - 1) ([], [])).2 ed) (s.getD (head - 1) ([], [])).2).1).length ≤ 9223372036854775807 by omega), obind_some, Bool.true_and]
        cases decide (editsS (editsS (s.getD (src - 1) ([], [])).2 ed) (mergeS (s.getD (src - 1) ([], [])).2 (editsS (s.getD (src - 1) ([], [])).2 ed) (s.getD (head - 1) ([], [])).2).1 = (s.getD (head - 1) ([], [])).2) <;> rfl
theorem l05Join_eq (hK : 9223372036854775807 < K) {s : List Cm} (hs : storeM s = true) {other head : Nat} (h1 : 1 ≤ other) (h2 : other ≤ s.length) (h3 : 1 ≤ head) (h4 : head ≤ s.length) :
    R.qbT K s (head : Int) (other : Int) = some (((joinP s head other).1, (joinP s head other).2.1, ((joinP s head other).2.2.2, 0, 0, (joinP s head other).2.2.1, []), ()), ()) := by
  obtain ⟨hp, _, h60, _⟩ := storeM_ok hs
  obtain ⟨hl, hpl⟩ := storeM_len hs
  obtain ⟨g1, g2⟩ := baseNo_le60 hs h3 h4 h1 h2
  obtain ⟨w1, i1⟩ := at_no h1 h2 h60
  obtain ⟨w2, i2⟩ := at_no h3 h4 h60
  obtain ⟨w3, i3⟩ := at_no g1 g2 h60
  obtain ⟨s1, l1⟩ := mapNo_ok hs h1 h2
  obtain ⟨s2, l2⟩ := mapNo_ok hs h3 h4
  obtain ⟨s3, l3⟩ := mapNo_ok hs g1 g2
  have hm := l02Merge_eq (K := K) hK (base := mapNo s (baseNo s head other)) (b := mapNo s other) s2 (by omega) (by omega) (by omega)
  unfold mapNo at hm
  unfold R.qbT
  simp only [l03Base_eq hK hp hl hpl h3 h4 h1 h2, obind_some, nat_beq]
  unfold joinP
  cases baseNo s head other == other with
  | true => rfl
  | false =>
    cases baseNo s head other == head with
    | true => rfl
    | false =>
      simp only [cond_false, w1, w2, w3, idx_nn, idx_lt i1, idx_lt i2, idx_lt i3, Bool.and_self, cond_true, Int.toNat_natCast, hm, obind_some, told_eq]
      unfold merge3 mapNo
      cases decide (0 < (mergeS (s.getD (baseNo s head other - 1) ([], [])).2 (s.getD (head - 1) ([], [])).2 (s.getD (other - 1) ([], [])).2).2.length) with
      | true => rfl
      | false =>
        cases decide (12 < (editsS (s.getD (head - 1) ([], [])).2 (mergeS (s.getD (baseNo s head other - 1) ([], [])).2 (s.getD (head - 1) ([], [])).2 (s.getD (other - 1) ([], [])).2).1).length) <;> rfl
theorem commitP_len (s : List Cm) (src head : Nat) (ed : List Ed) : (commitP s src head ed).1.length ≤ 12 := by
  unfold commitP
  by_cases h : 12 < (editsS (mapNo s src) ed).length
  · simp only [h, decide_true, cond_true, List.length_nil]; omega
  · simp only [h, decide_false, cond_false]; exact merge3_len _ _ _
theorem joinP_len (s : List Cm) (head other : Nat) : (joinP s head other).2.1.length ≤ 12 := by
  unfold joinP
  cases baseNo s head other == other
  · cases baseNo s head other == head
    · exact merge3_len _ _ _
    · simp
  · simp
theorem baseM_store {b : Ba} (h : baseM b = true) : storeM b.1 = true := by
  unfold baseM at h
  simp only [Bool.and_eq_true] at h
  exact h.1.1
def liveB (xs : List Rf) (s : List UInt8) : Bool := decide (refAt xs s ≥ 0) && !(xs.getD (refAt xs s).toNat ([], 0, 0, false)).2.2.2
def setR (xs : List Rf) (i : Nat) (h : Int) (g : Bool) : List Rf := xs.set i ((xs.getD i ([], 0, 0, false)).1, h, (xs.getD i ([], 0, 0, false)).2.2.1 + 1, g)
def movedM (xs : List Rf) (i : Nat) (h : Int) (g : Bool) : List Rf × Int := bif (xs.getD i ([], 0, 0, false)).2.2.1 == 1000000 then (xs, 7) else (setR xs i h g, 0)
def createM (xs : List Rf) (name : List UInt8) (head : Int) : List Rf × Int :=
  bif decide (refAt xs name ≥ 0) then (bif !(xs.getD (refAt xs name).toNat ([], 0, 0, false)).2.2.2 then (xs, 14) else movedM xs (refAt xs name).toNat head false)
  else bif (xs.length : Int) == 8 then (xs, 7) else (xs ++ [(name, head, 1, false)], 0)
def failR (code : Int) (keys : List (List UInt8)) : Rs := (code, 0, 0, keys, [])
def advM (b : Ba) (i : Nat) (c : Cm) : Ba × Rs :=
  bif (b.1.length : Int) == 60 || (b.2.getD i ([], 0, 0, false)).2.2.1 == 1000000 then (b, failR 7 [])
  else ((b.1 ++ [c], setR b.2 i ((b.1.length : Int) + 1) false), (0, (b.1.length : Int) + 1, 0, [], []))
def writeM (b : Ba) (o : OpT) (i : Nat) : Ba × Rs :=
  bif o.1 == 3 then
    bif (commitP b.1 (bif o.2.1 == 0 then (b.2.getD i ([], 0, 0, false)).2.1 else o.2.1).toNat (b.2.getD i ([], 0, 0, false)).2.1.toNat o.2.2.2.2).2.2 == 0 then advM b i ([(b.2.getD i ([], 0, 0, false)).2.1], (commitP b.1 (bif o.2.1 == 0 then (b.2.getD i ([], 0, 0, false)).2.1 else o.2.1).toNat (b.2.getD i ([], 0, 0, false)).2.1.toNat o.2.2.2.2).1)
    else (b, failR (commitP b.1 (bif o.2.1 == 0 then (b.2.getD i ([], 0, 0, false)).2.1 else o.2.1).toNat (b.2.getD i ([], 0, 0, false)).2.1.toNat o.2.2.2.2).2.2 (commitP b.1 (bif o.2.1 == 0 then (b.2.getD i ([], 0, 0, false)).2.1 else o.2.1).toNat (b.2.getD i ([], 0, 0, false)).2.1.toNat o.2.2.2.2).2.1)
  else
    bif (joinP b.1 (b.2.getD i ([], 0, 0, false)).2.1.toNat o.2.1.toNat).2.2.2 == 0 then
      bif (joinP b.1 (b.2.getD i ([], 0, 0, false)).2.1.toNat o.2.1.toNat).1 then
        bif (b.2.getD i ([], 0, 0, false)).2.2.1 == 1000000 then (b, failR 7 []) else ((b.1, setR b.2 i o.2.1 false), (0, o.2.1, 0, [], []))
      else advM b i ([(b.2.getD i ([], 0, 0, false)).2.1, o.2.1], (joinP b.1 (b.2.getD i ([], 0, 0, false)).2.1.toNat o.2.1.toNat).2.1)
    else (b, failR (joinP b.1 (b.2.getD i ([], 0, 0, false)).2.1.toNat o.2.1.toNat).2.2.2 (joinP b.1 (b.2.getD i ([], 0, 0, false)).2.1.toNat o.2.1.toNat).2.2.1)
def getP (m : List En) (key : List UInt8) : Int × Int := match getK m key with
  | none => (0, 5)
  | some e => (e.2, 0)
def doM (b : Ba) (o : OpT) : Ba × Rs :=
  bif (o.1 == 1 || (o.1 == 3 || o.1 == 4)) && decide (o.2.1 > (b.1.length : Int)) then (b, failR 5 [])
  else bif o.1 == 1 then (bif (createM b.2 o.2.2.1 o.2.1).2 == 0 then ((b.1, (createM b.2 o.2.2.1 o.2.1).1), (0, o.2.1, 0, [], [])) else (b, failR (createM b.2 o.2.2.1 o.2.1).2 []))
  else bif liveB b.2 o.2.2.1 then
    bif o.1 == 2 then (bif (b.2.getD (refAt b.2 o.2.2.1).toNat ([], 0, 0, false)).2.2.1 == 1000000 then (b, failR 7 []) else ((b.1, setR b.2 (refAt b.2 o.2.2.1).toNat 0 true), (0, (b.2.getD (refAt b.2 o.2.2.1).toNat ([], 0, 0, false)).2.1, 0, [], [])))
    else bif o.1 == 5 then (bif (getP (mapNo b.1 (b.2.getD (refAt b.2 o.2.2.1).toNat ([], 0, 0, false)).2.1.toNat) o.2.2.2.1).2 == 0 then (b, (0, (b.2.getD (refAt b.2 o.2.2.1).toNat ([], 0, 0, false)).2.1, (getP (mapNo b.1 (b.2.getD (refAt b.2 o.2.2.1).toNat ([], 0, 0, false)).2.1.toNat) o.2.2.2.1).1, [], [])) else (b, failR 5 []))
    else bif o.1 == 6 then (b, (0, (b.2.getD (refAt b.2 o.2.2.1).toNat ([], 0, 0, false)).2.1, 0, [], mapNo b.1 (b.2.getD (refAt b.2 o.2.2.1).toNat ([], 0, 0, false)).2.1.toNat))
    else writeM b o (refAt b.2 o.2.2.1).toNat
  else (b, failR 10 [])
theorem refAt_cases (xs : List Rf) (s : List UInt8) : (refAt xs s = -1) ∨ ∃ i : Nat, refAt xs s = (i : Int) ∧ i < xs.length ∧ (xs.getD i ([], 0, 0, false)).1 = s := by
  unfold refAt
  cases h : (List.range' 0 xs.length).find? (fun i => (xs.getD i ([], 0, 0, false)).1 == s) with
  | none => exact .inl rfl
  | some j =>
    have h1 := List.find?_some h
    have h2 := List.mem_of_find?_eq_some h
    simp at h1 h2
    exact .inr ⟨j, rfl, by omega, by simpa using h1⟩
theorem live_eq (hK : 9223372036854775807 < K) (xs : List Rf) (hx : xs.length ≤ 1048576) (s : List UInt8) : R.qda K xs s = some ((refAt xs s, liveB xs s, ()), ()) := by
  unfold R.qda liveB
  simp only [place_eq hK xs (by omega), obind_some]
  rcases refAt_cases xs s with h | ⟨i, h, hi, _⟩
  · rw [h]; rfl
  · simp only [h, show ((i : Int) ≥ 0) from by omega, decide_true, cond_true, idx_nn, idx_lt hi, Bool.and_self, Bool.true_and]
theorem l04Live_eq (hK : 9223372036854775807 < K) (xs : List Rf) (hx : xs.length ≤ 1048576) (s : List UInt8) : R.qbS K xs s = some ((bif liveB xs s then refAt xs s else -1, ()), ()) := by
  unfold R.qbS liveB
  simp only [l04At_eq hK xs (by omega), obind_some]
  rcases refAt_cases xs s with h | ⟨i, h, hi, _⟩
  · rw [h]; rfl
  · simp only [h, show ((i : Int) ≥ 0) from by omega, decide_true, cond_true, idx_nn, idx_lt hi, Bool.and_self, Bool.true_and]
    cases (xs.getD (i : Int).toNat ([], 0, 0, false)).2.2.2 <;> rfl
theorem wrap_ver {v : Int} (h1 : 1 ≤ v) (h2 : v ≤ 1000000) : IntKind.i64.wrap (v + 1) = v + 1 := wrap_id (by omega) (by omega)
theorem moved_eq (xs : List Rf) (hx : xs.length ≤ 1048576) {i : Nat} (hi : i < xs.length) (hv : 1 ≤ (xs.getD i ([], 0, 0, false)).2.2.1 ∧ (xs.getD i ([], 0, 0, false)).2.2.1 ≤ 1000000) (h : Int) : R.qcU K xs (i : Int) h = some (((movedM xs i h (h == 0)).1, (movedM xs i h (h == 0)).2, ()), ()) := by
  unfold R.qcU movedM setR
  simp only [Clone_Rf_eq xs (by omega), obind_some, idx_nn, idx_lt hi, Bool.and_self, cond_true, Int.toNat_natCast, wrap_ver hv.1 hv.2]
  cases (xs.getD i ([], 0, 0, false)).2.2.1 == 1000000 <;> rfl
theorem l04Set_eq (xs : List Rf) (hx : xs.length ≤ 1048576) {i : Nat} (hi : i < xs.length) (hv : 1 ≤ (xs.getD i ([], 0, 0, false)).2.2.1 ∧ (xs.getD i ([], 0, 0, false)).2.2.1 ≤ 1000000) (h : Int) (g : Bool) : R.qcl K xs (i : Int) h g = some ((setR xs i h g, ()), ()) := by
  have b1 : Nat.ble (0 + xs.length) 268435456 = true := Nat.ble_eq_true_of_le (by omega)
  have g1 : ∀ (r : Rf), (xs.set i r).getD i ([], 0, 0, false) = r := fun r => by simp [List.getD_eq_getElem?_getD, hi]
  unfold R.qcl setR
  simp only [b1, cond_true, idx_nn, idx_lt hi, List.length_set, Bool.and_self, Int.toNat_natCast, g1, List.set_set, wrap_ver hv.1 hv.2]
theorem refs_facts {xs : List Rf} (h : refsM xs = true) : xs.length ≤ 8 ∧ ∀ i, i < xs.length → refGood (xs.getD i ([], 0, 0, false)) = true := by
  unfold refsM at h
  simp only [Bool.and_eq_true, decide_eq_true_eq, List.all_eq_true] at h
  exact ⟨h.1, fun i hi => (h.2 i (by simp; omega)).1⟩
def VerB (xs : List Rf) : Prop := ∀ i, i < xs.length → 1 ≤ (xs.getD i ([], 0, 0, false)).2.2.1 ∧ (xs.getD i ([], 0, 0, false)).2.2.1 ≤ 1000000
theorem verB {xs : List Rf} (h : refsM xs = true) : VerB xs := fun i hi => by
  have := (refs_facts h).2 i hi
  unfold refGood at this
  simp only [Bool.and_eq_true, decide_eq_true_eq] at this
  exact this.1.2
theorem create_eq (hK : 9223372036854775807 < K) (xs : List Rf) (hx : xs.length ≤ 1048576) (hv : VerB xs) (s : List UInt8) (h : Int) : R.qcu K xs s h = some (((createM xs s h).1, (createM xs s h).2, ()), ()) := by
  have b1 : Nat.ble (xs.length + 1) 268435456 = true := Nat.ble_eq_true_of_le (by omega)
  unfold R.qcu createM
  simp only [Clone_Rf_eq xs (by omega), place_eq hK xs (by omega), obind_some]
  rcases refAt_cases xs s with e | ⟨i, e, hi, hn⟩
  · rw [e]
    simp only [show ¬ ((-1 : Int) ≥ 0) from by omega, show ((-1 : Int) < 0) from by omega, decide_true, decide_false, cond_true, cond_false, b1]
    cases (xs.length : Int) == 8 <;> rfl
  · unfold movedM setR
    simp only [e, show ((i : Int) ≥ 0) from by omega, show ¬ ((i : Int) < 0) from by omega, decide_true, decide_false, cond_true, cond_false, idx_nn, idx_lt hi, Bool.and_self, Int.toNat_natCast, wrap_ver (hv i hi).1 (hv i hi).2, hn]
    cases (xs.getD i ([], 0, 0, false)).2.2.2 <;> cases (xs.getD i ([], 0, 0, false)).2.2.1 == 1000000 <;> rfl
theorem l04Create_eq (hK : 9223372036854775807 < K) (xs : List Rf) (hx : xs.length ≤ 1048576) (hv : VerB xs) (s : List UInt8) (h : Int) : R.qaZ K xs s h = some (((createM xs s h).1, (createM xs s h).2, ()), ()) := by
  have b1 : Nat.ble (xs.length + 1) 268435456 = true := Nat.ble_eq_true_of_le (by omega)
  have b0 : Nat.ble (0 + xs.length) 268435456 = true := Nat.ble_eq_true_of_le (by omega)
  unfold R.qaZ createM
  simp only [l04At_eq hK xs (by omega), obind_some]
  rcases refAt_cases xs s with e | ⟨i, e, hi, hn⟩
  · rw [e]
    simp only [show ¬ ((-1 : Int) ≥ 0) from by omega, show ((-1 : Int) < 0) from by omega, decide_true, decide_false, cond_true, cond_false, b1, b0]
    cases (xs.length : Int) == 8 <;> rfl
  · unfold movedM
    simp only [e, show ((i : Int) ≥ 0) from by omega, show ¬ ((i : Int) < 0) from by omega, decide_true, decide_false, cond_true, cond_false, idx_nn, idx_lt hi, Bool.and_self, Int.toNat_natCast, l04Set_eq xs hx hi (hv i hi), obind_some]
    cases (xs.getD i ([], 0, 0, false)).2.2.2 <;> cases (xs.getD i ([], 0, 0, false)).2.2.1 == 1000000 <;> rfl
theorem advance_eq (b : Ba) (h60 : b.1.length ≤ 60) (hx : b.2.length ≤ 1048576) {i : Nat} (hi : i < b.2.length) (hv : VerB b.2) (c : Cm) : R.qaL K b (i : Int) c = some (((advM b i c).1, (advM b i c).2, ()), ()) := by
  have b1 : Nat.ble (b.1.length + 1) 268435456 = true := Nat.ble_eq_true_of_le (by omega)
  have b0 : Nat.ble (0 + b.1.length) 268435456 = true := Nat.ble_eq_true_of_le (by omega)
  unfold R.qaL advM failR
  simp only [b0, b1, cond_true, alt_self, dup_eq, obind_some, idx_nn, idx_lt hi, Bool.and_self, Int.toNat_natCast, l04Set_eq b.2 hx hi (hv i hi), wrap_lenS (show b.1.length ≤ 1048576 by omega)]
  cases (b.1.length : Int) == 60 <;> cases (b.2.getD i ([], 0, 0, false)).2.2.1 == 1000000 <;> rfl
theorem live_head {b : Ba} (hb : baseM b = true) {i : Nat} (hi : i < b.2.length) (hg : (b.2.getD i ([], 0, 0, false)).2.2.2 = false) : ∃ h : Nat, (b.2.getD i ([], 0, 0, false)).2.1 = (h : Int) ∧ 1 ≤ h ∧ h ≤ b.1.length := by
  unfold baseM at hb
  simp only [Bool.and_eq_true, List.all_eq_true, decide_eq_true_eq] at hb
  have h1 := hb.2 i (by simp; omega)
  have h2 := (refs_facts hb.1.2).2 i hi
  unfold refGood at h2
  rw [hg] at h2
  simp only [cond_false, Bool.and_eq_true, decide_eq_true_eq] at h2
  exact ⟨(b.2.getD i ([], 0, 0, false)).2.1.toNat, by omega, by omega, by omega⟩
theorem scommit_eq (hK : 9223372036854775807 < K) (b : Ba) (hb : baseM b = true) (o : OpT) (hk : o.1 = 3) (he : o.2.2.2.2.length ≤ 1000) (hf : 0 ≤ o.2.1 ∧ o.2.1 ≤ (b.1.length : Int)) {i : Nat} (hi : i < b.2.length) (hg : (b.2.getD i ([], 0, 0, false)).2.2.2 = false) :
    R.qbg K b (i : Int) o = some (((writeM b o i).1, (writeM b o i).2, ()), ()) := by
  have hs := baseM_store hb
  have hr : refsM b.2 = true := by
    unfold baseM at hb
    simp only [Bool.and_eq_true] at hb
    exact hb.1.2
  obtain ⟨_, _, h60, _⟩ := storeM_ok hs
  have hx := (refs_facts hr).1
  obtain ⟨h, e, h3, h4⟩ := live_head hb hi hg
  obtain ⟨src, es, h1, h2⟩ : ∃ src : Nat, (bif o.2.1 == 0 then (h : Int) else o.2.1) = (src : Int) ∧ 1 ≤ src ∧ src ≤ b.1.length := by
    cases hz : o.2.1 == 0 with
    | true => exact ⟨h, rfl, h3, h4⟩
    | false =>
      have : ¬ o.2.1 = 0 := by simpa using hz
      exact ⟨o.2.1.toNat, by simp only [cond_false]; omega, by omega, by omega⟩
  have hp := l05Plan_eq (K := K) hK hs h1 h2 h3 h4 o.2.2.2.2 he
  have ha := fun c => advance_eq (K := K) b h60 (by omega) hi (verB hr) c
  unfold R.qbg writeM failR
  simp only [hk, show ((3 : Int) == 3) = true from rfl, cond_true, idx_nn, idx_lt hi, Bool.and_self, Int.toNat_natCast, e]
  simp only [es, Int.toNat_natCast]
  cases hz : o.2.1 == 0 with
  | true =>
    have es' : (h : Int) = (src : Int) := by rw [hz] at es; exact es
    simp only [cond_true, es'] at hp ⊢
    simp only [hp, obind_some, ha]
    cases hc : (commitP b.1 src h o.2.2.2.2).2.2 == 0 with
    | true =>
      have : h = src := by omega
      subst this
      simp only [bne, hc, Bool.not_true, cond_false, cond_true]
    | false =>
      have : h = src := by omega
      subst this
      simp only [bne, hc, Bool.not_false, cond_false, cond_true]
  | false =>
    have es' : o.2.1 = (src : Int) := by rw [hz] at es; exact es
    simp only [cond_false, es', hp, obind_some, ha, bne]
    cases hc : (commitP b.1 src h o.2.2.2.2).2.2 == 0 <;> rfl
theorem smerge_eq (hK : 9223372036854775807 < K) (b : Ba) (hb : baseM b = true) (o : OpT) (hk : o.1 = 4) (hf : 1 ≤ o.2.1 ∧ o.2.1 ≤ (b.1.length : Int)) {i : Nat} (hi : i < b.2.length) (hg : (b.2.getD i ([], 0, 0, false)).2.2.2 = false) :
    R.qbx K b (i : Int) o = some (((writeM b o i).1, (writeM b o i).2, ()), ()) := by
  have hs := baseM_store hb
  have hr : refsM b.2 = true := by
    unfold baseM at hb
    simp only [Bool.and_eq_true] at hb
    exact hb.1.2
  obtain ⟨_, _, h60, _⟩ := storeM_ok hs
  have hx := (refs_facts hr).1
  obtain ⟨h, e, h3, h4⟩ := live_head hb hi hg
  obtain ⟨src, es, h1, h2⟩ : ∃ src : Nat, o.2.1 = (src : Int) ∧ 1 ≤ src ∧ src ≤ b.1.length := ⟨o.2.1.toNat, by omega, by omega, by omega⟩
  have hp := l05Join_eq (K := K) hK hs h1 h2 h3 h4
  have ha := fun c => advance_eq (K := K) b h60 (by omega) hi (verB hr) c
  unfold R.qbx writeM failR
  simp only [hk, show ((4 : Int) == 3) = false from rfl, cond_false, cond_true, idx_nn, idx_lt hi, Bool.and_self, Int.toNat_natCast, e, es, hp, obind_some, ha, l04Set_eq b.2 (show b.2.length ≤ 1048576 by omega) hi (verB hr i hi), bne]
  cases (joinP b.1 h src).2.2.2 == 0 with
  | false => rfl
  | true =>
    cases (joinP b.1 h src).1 with
    | false => rfl
    | true => cases (b.2.getD i ([], 0, 0, false)).2.2.1 == 1000000 <;> rfl
theorem write_eq (hK : 9223372036854775807 < K) (b : Ba) (hb : baseM b = true) (hB : BaB b) (o : OpT) (hk : o.1 = 3 ∨ o.1 = 4) (he : o.2.2.2.2.length ≤ 1000) (hf : 0 ≤ o.2.1 ∧ o.2.1 ≤ (b.1.length : Int)) (hf4 : o.1 = 4 → 1 ≤ o.2.1) {i : Nat} (hi : i < b.2.length) (hg : (b.2.getD i ([], 0, 0, false)).2.2.2 = false) :
    R.qaU K b o (i : Int) = some (((writeM b o i).1, (writeM b o i).2, ()), ()) := by
  have hs := baseM_store hb
  have hr : refsM b.2 = true := by
    unfold baseM at hb
    simp only [Bool.and_eq_true] at hb
    exact hb.1.2
  obtain ⟨_, _, h60, _⟩ := storeM_ok hs
  have hx := (refs_facts hr).1
  have hv := verB hr i hi
  obtain ⟨h, e, h3, h4⟩ := live_head hb hi hg
  have b1 : Nat.ble (b.1.length + 1) 268435456 = true := Nat.ble_eq_true_of_le (by omega)
  have hmv := fun n => moved_eq (K := K) b.2 (show b.2.length ≤ 1048576 by omega) hi hv n
  have hown := Base_own_eq (K := K) hK (b.1, b.2) hB
  have hlen : ∀ (c : Cm), ((b.1 ++ [c]).length : Int) = (b.1.length : Int) + 1 := fun c => by simp
  have hlz : ((b.1.length : Int) + 1 == 0) = false := by
    have : ¬ ((b.1.length : Int) + 1 = 0) := by omega
    simpa using this
  rcases hk with hk | hk
  · obtain ⟨src, es, h1, h2⟩ : ∃ src : Nat, (bif o.2.1 == 0 then (h : Int) else o.2.1) = (src : Int) ∧ 1 ≤ src ∧ src ≤ b.1.length := by
      cases hz : o.2.1 == 0 with
      | true => exact ⟨h, rfl, h3, h4⟩
      | false =>
        have : ¬ o.2.1 = 0 := by simpa using hz
        exact ⟨o.2.1.toNat, by simp only [cond_false]; omega, by omega, by omega⟩
    have hp := planC_eq (K := K) hK b o hs hk es h1 h2 h3 h4 he
    unfold R.qaU writeM
    simp only [e, hk, show ((3 : Int) == 3) = true from rfl, cond_true]
    simp only [es, Int.toNat_natCast, idx_nn, idx_lt hi, Bool.and_self, cond_true, dup_eq, e, hp, obind_some, hown, hmv, b1]
    unfold outP
    cases hc : (commitP b.1 src h o.2.2.2.2).2.2 == 0 with
    | false => simp only [cond_false, bne, hc, Bool.not_false, cond_true]; rfl
    | true =>
      simp only [cond_true, bne, show ((0 : Int) == 0) = true from rfl, Bool.not_true, Bool.not_false, cond_false, hlen]
      unfold advM movedM setR failR
      simp only [hlz]
      cases (b.1.length : Int) == 60 <;> cases (b.2.getD i ([], 0, 0, false)).2.2.1 == 1000000 <;> rfl
  · obtain ⟨src, es, h1, h2⟩ : ∃ src : Nat, o.2.1 = (src : Int) ∧ 1 ≤ src ∧ src ≤ b.1.length := ⟨o.2.1.toNat, by have := hf4 hk; omega, by have := hf4 hk; omega, by have := hf4 hk; omega⟩
    have hp := planJ_eq (K := K) hK b o hs (by rw [hk]; rfl) es h1 h2 h3 h4
    have hsz : ((src : Int) == 0) = false := by
      have : ¬ (src : Int) = 0 := by omega
      simpa using this
    unfold R.qaU writeM
    simp only [e, hk, show ((4 : Int) == 3) = false from rfl, cond_false]
    simp only [es, Int.toNat_natCast, idx_nn, idx_lt hi, Bool.and_self, cond_true, dup_eq, e, hp, obind_some, hown, hmv, b1]
    unfold outP
    cases hc : (joinP b.1 h src).2.2.2 == 0 with
    | false => simp only [cond_false, bne, hc, Bool.not_false, cond_true]; rfl
    | true =>
      simp only [cond_true, bne, show ((0 : Int) == 0) = true from rfl, Bool.not_true, cond_false, hlen]
      cases (joinP b.1 h src).1 with
      | false =>
        simp only [Bool.not_false, cond_true, cond_false]
        unfold advM movedM setR failR
        simp only [hlz]
        cases (b.1.length : Int) == 60 <;> cases (b.2.getD i ([], 0, 0, false)).2.2.1 == 1000000 <;> rfl
      | true =>
        simp only [Bool.not_true, cond_true, cond_false]
        unfold movedM setR failR
        simp only [hsz]
        cases (b.2.getD i ([], 0, 0, false)).2.2.1 == 1000000 <;> rfl
theorem l01At_loop (m : List En) (hm : m.length ≤ 1000000) (k : List UInt8) : ∀ (d i n : Nat), i + d = m.length → d < n →
    (R.L_qcN_0 K n (m, k, 0, (i : Int), ()) = some (.inl (0, ())) ∧ getK (m.drop i) k = none) ∨ ∃ j : Nat, ∃ hj : j < m.length, R.L_qcN_0 K n (m, k, 0, (i : Int), ()) = some (.inr ((j : Int), ())) ∧ getK (m.drop i) k = some m[j]
  | 0, i, n + 1, hi, _ => by
    have : i = m.length := by omega
    subst this
    exact .inl ⟨by simp only [R.L_qcN_0, idx_end, cond_false], by simp [getK]⟩
  | d + 1, i, n + 1, hi, hn => by
    have hlt : i < m.length := by omega
    simp only [R.L_qcN_0, idx_lt hlt, idx_nn, Bool.and_self, cond_true, Int.toNat_natCast, getD_get hlt, wrap_succ hlt (show m.length ≤ 9223372036854775807 by omega)]
    rw [List.drop_eq_getElem_cons hlt, getK, List.find?_cons]
    cases h : m[i].1 == k with
    | true => exact .inr ⟨i, hlt, rfl, rfl⟩
    | false =>
      simp only [cond_false]
      exact l01At_loop m hm k d (i + 1) n (by omega) (by omega)
end Go.Proofs.Pure
