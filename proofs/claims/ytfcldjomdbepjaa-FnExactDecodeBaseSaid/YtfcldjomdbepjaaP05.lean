/- Plain lemmas on what the functions come to. -/
import Derived.Test.YtfcldjomdbepjaaP04
namespace Go.Proofs.Pure
open Go Fw
set_option linter.all false
set_option maxRecDepth 100000
variable {K : Nat}

theorem sless_tri : ∀ a b : List UInt8, (!sless a b) = (sless b a || b == a)
  | [], [] => rfl
  | [], _ :: _ => rfl
  | _ :: _, [] => rfl
  | a :: x, b :: y => by
    have ih := sless_tri x y
    show (!(decide (a < b) || (a == b && sless x y))) = ((decide (b < a) || (b == a && sless y x)) || (b :: y == a :: x))
    rw [List.cons_beq_cons]
    by_cases h : a = b
    · subst h
      have : ¬ a < a := UInt8.lt_irrefl a
      simp only [this, decide_false, beq_self_eq_true, Bool.true_and, Bool.false_or]
      exact ih
    · have h' : (a == b) = false := by simpa using h
      have h'' : (b == a) = false := by simpa using fun e => h e.symm
      simp only [h', h'', Bool.false_and, Bool.or_false]
      by_cases hl : a < b
      · have : ¬ b < a := UInt8.lt_asymm hl
        simp [hl, this]
      · have : b < a := by
          have h1 : ¬ a.toNat < b.toNat := hl
          have h2 : a.toNat ≠ b.toNat := fun e => h (UInt8.toNat_inj.1 e)
          show b.toNat < a.toNat
          omega
        simp [hl, this]

abbrev En := List UInt8 × Int

abbrev Cm := List Int × List En

abbrev Ba := List Cm × List Rf

def inV (v : Int) : Bool := decide (-1000000 ≤ v) && decide (v ≤ 1000000)

/-- is the entry at 'i' well placed -/
def entOK (m : List En) (i : Nat) : Bool := wordM (m.getD i ([], 0)).1 && inV (m.getD i ([], 0)).2 && (decide (i = 0) || sless (m.getD (i - 1) ([], 0)).1 (m.getD i ([], 0)).1)

def mapM (m : List En) : Bool := decide (m.length ≤ 12) && (List.range' 0 m.length).all (entOK m)

theorem l01OK_eq (hK : 9223372036854775807 < K) (m : List En) : R.spec_l01OK K m = some ((mapM m, ()), ()) := by
  unfold R.spec_l01OK mapM
  by_cases h : m.length ≤ 12
  · have := all_ok (L := fun n i => R.L_spec_l01OK_0 K n (m, false, (i : Nat), ())) (len := m.length) (p := entOK m) (t := Sum.inl (false, ())) (f := Sum.inr (false, ()))
      (fun n => by simp only [R.L_spec_l01OK_0, idx_end, cond_false]) (fun n i hi => by
        simp only [R.L_spec_l01OK_0, wrap_succ hi (by omega), idx_lt hi, idx_nn, Bool.and_self, Int.toNat_natCast, word_eq hK, in_eq, obind_some, cond_true, entOK, inV]
        cases i with
        | zero =>
          cases wordM (m.getD 0 ([], 0)).1 <;> cases decide (-1000000 ≤ (m.getD 0 ([], 0)).2) && decide ((m.getD 0 ([], 0)).2 ≤ 1000000) <;> rfl
        | succ i =>
          have g1 : (((i + 1 : Nat) : Int) > 0) := by omega
          have g2 : i < m.length := by omega
          simp only [wrap_pred hi (by omega), Int.toNat_natCast, Nat.add_sub_cancel, idx_lt g2, idx_nn, Bool.and_self, g1, decide_true, cond_true, show ¬ (i + 1 = 0) by omega, decide_false, Bool.false_or]
          rw [← sless_tri]
          cases wordM (m.getD (i + 1) ([], 0)).1 <;> cases decide (-1000000 ≤ (m.getD (i + 1) ([], 0)).2) && decide ((m.getD (i + 1) ([], 0)).2 ≤ 1000000) <;> cases sless (m.getD i ([], 0)).1 (m.getD (i + 1) ([], 0)).1 <;> rfl) m.length 0 K (by omega) (by omega)
    have this : R.L_spec_l01OK_0 K K (m, false, 0, ()) = _ := this
    simp only [this, h, show ¬ ((m.length : Int) > 12) by omega, obind_some, decide_true, decide_false, cond_false, Bool.true_and]
    cases (List.range' 0 m.length).all (entOK m) <;> rfl
  · simp [h, show (m.length : Int) > 12 by omega]

theorem isValue_eq (v : Int) : R.impl_isValue K v = some ((inV v, ()), ()) := by
  unfold R.impl_isValue
  rw [within_eq]
  rfl

theorem MapOK_eq (hK : 9223372036854775807 < K) (m : List En) (hx : m.length ≤ 9223372036854775807) : R.impl_MapOK K m = some ((mapM m, ()), ()) := by
  have := all_ok (L := fun n i => R.L_impl_MapOK_0 K n (m, false, m, (m.length : Int), (i : Nat), ())) (len := m.length) (p := entOK m) (t := Sum.inl (m, false, ())) (f := Sum.inr (false, ()))
      (fun n => by simp only [R.L_impl_MapOK_0, idx_end, cond_false]) (fun n i hi => by
        simp only [R.L_impl_MapOK_0, wrap_succ hi hx, idx_lt hi, idx_nn, Bool.and_self, Int.toNat_natCast, NameOK_eq hK, isValue_eq, obind_some, cond_true, entOK]
        cases i with
        | zero =>
          cases wordM (m.getD 0 ([], 0)).1 <;> cases inV (m.getD 0 ([], 0)).2 <;> rfl
        | succ i =>
          have g1 : (((i + 1 : Nat) : Int) > 0) := by omega
          have g2 : i < m.length := by omega
          simp only [wrap_pred hi hx, Int.toNat_natCast, Nat.add_sub_cancel, idx_lt g2, idx_nn, Bool.and_self, g1, decide_true, cond_true, show ¬ (i + 1 = 0) by omega, decide_false, Bool.false_or]
          cases wordM (m.getD (i + 1) ([], 0)).1 <;> cases inV (m.getD (i + 1) ([], 0)).2 <;> cases sless (m.getD i ([], 0)).1 (m.getD (i + 1) ([], 0)).1 <;> rfl) m.length 0 K (by omega) (by omega)
  have this : R.L_impl_MapOK_0 K K (m, false, m, (m.length : Int), 0, ()) = _ := this
  unfold R.impl_MapOK mapM
  rw [this]
  cases (List.range' 0 m.length).all (entOK m)
  · simp [obind]
  · by_cases h : m.length ≤ 12
    · simp [obind, h, show (m.length : Int) ≤ 12 by omega]
    · simp [obind, h, show ¬ (m.length : Int) ≤ 12 by omega]


def parM (n : Nat) (ps : List Int) : Bool := match ps with
  | [] => true
  | [p] => decide (1 ≤ p) && decide (p ≤ (n : Int))
  | p :: q :: _ => (decide (1 ≤ p) && decide (p ≤ (n : Int))) && (decide (1 ≤ q) && decide (q ≤ (n : Int))) && !(q == p)

def commitM (n : Nat) (c : Cm) : Bool := mapM c.2 && decide (c.1.length ≤ 2) && (decide (c.1.length = 0) == decide (n = 0)) && parM n c.1

theorem int0 {n : Nat} : ((n : Int) == 0) = decide (n = 0) := by
  by_cases h : n = 0
  · simp [h]
  · have : (n : Int) ≠ 0 := by omega
    simp [h, this]

theorem l03Commit_eq (hK : 9223372036854775807 < K) (s : List Cm) (c : Cm) : R.spec_l03Commit K s c = some ((commitM s.length c, ()), ()) := by
  unfold R.spec_l03Commit commitM
  simp only [l01OK_eq hK, obind_some, int0]
  cases mapM c.2
  · rfl
  obtain ⟨k, rfl⟩ : ∃ k, K = k + 3 := ⟨K - 3, by omega⟩
  obtain ⟨ps, m⟩ := c
  match ps with
  | [] => cases h : decide (s.length = 0) <;> simp [h, R.L_spec_l03Commit_0, obind, parM]
  | [p] =>
    have w1 : IntKind.i64.wrap 1 = 1 := by decide
    have w2 : IntKind.i64.wrap (0 + 1) = 1 := by decide
    cases h : decide (s.length = 0)
    · cases h1 : decide (1 ≤ p) && decide (p ≤ (s.length : Int)) <;> simp [h, h1, R.L_spec_l03Commit_0, obind, parM, in_eq, w1]
    · simp [h]
  | [p, q] =>
    have w1 : IntKind.i64.wrap 1 = 1 := by decide
    have w2 : IntKind.i64.wrap 2 = 2 := by decide
    cases h : decide (s.length = 0)
    · cases h1 : decide (1 ≤ p) && decide (p ≤ (s.length : Int)) <;> cases h2 : decide (1 ≤ q) && decide (q ≤ (s.length : Int)) <;> cases h3 : q == p <;> simp [h, h1, h2, h3, R.L_spec_l03Commit_0, obind, parM, in_eq, w1, w2]
    · simp [h]
  | p :: q :: r :: t =>
    have h1 : ((p :: q :: r :: t : List Int).length : Int) > 2 := by simp; omega
    have h2 : ¬ (p :: q :: r :: t : List Int).length ≤ 2 := by simp
    simp only [h1, h2, decide_true, decide_false, cond_true, cond_false, Bool.not_true, Bool.and_false, Bool.false_and]

theorem areAll_int_at_eq (hK : 9223372036854775807 < K) (ps : List Int) (hl : ps.length ≤ 2) (n : Nat) (hn : n ≤ 1000000) : R.impl_areAll_int__impl_Commit_isAt_1 K ps ((n : Int) + 1) = some ((ps.all fun p => decide (1 ≤ p) && decide (p ≤ (n : Int)), ()), ()) := by
  obtain ⟨k, rfl⟩ : ∃ k, K = k + 3 := ⟨K - 3, by omega⟩
  have w1 : IntKind.i64.wrap 1 = 1 := by decide
  have w2 : IntKind.i64.wrap 2 = 2 := by decide
  have wn : IntKind.i64.wrap (n : Int) = n := wrap_id (by omega) (by omega)
  unfold R.impl_areAll_int__impl_Commit_isAt_1
  match ps with
  | [] => simp [R.L_impl_areAll_int__impl_Commit_isAt_1_0, obind]
  | [p] =>
    by_cases a1 : 1 ≤ p <;> by_cases a2 : p ≤ (n : Int) <;> simp [R.L_impl_areAll_int__impl_Commit_isAt_1_0, obind, within_eq, w1, wn, a1, a2]
  | [p, q] =>
    by_cases a1 : 1 ≤ p <;> by_cases a2 : p ≤ (n : Int) <;> by_cases b1 : 1 ≤ q <;> by_cases b2 : q ≤ (n : Int) <;> simp [R.L_impl_areAll_int__impl_Commit_isAt_1_0, obind, within_eq, w1, w2, wn, a1, a2, b1, b2]
  | _ :: _ :: _ :: _ => simp at hl

theorem len_eq2 {n : Nat} : ((n : Int) == 2) = decide (n = 2) := by
  by_cases h : n = 2
  · simp [h]
  · have : (n : Int) ≠ 2 := by omega
    simp [h, this]

theorem isAt_eq (hK : 9223372036854775807 < K) (c : Cm) (hx : c.2.length ≤ 9223372036854775807) (n : Nat) (hn : n ≤ 1000000) : R.impl_Commit_isAt K c ((n : Int) + 1) = some ((commitM n c, ()), ()) := by
  unfold R.impl_Commit_isAt commitM
  have hid : ((n : Int) + 1 == 1) = decide (n = 0) := by
    by_cases h : n = 0
    · simp [h]
    · have : ((n : Int) + 1) ≠ 1 := by omega
      simp [h, this]
  simp only [MapOK_eq hK _ hx, obind_some, int0, hid, len_eq2]
  cases mapM c.2
  · rfl
  by_cases h2 : c.1.length ≤ 2
  · simp only [areAll_int_at_eq hK c.1 h2 n hn, obind_some, show ¬ ((c.1.length : Int) > 2) by omega, h2, decide_true, decide_false, cond_false, Bool.not_true, Bool.true_and, Bool.and_true]
    obtain ⟨ps, m⟩ := c
    match ps with
    | [] => cases h : decide (n = 0) <;> simp [h, parM]
    | [p] => cases h : decide (n = 0) <;> simp [h, parM]
    | [p, q] =>
      have e : (p == q) = (q == p) := Bool.beq_comm
      cases h : decide (n = 0) <;> cases h1 : decide (1 ≤ p) && decide (p ≤ (n : Int)) <;> cases h3 : decide (1 ≤ q) && decide (q ≤ (n : Int)) <;> cases h4 : q == p <;> simp [h, h1, h3, h4, e, parM]
    | _ :: _ :: _ :: _ => simp at h2
  · have h3 : (c.1.length : Int) > 2 := by omega
    simp only [h2, h3, decide_true, decide_false, cond_true, cond_false, Bool.not_true, Bool.and_false, Bool.false_and]

def storeM (s : List Cm) : Bool := decide (1 ≤ s.length) && decide (s.length ≤ 60) && (List.range' 0 s.length).all fun i => commitM i (s.getD i ([], []))

theorem l03OK_eq (hK : 9223372036854775807 < K) (s : List Cm) : R.spec_l03OK K s = some ((storeM s, ()), ()) := by
  unfold R.spec_l03OK storeM
  simp only [in_eq, obind_some]
  by_cases h1 : 1 ≤ s.length
  · by_cases h2 : s.length ≤ 60
    · have := all_ok (L := fun n i => R.L_spec_l03OK_0 K n (s, false, (i : Nat), ())) (len := s.length) (p := fun i => commitM i (s.getD i ([], []))) (t := Sum.inl (false, ())) (f := Sum.inr (false, ()))
        (fun n => by simp only [R.L_spec_l03OK_0, idx_end, cond_false]) (fun n i hi => by
          have g : ((i : Nat) : Int) ≤ (s.length : Int) := by omega
          have e : (List.drop 0 (List.take i s)).length = i := by simp; omega
          simp only [R.L_spec_l03OK_0, wrap_succ hi (by omega), idx_lt hi, idx_nn, Bool.and_self, Int.toNat_natCast, l03Commit_eq hK, obind_some, cond_true, g, decide_true, e]
          cases commitM i (s.getD i ([], [])) <;> rfl) s.length 0 K (by omega) (by omega)
      have this : R.L_spec_l03OK_0 K K (s, false, 0, ()) = _ := this
      simp only [this, show (1 : Int) ≤ s.length by omega, show (s.length : Int) ≤ 60 by omega, h1, h2, obind_some, decide_true, Bool.and_self, Bool.not_true, cond_false, Bool.true_and]
      cases (List.range' 0 s.length).all fun i => commitM i (s.getD i ([], [])) <;> rfl
    · simp [h2, show ¬ (s.length : Int) ≤ 60 by omega]
  · simp [h1, show ¬ (1 : Int) ≤ s.length by omega]

theorem areCommits_eq (hK : 9223372036854775807 < K) (s : List Cm) (hs : s.length ≤ 4096) (hw : ∀ c ∈ s, c.2.length ≤ 9223372036854775807) : R.impl_areCommits K s = some ((decide (s.length ≤ 60) && (List.range' 0 s.length).all fun i => commitM i (s.getD i ([], [])), ()), ()) := by
  have := all_ok (L := fun n i => R.L_impl_areCommits_0 K n (s, false, s, (s.length : Int), (i : Nat), ())) (len := s.length) (p := fun i => commitM i (s.getD i ([], []))) (t := Sum.inl (s, false, ())) (f := Sum.inr (false, ()))
    (fun n => by simp only [R.L_impl_areCommits_0, idx_end, cond_false]) (fun n i hi => by
      have e : IntKind.i64.wrap ((i : Int) + 1) = (i : Int) + 1 := wrap_id (by omega) (by omega)
      simp only [R.L_impl_areCommits_0, e, idx_lt hi, idx_nn, Bool.and_self, Int.toNat_natCast, isAt_eq hK _ (hw _ (getD_mem ([], []) hi)) i (by omega), obind_some, cond_true]
      cases commitM i (s.getD i ([], []))
      · rfl
      · simp) s.length 0 K (by omega) (by omega)
  have this : R.L_impl_areCommits_0 K K (s, false, s, (s.length : Int), 0, ()) = _ := this
  unfold R.impl_areCommits
  rw [this]
  cases (List.range' 0 s.length).all fun i => commitM i (s.getD i ([], []))
  · simp [obind]
  · by_cases h : s.length ≤ 60
    · simp [obind, h, show (s.length : Int) ≤ 60 by omega]
    · simp [obind, h, show ¬ (s.length : Int) ≤ 60 by omega]

theorem StoreOK_eq (hK : 9223372036854775807 < K) (s : List Cm) (hw : ∀ c ∈ s, c.2.length ≤ 9223372036854775807) : R.impl_StoreOK K s = some ((storeM s, ()), ()) := by
  unfold R.impl_StoreOK storeM
  by_cases h1 : 1 ≤ s.length
  · by_cases h2 : s.length ≤ 4096
    · simp only [show (s.length : Int) > 0 by omega, show (s.length : Int) ≤ 4096 by omega, areCommits_eq hK s h2 hw, obind_some, decide_true, cond_true, h1, Bool.true_and]
    · simp [show (s.length : Int) > 0 by omega, h2, show ¬ (s.length : Int) ≤ 4096 by omega, show ¬ s.length ≤ 60 by omega]
  · simp [h1, show ¬ (0 : Int) < s.length by omega, show ¬ 0 < s.length by omega]


theorem areAll_isRef_eq (hK : 9223372036854775807 < K) (xs : List Rf) (hl : xs.length ≤ 8) (hn : ∀ r ∈ xs, r.1.length ≤ 9223372036854775807) : R.impl_areAll_impl_Ref__impl_isRef K xs = some (((List.range' 0 xs.length).all fun i => refGood (xs.getD i ([], 0, 0, false)), ()), ()) := by
  obtain ⟨j, this⟩ := all_okI (L := fun n i => R.L_impl_areAll_impl_Ref__impl_isRef_0 K n (xs, false, xs, xs, false, xs, xs, 0, (xs.length : Int), (i : Nat), ())) (len := xs.length) (p := fun i => refGood (xs.getD i ([], 0, 0, false)))
    (t := Sum.inl (xs, false, xs, xs, false, xs, 0, ())) (f := fun i => Sum.inr (xs, false, xs, xs, false, xs, (i : Int), ()))
    (fun n => by simp only [R.L_impl_areAll_impl_Ref__impl_isRef_0, idx_end, cond_false]) (fun n i hi => by
      simp only [R.L_impl_areAll_impl_Ref__impl_isRef_0, wrap_succ hi (by omega), idx_lt hi, idx_nn, Bool.and_self, Int.toNat_natCast, isRef_eq hK _ (hn _ (getD_mem _ hi)), obind_some, cond_true]
      cases refGood (xs.getD i ([], 0, 0, false)) <;> rfl) xs.length 0 K (by omega) (by omega)
  have this : R.L_impl_areAll_impl_Ref__impl_isRef_0 K K (xs, false, xs, xs, false, xs, xs, 0, (xs.length : Int), 0, ()) = _ := this
  unfold R.impl_areAll_impl_Ref__impl_isRef
  rw [this]
  cases (List.range' 0 xs.length).all fun i => refGood (xs.getD i ([], 0, 0, false)) <;> simp [obind]

theorem place_eq (hK : 9223372036854775807 < K) (xs : List Rf) (hx : xs.length ≤ 9223372036854775807) (s : List UInt8) : R.impl_place K xs s = some ((refAt xs s, ()), ()) := by
  have := find_ok (L := fun n i => R.L_slices_IndexFunc_impl_Ref__impl_place_1_0 K n (xs, s, 0, (xs.length : Int), (i : Nat), ())) (len := xs.length) (p := fun i => (xs.getD i ([], 0, 0, false)).1 == s) (t := Sum.inl (0, ())) (f := fun i => Sum.inr ((i : Int), ()))
    (fun n => by simp only [R.L_slices_IndexFunc_impl_Ref__impl_place_1_0, idx_end, cond_false]) (fun n i hi => by
      simp only [R.L_slices_IndexFunc_impl_Ref__impl_place_1_0, wrap_succ hi hx, idx_lt hi, idx_nn, Bool.and_self, Int.toNat_natCast, cond_true]) xs.length 0 K (by omega) (by omega)
  have this : R.L_slices_IndexFunc_impl_Ref__impl_place_1_0 K K (xs, s, 0, (xs.length : Int), 0, ()) = _ := this
  unfold R.impl_place R.slices_IndexFunc_impl_Ref__impl_place_1 refAt
  rw [this]
  cases (List.range' 0 xs.length).find? (fun i => (xs.getD i ([], 0, 0, false)).1 == s) <;> rfl

theorem take_getD {α : Type} (xs : List α) (d : α) {i j : Nat} (h : j < i) : (xs.take i).getD j d = xs.getD j d := by
  simp [List.getD_eq_getElem?_getD, List.getElem?_take, h]

theorem find_congr {α : Type} {p q : α → Bool} : ∀ {l : List α}, (∀ j ∈ l, p j = q j) → l.find? p = l.find? q
  | [], _ => rfl
  | a :: l, h => by
    rw [List.find?_cons, List.find?_cons, h a (by simp), find_congr (l := l) fun j hj => h j (by simp [hj])]

theorem refAt_take (xs : List Rf) (i : Nat) (hi : i < xs.length) : decide (refAt (xs.take i) (xs.getD i ([], 0, 0, false)).1 ≥ 0) = !(refAt xs (xs.getD i ([], 0, 0, false)).1 == (i : Int)) := by
  have hl : (xs.take i).length = i := by simp; omega
  have hp : ∀ j ∈ List.range' 0 i, (((xs.take i).getD j ([], 0, 0, false)).1 == (xs.getD i ([], 0, 0, false)).1) = ((xs.getD j ([], 0, 0, false)).1 == (xs.getD i ([], 0, 0, false)).1) := fun j hj => by
    rw [take_getD]
    simp at hj; omega
  have hs : List.range' 0 xs.length = List.range' 0 i ++ List.range' i (xs.length - i) := by
    have := List.range'_append_1 (s := 0) (m := i) (n := xs.length - i)
    rw [Nat.zero_add] at this
    rw [this]; congr 1; omega
  have hc : List.range' i (xs.length - i) = i :: List.range' (i + 1) (xs.length - i - 1) := by
    rw [show xs.length - i = (xs.length - i - 1) + 1 by omega, List.range'_succ]; simp
  unfold refAt
  rw [hl, find_congr (q := fun j => (xs.getD j ([], 0, 0, false)).1 == (xs.getD i ([], 0, 0, false)).1) hp, hs, List.find?_append, hc]
  cases e : (List.range' 0 i).find? (fun j => (xs.getD j ([], 0, 0, false)).1 == (xs.getD i ([], 0, 0, false)).1) with
  | none => simp
  | some j =>
    have hj : j < i := by
      have := List.mem_of_find?_eq_some e
      simp at this; omega
    have : ((j : Int) == (i : Int)) = false := by
      have : (j : Int) ≠ i := by omega
      simpa using this
    simp [this]

theorem RefsOK_eq (hK : 9223372036854775807 < K) (xs : List Rf) (hn : ∀ r ∈ xs, r.1.length ≤ 9223372036854775807) : R.impl_RefsOK K xs = some ((refsM xs, ()), ()) := by
  unfold R.impl_RefsOK refsM
  by_cases h8 : xs.length ≤ 8
  · have := all_ok (L := fun n i => R.L_impl_RefsOK_0 K n (xs, false, xs, (xs.length : Int), (i : Nat), ())) (len := xs.length) (p := fun i => refAt xs (xs.getD i ([], 0, 0, false)).1 == (i : Int)) (t := Sum.inl (false, ())) (f := Sum.inr (false, ()))
      (fun n => by simp only [R.L_impl_RefsOK_0, idx_end, cond_false]) (fun n i hi => by
        have g : ((i : Nat) : Int) ≤ (xs.length : Int) := by omega
        have hl : (xs.take i).length ≤ 9223372036854775807 := by simp; omega
        simp only [R.L_impl_RefsOK_0, wrap_succ hi (by omega), idx_lt hi, idx_nn, Bool.and_self, Int.toNat_natCast, List.drop_zero, place_eq hK _ hl, obind_some, cond_true, g, decide_true, refAt_take xs i hi]
        cases refAt xs (xs.getD i ([], 0, 0, false)).1 == (i : Int) <;> rfl) xs.length 0 K (by omega) (by omega)
    have this : R.L_impl_RefsOK_0 K K (xs, false, xs, (xs.length : Int), 0, ()) = _ := this
    have hand : ((List.range' 0 xs.length).all fun i => refGood (xs.getD i ([], 0, 0, false)) && (refAt xs (xs.getD i ([], 0, 0, false)).1 == (i : Int))) = (((List.range' 0 xs.length).all fun i => refGood (xs.getD i ([], 0, 0, false))) && (List.range' 0 xs.length).all fun i => refAt xs (xs.getD i ([], 0, 0, false)).1 == (i : Int)) := by
      induction List.range' 0 xs.length with
      | nil => rfl
      | cons a l ih =>
        simp only [List.all_cons, ih]
        cases refGood (xs.getD a ([], 0, 0, false)) <;> cases refAt xs (xs.getD a ([], 0, 0, false)).1 == (a : Int) <;> simp
    simp only [this, areAll_isRef_eq hK xs h8 hn, h8, show ¬ ((xs.length : Int) > 8) by omega, obind_some, decide_true, decide_false, cond_false, Bool.true_and, hand]
    cases (List.range' 0 xs.length).all fun i => refGood (xs.getD i ([], 0, 0, false)) <;> cases (List.range' 0 xs.length).all fun i => refAt xs (xs.getD i ([], 0, 0, false)).1 == (i : Int) <;> rfl
  · simp [h8, show (xs.length : Int) > 8 by omega]


def baseM (b : Ba) : Bool := storeM b.1 && refsM b.2 && (List.range' 0 b.2.length).all fun i => decide ((b.2.getD i ([], 0, 0, false)).2.1 ≤ (b.1.length : Int))

theorem l05OK_eq (hK : 9223372036854775807 < K) (b : Ba) (hx : b.2.length ≤ 9223372036854775807) : R.spec_l05OK K b = some ((baseM b, ()), ()) := by
  unfold R.spec_l05OK baseM
  simp only [l03OK_eq hK, l04OK_eq hK, obind_some]
  cases storeM b.1
  · rfl
  cases refsM b.2
  · rfl
  have := all_ok (L := fun n i => R.L_spec_l05OK_0 K n (false, (i : Nat), b.1, b.2, ())) (len := b.2.length) (p := fun i => decide ((b.2.getD i ([], 0, 0, false)).2.1 ≤ (b.1.length : Int))) (t := Sum.inl (false, ())) (f := Sum.inr (false, ()))
    (fun n => by simp only [R.L_spec_l05OK_0, idx_end, cond_false]) (fun n i hi => by
      simp only [R.L_spec_l05OK_0, wrap_succ hi hx, idx_lt hi, idx_nn, Bool.and_self, Int.toNat_natCast, cond_true]
      by_cases h : (b.2.getD i ([], 0, 0, false)).2.1 ≤ (b.1.length : Int)
      · simp only [h, show ¬ ((b.2.getD i ([], 0, 0, false)).2.1 > (b.1.length : Int)) by omega, decide_true, decide_false]; rfl
      · simp only [h, show ((b.2.getD i ([], 0, 0, false)).2.1 > (b.1.length : Int)) by omega, decide_true, decide_false]; rfl) b.2.length 0 K (by omega) (by omega)
  have this : R.L_spec_l05OK_0 K K (false, 0, b.1, b.2, ()) = _ := this
  rw [this]
  cases (List.range' 0 b.2.length).all fun i => decide ((b.2.getD i ([], 0, 0, false)).2.1 ≤ (b.1.length : Int)) <;> rfl

theorem areAll_BaseOK_eq (hK : 9223372036854775807 < K) (xs : List Rf) (b : Ba) (hx : xs.length ≤ 9223372036854775807) : R.impl_areAll_impl_Ref__impl_BaseOK_1 K xs b = some (((List.range' 0 xs.length).all fun i => decide ((xs.getD i ([], 0, 0, false)).2.1 ≤ (b.1.length : Int)), ()), ()) := by
  obtain ⟨j, this⟩ := all_okI (L := fun n i => R.L_impl_areAll_impl_Ref__impl_BaseOK_1_0 K n (xs, b, false, xs, xs, false, xs, xs, 0, (xs.length : Int), (i : Nat), b, ())) (len := xs.length) (p := fun i => decide ((xs.getD i ([], 0, 0, false)).2.1 ≤ (b.1.length : Int)))
    (t := Sum.inl (xs, b, false, xs, xs, false, xs, 0, b, ())) (f := fun i => Sum.inr (xs, b, false, xs, xs, false, xs, (i : Int), b, ()))
    (fun n => by simp only [R.L_impl_areAll_impl_Ref__impl_BaseOK_1_0, idx_end, cond_false]) (fun n i hi => by
      simp only [R.L_impl_areAll_impl_Ref__impl_BaseOK_1_0, wrap_succ hi hx, idx_lt hi, idx_nn, Bool.and_self, Int.toNat_natCast, cond_true]
      cases decide ((xs.getD i ([], 0, 0, false)).2.1 ≤ (b.1.length : Int)) <;> rfl) xs.length 0 K (by omega) (by omega)
  have this : R.L_impl_areAll_impl_Ref__impl_BaseOK_1_0 K K (xs, b, false, xs, xs, false, xs, xs, 0, (xs.length : Int), 0, b, ()) = _ := this
  unfold R.impl_areAll_impl_Ref__impl_BaseOK_1
  rw [this]
  cases (List.range' 0 xs.length).all fun i => decide ((xs.getD i ([], 0, 0, false)).2.1 ≤ (b.1.length : Int)) <;> simp [obind]

theorem BaseOK_eq (hK : 9223372036854775807 < K) (b : Ba) (hx : b.2.length ≤ 9223372036854775807) (hw : ∀ c ∈ b.1, c.2.length ≤ 9223372036854775807) (hn : ∀ r ∈ b.2, r.1.length ≤ 9223372036854775807) : R.impl_BaseOK K b = some ((baseM b, ()), ()) := by
  unfold R.impl_BaseOK baseM
  simp only [StoreOK_eq hK _ hw, RefsOK_eq hK _ hn, areAll_BaseOK_eq hK _ _ hx, obind_some]
  cases storeM b.1 <;> cases refsM b.2 <;> rfl
end Go.Proofs.Pure
