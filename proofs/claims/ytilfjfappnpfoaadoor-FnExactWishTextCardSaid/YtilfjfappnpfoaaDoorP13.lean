/- Plain lemmas on what the functions come to. -/
import Derived.Test.YtilfjfappnpfoaaDoorP12
namespace Go.Proofs.Pure
open Go Fw
set_option linter.all false
set_option maxRecDepth 100000
variable {K : Nat}

abbrev Ed := List UInt8 × Int × Bool

/-- is the edit at 'i' well placed -/
def edOK (m : List Ed) (i : Nat) : Bool := wordM (m.getD i ([], 0, false)).1 && inV (m.getD i ([], 0, false)).2.1 && !((m.getD i ([], 0, false)).2.2 && ((m.getD i ([], 0, false)).2.1 != 0)) && (decide (i = 0) || sless (m.getD (i - 1) ([], 0, false)).1 (m.getD i ([], 0, false)).1)

def editsM (m : List Ed) : Bool := decide (m.length ≤ 6) && (List.range' 0 m.length).all (edOK m)

theorem l01Edits_eq (hK : 9223372036854775807 < K) (m : List Ed) : R.spec_l01Edits K m = some ((editsM m, ()), ()) := by
  unfold R.spec_l01Edits editsM
  by_cases h : m.length ≤ 6
  · have := all_ok (L := fun n i => R.L_spec_l01Edits_0 K n (m, false, (i : Nat), ())) (len := m.length) (p := edOK m) (t := Sum.inl (false, ())) (f := Sum.inr (false, ()))
      (fun n => by simp only [R.L_spec_l01Edits_0, idx_end, cond_false]) (fun n i hi => by
        simp only [R.L_spec_l01Edits_0, wrap_succ hi (by omega), idx_lt hi, idx_nn, Bool.and_self, Int.toNat_natCast, word_eq hK, in_eq, obind_some, cond_true, edOK, inV]
        cases i with
        | zero =>
          cases wordM (m.getD 0 ([], 0, false)).1 <;> cases decide (-1000000 ≤ (m.getD 0 ([], 0, false)).2.1) && decide ((m.getD 0 ([], 0, false)).2.1 ≤ 1000000) <;> cases (m.getD 0 ([], 0, false)).2.2 <;> cases (m.getD 0 ([], 0, false)).2.1 != 0 <;> rfl
        | succ i =>
          have g1 : (((i + 1 : Nat) : Int) > 0) := by omega
          have g2 : i < m.length := by omega
          simp only [wrap_pred hi (by omega), Int.toNat_natCast, Nat.add_sub_cancel, idx_lt g2, idx_nn, Bool.and_self, g1, decide_true, cond_true, show ¬ (i + 1 = 0) by omega, decide_false, Bool.false_or]
          rw [← sless_tri]
          cases wordM (m.getD (i + 1) ([], 0, false)).1 <;> cases decide (-1000000 ≤ (m.getD (i + 1) ([], 0, false)).2.1) && decide ((m.getD (i + 1) ([], 0, false)).2.1 ≤ 1000000) <;> cases (m.getD (i + 1) ([], 0, false)).2.2 <;> cases (m.getD (i + 1) ([], 0, false)).2.1 != 0 <;> cases sless (m.getD i ([], 0, false)).1 (m.getD (i + 1) ([], 0, false)).1 <;> rfl) m.length 0 K (by omega) (by omega)
    have this : R.L_spec_l01Edits_0 K K (m, false, 0, ()) = _ := this
    simp only [this, h, show ¬ ((m.length : Int) > 6) by omega, obind_some, decide_true, decide_false, cond_false, Bool.true_and]
    cases (List.range' 0 m.length).all (edOK m) <;> rfl
  · simp [h, show (m.length : Int) > 6 by omega]

theorem EditsOK_eq (hK : 9223372036854775807 < K) (m : List Ed) (hx : m.length ≤ 9223372036854775807) : R.impl_EditsOK K m = some ((editsM m, ()), ()) := by
  have := all_ok (L := fun n i => R.L_impl_EditsOK_0 K n (m, false, m, (m.length : Int), (i : Nat), ())) (len := m.length) (p := edOK m) (t := Sum.inl (m, false, ())) (f := Sum.inr (false, ()))
      (fun n => by simp only [R.L_impl_EditsOK_0, idx_end, cond_false]) (fun n i hi => by
        simp only [R.L_impl_EditsOK_0, wrap_succ hi hx, idx_lt hi, idx_nn, Bool.and_self, Int.toNat_natCast, NameOK_eq hK, isValue_eq, obind_some, cond_true, edOK]
        cases i with
        | zero =>
          cases wordM (m.getD 0 ([], 0, false)).1 <;> cases inV (m.getD 0 ([], 0, false)).2.1 <;> cases (m.getD 0 ([], 0, false)).2.2 <;> cases (m.getD 0 ([], 0, false)).2.1 != 0 <;> rfl
        | succ i =>
          have g1 : (((i + 1 : Nat) : Int) > 0) := by omega
          have g2 : i < m.length := by omega
          simp only [wrap_pred hi hx, Int.toNat_natCast, Nat.add_sub_cancel, idx_lt g2, idx_nn, Bool.and_self, g1, decide_true, cond_true, show ¬ (i + 1 = 0) by omega, decide_false, Bool.false_or]
          cases wordM (m.getD (i + 1) ([], 0, false)).1 <;> cases inV (m.getD (i + 1) ([], 0, false)).2.1 <;> cases (m.getD (i + 1) ([], 0, false)).2.2 <;> cases (m.getD (i + 1) ([], 0, false)).2.1 != 0 <;> cases sless (m.getD i ([], 0, false)).1 (m.getD (i + 1) ([], 0, false)).1 <;> rfl) m.length 0 K (by omega) (by omega)
  have this : R.L_impl_EditsOK_0 K K (m, false, m, (m.length : Int), 0, ()) = _ := this
  unfold R.impl_EditsOK editsM
  rw [this]
  cases (List.range' 0 m.length).all (edOK m)
  · simp [obind]
  · by_cases h : m.length ≤ 6
    · simp [obind, h, show (m.length : Int) ≤ 6 by omega]
    · simp [obind, h, show ¬ (m.length : Int) ≤ 6 by omega]

def EdS (e : Ed) : Prop := e.1.length ≤ 12 ∧ -1000000 ≤ e.2.1 ∧ e.2.1 ≤ 1000000

theorem editsM_in {m : List Ed} (h : editsM m = true) : m.length ≤ 6 ∧ ∀ e ∈ m, EdS e := by
  unfold editsM at h
  simp only [Bool.and_eq_true, decide_eq_true_eq] at h
  refine ⟨h.1, all_getD (d := ([], 0, false)) h.2 fun i hi he => ?_⟩
  unfold edOK inV at he
  simp only [Bool.and_eq_true, decide_eq_true_eq] at he
  exact ⟨(wordM_len he.1.1.1).2, he.1.1.2.1, he.1.1.2.2⟩

def edTxt (e : Ed) : List UInt8 := bif e.2.2 then [33] ++ e.1 else e.1 ++ [61] ++ Lib.itoa e.2.1

def editsTxt (m : List Ed) : List UInt8 := wordsTxt (fun i => edTxt (m.getD i ([], 0, false))) m.length

theorem edTxt_len (e : Ed) (h : EdS e) : (edTxt e).length ≤ 24 := by
  have := itoa_len e.2.1 h.2.1 h.2.2
  have := h.1
  unfold edTxt
  cases e.2.2 <;> simp <;> omega

theorem l13Edits_eq (hK : 9223372036854775807 < K) (m : List Ed) (hm : m.length ≤ 6) (he : ∀ e ∈ m, EdS e) : R.spec_l13Edits K m = some ((editsTxt m, ()), ()) := by
  unfold R.spec_l13Edits editsTxt wordsTxt
  rw [int0]
  by_cases h0 : m.length = 0
  · simp [h0]
  · have hg : ∀ i, i < m.length → EdS (m.getD i ([], 0, false)) := fun i hi => he _ (getD_mem ([], 0, false) hi)
    have := cat_ok (L := fun n i s => R.L_spec_l13Edits_0 K n (m, [], s, (i : Nat), ())) (len := m.length) (A := 100) (B := 25) (g := fun i => (if i = 0 then [] else [44]) ++ edTxt (m.getD i ([], 0, false))) (fin := fun s => Sum.inl ([], s, ()))
      (fun i hi => by have := edTxt_len _ (hg i hi); split <;> simp only [List.length_append, List.length_cons, List.length_nil] <;> omega)
      (fun n s => by simp only [R.L_spec_l13Edits_0, idx_end, cond_false]) (fun n i s hi hs => by
        have g := hg i hi
        have gi := itoa_len _ g.2.1 g.2.2
        have g1 := g.1
        have b0 : Nat.ble (1 + (m.getD i ([], 0, false)).1.length) 268435456 = true := ble_of (by omega)
        have b1 : Nat.ble ((m.getD i ([], 0, false)).1.length + 1) 268435456 = true := ble_of (by omega)
        have b2 : Nat.ble ((m.getD i ([], 0, false)).1.length + 1 + (Lib.itoa (m.getD i ([], 0, false)).2.1).length) 268435456 = true := ble_of (by omega)
        have b3 : Nat.ble (s.length + ((m.getD i ([], 0, false)).1.length + 1 + (Lib.itoa (m.getD i ([], 0, false)).2.1).length)) 268435456 = true := ble_of (by omega)
        have b3' : Nat.ble (s.length + (1 + (m.getD i ([], 0, false)).1.length)) 268435456 = true := ble_of (by omega)
        have b4 : Nat.ble (s.length + 1) 268435456 = true := ble_of (by omega)
        have b6 : Nat.ble (s.length + 1 + ((m.getD i ([], 0, false)).1.length + (1 + (Lib.itoa (m.getD i ([], 0, false)).2.1).length))) 268435456 = true := ble_of (by omega)
        have b6' : Nat.ble (s.length + 1 + (1 + (m.getD i ([], 0, false)).1.length)) 268435456 = true := ble_of (by omega)
        by_cases hi0 : i = 0
        · subst hi0
          simp only [R.L_spec_l13Edits_0, wrap_succ hi (by omega), idx_lt hi, idx_nn, Bool.and_self, Int.toNat_natCast, cond_true, show ¬ ((((0 : Nat) : Int)) > 0) by omega, decide_false, cond_false, digits_eq hK _ g.2.1 g.2.2, obind_some, List.length_append, List.length_cons, List.length_nil, Nat.zero_add, b0, b1, b2, b3, b3', edTxt, if_true, List.nil_append]
          cases (m.getD 0 ([], 0, false)).2.2 <;> rfl
        · simp only [R.L_spec_l13Edits_0, wrap_succ hi (by omega), idx_lt hi, idx_nn, Bool.and_self, Int.toNat_natCast, cond_true, show ((i : Nat) : Int) > 0 by omega, decide_true, digits_eq hK _ g.2.1 g.2.2, obind_some, List.length_append, List.length_cons, List.length_nil, Nat.zero_add, b0, b1, b2, b4, b6, b6', edTxt, hi0, if_false, List.append_assoc]
          cases (m.getD i ([], 0, false)).2.2 <;> simp only [cond_true, cond_false, List.append_assoc])
      m.length 0 K [] (by omega) (by omega) (by simp)
    have this : R.L_spec_l13Edits_0 K K (m, [], [], 0, ()) = _ := this
    simp only [h0, decide_false, cond_false, if_false]
    show obind (R.L_spec_l13Edits_0 K K (m, [], [], 0, ())) _ = _
    rw [this]
    obtain ⟨k, hk⟩ : ∃ k, m.length = k + 1 := ⟨m.length - 1, by omega⟩
    rw [hk, join_cat]
    rfl

theorem editsText_eq (hK : 9223372036854775807 < K) (m : List Ed) (hm : m.length ≤ 6) (he : ∀ e ∈ m, EdS e) : R.impl_editsText K m = some ((editsTxt m, ()), ()) := by
  have hg : ∀ i, i < m.length → EdS (m.getD i ([], 0, false)) := fun i hi => he _ (getD_mem ([], 0, false) hi)
  have := app_ok (L := fun n i s => R.L_impl_editsText_0 K n ([], m, (m.length : Int), (i : Nat), s, ())) (len := m.length) (g := fun i => edTxt (m.getD i ([], 0, false))) (fin := fun s => Sum.inl ([], s, ()))
    (fun n s => by simp only [R.L_impl_editsText_0, idx_end, cond_false]) (fun n i s hi hs => by
      have g := hg i hi
      have gi := itoa_len _ g.2.1 g.2.2
      have g1 := g.1
      have b0 : Nat.ble (1 + (m.getD i ([], 0, false)).1.length) 268435456 = true := ble_of (by omega)
      have b1 : Nat.ble ((m.getD i ([], 0, false)).1.length + 1) 268435456 = true := ble_of (by omega)
      have b2 : Nat.ble ((m.getD i ([], 0, false)).1.length + 1 + (Lib.itoa (m.getD i ([], 0, false)).2.1).length) 268435456 = true := ble_of (by omega)
      have b3 : Nat.ble (s.length + 1) 268435456 = true := ble_of (by omega)
      simp only [R.L_impl_editsText_0, wrap_succ hi (by omega), idx_lt hi, idx_nn, Bool.and_self, Int.toNat_natCast, cond_true, Itoa_eq _ g.2.1 g.2.2, obind_some, List.length_append, List.length_cons, List.length_nil, Nat.zero_add, b0, b1, b2, b3, edTxt]
      cases (m.getD i ([], 0, false)).2.2 <;> rfl)
    m.length 0 K [] (by omega) (by omega) (by simp)
  have this : R.L_impl_editsText_0 K K ([], m, (m.length : Int), 0, [], ()) = _ := this
  unfold R.impl_editsText editsTxt
  show obind (R.L_impl_editsText_0 K K ([], m, (m.length : Int), 0, [], ())) _ = _
  rw [this]
  simp only [obind_some, List.nil_append, listed_eq (fun i => edTxt (m.getD i ([], 0, false))) m.length (by omega) (fun i hi => by have := edTxt_len _ (hg i hi); omega)]

abbrev tEd : Ty := .pair .str (.pair (.int .i64) .bool)
end Go.Proofs.Pure
