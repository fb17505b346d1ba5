/- Plain lemmas on what the functions come to. -/
import Derived.Test.YtilfjfappnpfoaaDoorP13
namespace Go.Proofs.Pure
open Go Fw
set_option linter.all false
set_option maxRecDepth 100000
variable {K : Nat}

abbrev Wi := Int × List UInt8 × List UInt8 × List UInt8 × List Ed

def wishM (w : Wi) : Bool := wordM w.2.1 && (decide (1 ≤ w.1) && decide (w.1 ≤ 6)) && editsM w.2.2.2.2 && (w.1 == 3 || decide (w.2.2.2.2.length = 0)) && (bif w.1 == 1 || w.1 == 4 then wordM w.2.2.1 else w.2.2.1 == []) && (bif w.1 == 5 then wordM w.2.2.2.1 else w.2.2.2.1 == [])

theorem kinds {k : Int} (h1 : 1 ≤ k) (h2 : k ≤ 6) : k = 1 ∨ k = 2 ∨ k = 3 ∨ k = 4 ∨ k = 5 ∨ k = 6 := by omega

theorem gt0 {n : Nat} : decide ((n : Int) > 0) = !decide (n = 0) := by
  by_cases h : n = 0
  · simp [h]
  · have : (n : Int) > 0 := by omega
    simp [h]; omega

theorem l07Wish_eq (hK : 9223372036854775807 < K) (w : Wi) : R.spec_l07Wish K w = some ((wishM w, ()), ()) := by
  unfold R.spec_l07Wish wishM
  simp only [word_eq hK, in_eq, l01Edits_eq hK, obind_some, gt0]
  obtain ⟨k, name, src, key, ed⟩ := w
  dsimp only
  cases wordM name
  · rfl
  by_cases h1 : k < 1
  · simp [show ¬ 1 ≤ k by omega]
  have h1 : 1 ≤ k := by omega
  by_cases h2 : 6 < k
  · simp [show ¬ k ≤ 6 by omega]
  have h2 : k ≤ 6 := by omega
  cases editsM ed
  · simp [h1, h2]
  simp only [h1, h2, decide_true, Bool.and_self, Bool.not_true, cond_false, Bool.true_and]
  have hs : ∀ t : List UInt8, (t == Array.toList (ByteArray.data (ByteArray.mk #[]))) = (t == []) := fun _ => rfl
  rcases kinds h1 h2 with rfl | rfl | rfl | rfl | rfl | rfl <;>
    cases decide (ed.length = 0) <;> cases wordM src <;> cases wordM key <;> cases src == [] <;> cases key == [] <;> rfl

theorem Clone_Ed_eq (xs : List Ed) (hx : xs.length ≤ 268435456) : R.slices_Clone_impl_Edit K xs = some ((xs, ()), ()) := by
  unfold R.slices_Clone_impl_Edit
  cases xs with
  | nil =>
    simp [alt]
    rfl
  | cons a r =>
    have : Nat.ble (0 + (a :: r).length) 268435456 = true := Nat.ble_eq_true_of_le (by simpa using hx)
    simp only [List.isEmpty_cons, cond_false, this, cond_true]

theorem WishOK_eq (hK : 9223372036854775807 < K) (w : Wi) (hx : w.2.2.2.2.length ≤ 268435456) : R.impl_WishOK K w = some ((wishM w, ()), ()) := by
  unfold R.impl_WishOK wishM R.impl_hasSource R.impl_Wish_op R.impl_OpOK
  obtain ⟨k, name, src, key, ed⟩ := w
  have hs : ∀ t : List UInt8, (t == Array.toList (ByteArray.data (ByteArray.mk #[]))) = (t == []) := fun _ => rfl
  have hx : ed.length ≤ 268435456 := hx
  simp only [Clone_Ed_eq ed hx, NameOK_eq hK, EditsOK_eq hK ed (by omega), within_eq, R.impl_isHead, obind_some, gt0, hs]
  by_cases h1 : 1 ≤ k
  · by_cases h2 : k ≤ 6
    · simp only [h1, h2, decide_true, Bool.and_self, Bool.true_and]
      have e0 : ed.length = 0 → editsM ed = true := fun h => by
        have : ed = [] := List.eq_nil_of_length_eq_zero h
        subst this; rfl
      by_cases he : ed.length = 0
      · rw [e0 he]
        rcases kinds h1 h2 with rfl | rfl | rfl | rfl | rfl | rfl <;>
          simp only [he, decide_true] <;> cases wordM name <;> cases wordM src <;> cases wordM key <;> cases src == [] <;> cases key == [] <;> rfl
      · rcases kinds h1 h2 with rfl | rfl | rfl | rfl | rfl | rfl <;>
          simp only [he, decide_false] <;> cases wordM name <;> cases wordM src <;> cases wordM key <;> cases src == [] <;> cases key == [] <;> cases editsM ed <;> rfl
    · have n1 : (k == 1) = false := by simp; omega
      have n2 : (k == 2) = false := by simp; omega
      have n3 : (k == 3) = false := by simp; omega
      have n4 : (k == 4) = false := by simp; omega
      have n5 : (k == 5) = false := by simp; omega
      have n6 : (k == 6) = false := by simp; omega
      simp only [h1, h2, bne, n1, n2, n3, n4, n5, n6, decide_true, decide_false, Bool.and_false, Bool.false_and, cond_false, Bool.not_false, cond_true]
      cases decide (ed.length = 0) <;> cases wordM name <;> cases src == [] <;> cases key == [] <;> rfl
  · have n1 : (k == 1) = false := by simp; omega
    have n2 : (k == 2) = false := by simp; omega
    have n3 : (k == 3) = false := by simp; omega
    have n4 : (k == 4) = false := by simp; omega
    have n5 : (k == 5) = false := by simp; omega
    have n6 : (k == 6) = false := by simp; omega
    simp only [h1, bne, n1, n2, n3, n4, n5, n6, decide_true, decide_false, Bool.and_false, Bool.false_and, cond_false, Bool.not_false, cond_true]
    cases decide (ed.length = 0) <;> cases wordM name <;> cases src == [] <;> cases key == [] <;> rfl

theorem ble_s {n : Nat} (h : n ≤ 268435456) : Nat.ble n 268435456 = true := Nat.ble_eq_true_of_le h

def kindW (k : Int) : List UInt8 := [[], [99, 114, 101, 97, 116, 101], [100, 101, 108, 101, 116, 101], [99, 111, 109, 109, 105, 116], [109, 101, 114, 103, 101], [103, 101, 116], [115, 99, 97, 110]].getD k.toNat []

def wishTxt (w : Wi) : List UInt8 := kindW w.1 ++ [32] ++ w.2.1 ++ (if w.1 = 1 then [32] ++ w.2.2.1 else if w.1 = 4 then [32] ++ w.2.2.1 else if w.1 = 3 then [32] ++ editsTxt w.2.2.2.2 else if w.1 = 5 then [32] ++ w.2.2.2.1 else [])

structure WiS (w : Wi) : Prop where
  h1 : 1 ≤ w.1
  h2 : w.1 ≤ 6
  h3 : w.2.1.length ≤ 12
  h4 : w.2.2.1.length ≤ 12
  h5 : w.2.2.2.1.length ≤ 12
  h6 : w.2.2.2.2.length ≤ 6
  h7 : ∀ e ∈ w.2.2.2.2, EdS e

theorem wishM_in {w : Wi} (h : wishM w = true) : WiS w := by
  unfold wishM at h
  simp only [Bool.and_eq_true, decide_eq_true_eq] at h
  obtain ⟨⟨⟨⟨⟨a1, a2, a3⟩, a4⟩, _⟩, a6⟩, a7⟩ := h
  refine ⟨a2, a3, (wordM_len a1).2, ?_, ?_, (editsM_in a4).1, (editsM_in a4).2⟩
  · cases e : (w.1 == 1 || w.1 == 4)
    · rw [e] at a6; simp only [cond_false, beq_iff_eq] at a6; simp [a6]
    · rw [e] at a6; exact (wordM_len a6).2
  · cases e : (w.1 == 5)
    · rw [e] at a7; simp only [cond_false, beq_iff_eq] at a7; simp [a7]
    · rw [e] at a7; exact (wordM_len a7).2

theorem editsTxt_len {m : List Ed} (hm : m.length ≤ 6) (he : ∀ e ∈ m, EdS e) : (editsTxt m).length ≤ 200 := by
  have := wordsTxt_len (w := fun i => edTxt (m.getD i ([], 0, false))) (B := 24) (n := m.length) (fun i hi => edTxt_len _ (he _ (getD_mem _ hi)))
  unfold editsTxt
  omega

theorem l13Wish_eq (hK : 9223372036854775807 < K) (w : Wi) (h : WiS w) : R.spec_l13Wish K w = some ((wishTxt w, ()), ()) := by
  obtain ⟨h1, h2, h3, h4, h5, h6, h7⟩ := h
  have ht := editsTxt_len h6 h7
  have et := l13Edits_eq hK _ h6 h7
  obtain ⟨k, name, src, key, ed⟩ := w
  dsimp only at h1 h2 h3 h4 h5 h6 h7 ht et
  have w0 : IntKind.i64.wrap 0 = 0 := by decide
  have w1 : IntKind.i64.wrap 1 = 1 := by decide
  have w2 : IntKind.i64.wrap 2 = 2 := by decide
  have w3 : IntKind.i64.wrap 3 = 3 := by decide
  have w4 : IntKind.i64.wrap 4 = 4 := by decide
  have w5 : IntKind.i64.wrap 5 = 5 := by decide
  unfold R.spec_l13Wish wishTxt kindW
  rcases kinds h1 h2 with rfl | rfl | rfl | rfl | rfl | rfl <;>
    simp only [w0, w1, w2, w3, w4, w5, Int.reduceSub, Int.reduceToNat, Int.toNat_zero, Int.toNat_one, List.getD_cons_zero, List.getD_cons_succ, List.toList_toArray, List.length_cons, List.length_nil] <;>
    simp (disch := omega) [ble_s, et, obind_some, List.append_assoc]

theorem wishText_eq (hK : 9223372036854775807 < K) (w : Wi) (h : WiS w) : R.impl_wishText K w = some ((wishTxt w, ()), ()) := by
  obtain ⟨h1, h2, h3, h4, h5, h6, h7⟩ := h
  have ht := editsTxt_len h6 h7
  have et := editsText_eq hK _ h6 h7
  obtain ⟨k, name, src, key, ed⟩ := w
  dsimp only at h1 h2 h3 h4 h5 h6 h7 ht et
  unfold R.impl_wishText wishTxt kindW
  rcases kinds h1 h2 with rfl | rfl | rfl | rfl | rfl | rfl <;>
    simp only [Int.reduceToNat, Int.toNat_zero, Int.toNat_one, List.getD_cons_zero, List.getD_cons_succ, List.toList_toArray, List.length_cons, List.length_nil] <;>
    simp (disch := omega) [ble_s, et, obind_some, List.append_assoc]

def wishTextM (w : Wi) : List UInt8 × Int := bif wishM w then (wishTxt w, 0) else ([], 1)

theorem spec_WishText_eq (hK : 9223372036854775807 < K) (w : Wi) : R.spec_WishText K w = some (((wishTextM w).1, (wishTextM w).2, ()), ()) := by
  unfold R.spec_WishText wishTextM
  simp only [l07Wish_eq hK w, obind_some]
  cases h : wishM w
  · rfl
  · simp only [Bool.not_true, cond_false, cond_true, l13Wish_eq hK w (wishM_in h), obind_some]

theorem impl_WishText_eq (hK : 9223372036854775807 < K) (w : Wi) (hx : w.2.2.2.2.length ≤ 268435456) : R.impl_WishText K w = some (((wishTextM w).1, (wishTextM w).2, ()), ()) := by
  unfold R.impl_WishText wishTextM
  simp only [WishOK_eq hK w hx, obind_some]
  cases h : wishM w
  · rfl
  · simp only [Bool.not_true, cond_false, cond_true, wishText_eq hK w (wishM_in h), obind_some]

abbrev tWi : Ty := .pair (.int .i64) (.pair .str (.pair .str (.pair .str (.sl tEd))))

theorem law_WishText (hK : 9223372036854775807 < K) (w : Wi) (hw : Wd tWi w) : R.laws_FnExactWishText K w = some ((true, ()), ()) := by
  unfold R.laws_FnExactWishText
  obtain ⟨z, e, l, s⟩ := szWish_ok hK w 1048576 (by omega) (by omega) hw
  simp only [e, obind_some]
  by_cases hz : z < 0
  · simp only [hz, decide_true, cond_true]
  · have sm := s (by omega)
    have hl : w.2.2.2.2.length ≤ 268435456 := by have := sm.2.2.2.2.1; omega
    simp only [hz, decide_false, cond_false, toWish_id hK w sm, eqWish_id hK w sm, spec_WishText_eq hK w, impl_WishText_eq hK w hl, obind_some, beq_self_eq_true, Bool.not_true, bne_self_eq_false]
end Go.Proofs.Pure
