/- Plain lemmas on what the functions come to. -/
import Derived.Test.YtilfjfappnpfoaaDoorP15
namespace Go.Proofs.Pure
open Go Fw
set_option linter.all false
set_option maxRecDepth 100000
variable {K : Nat}

abbrev OpT := Int × Int × List UInt8 × List UInt8 × List Ed

abbrev Mo := Int × Int × Int × OpT × Rs

def opM (o : OpT) : Bool := wordM o.2.2.1 && (decide (1 ≤ o.1) && decide (o.1 ≤ 6)) && editsM o.2.2.2.2 && (o.1 == 3 || decide (o.2.2.2.2.length = 0)) && (bif o.1 == 5 then wordM o.2.2.2.1 else o.2.2.2.1 == []) &&
  (bif o.1 == 1 || o.1 == 4 then decide (1 ≤ o.2.1) && decide (o.2.1 ≤ 60) else bif o.1 == 3 then decide (0 ≤ o.2.1) && decide (o.2.1 ≤ 60) else o.2.1 == 0)

set_option maxHeartbeats 3200000 in
theorem l05Op_eq (hK : 9223372036854775807 < K) (o : OpT) : R.spec_l05Op K o = some ((opM o, ()), ()) := by
  unfold R.spec_l05Op opM
  simp only [word_eq hK, in_eq, l01Edits_eq hK, obind_some, gt0]
  obtain ⟨k, fr, name, key, ed⟩ := o
  dsimp only
  cases wordM name
  · rfl
  by_cases h1 : k < 1
  · simp [show ¬ 1 ≤ k by omega]
  have h1 : 1 ≤ k := by omega
  by_cases h2 : 6 < k
  · simp [show ¬ k ≤ 6 by omega]
  have h2 : k ≤ 6 := by omega
  cases editsM ed
  · simp [h1, h2]
  simp only [h1, h2, decide_true, Bool.and_self, Bool.not_true, cond_false, Bool.true_and]
  have hs : ∀ t : List UInt8, (t == Array.toList (ByteArray.data (ByteArray.mk #[]))) = (t == []) := fun _ => rfl
  try simp only [hs]
  rcases kinds h1 h2 with rfl | rfl | rfl | rfl | rfl | rfl <;>
    cases decide (ed.length = 0) <;> cases wordM key <;> cases key == [] <;> cases decide (1 ≤ fr) <;> cases decide (fr ≤ 60) <;> cases decide (0 ≤ fr) <;> cases fr == 0 <;> rfl

set_option maxHeartbeats 6400000 in
theorem OpOK_eq (hK : 9223372036854775807 < K) (o : OpT) (hx : o.2.2.2.2.length ≤ 9223372036854775807) : R.impl_OpOK K o = some ((opM o, ()), ()) := by
  unfold R.impl_OpOK opM
  obtain ⟨k, fr, name, key, ed⟩ := o
  have hs : ∀ t : List UInt8, (t == Array.toList (ByteArray.data (ByteArray.mk #[]))) = (t == []) := fun _ => rfl
  have hx : ed.length ≤ 9223372036854775807 := hx
  simp only [NameOK_eq hK, EditsOK_eq hK ed hx, within_eq, R.impl_isHead, obind_some, gt0, hs]
  by_cases h1 : 1 ≤ k
  · by_cases h2 : k ≤ 6
    · simp only [h1, h2, decide_true, Bool.and_self, Bool.true_and]
      have e0 : ed.length = 0 → editsM ed = true := fun h => by
        have : ed = [] := List.eq_nil_of_length_eq_zero h
        subst this; rfl
      by_cases he : ed.length = 0
      · rw [e0 he]
        rcases kinds h1 h2 with rfl | rfl | rfl | rfl | rfl | rfl <;>
          simp only [he, decide_true] <;> cases wordM name <;> cases wordM key <;> cases key == [] <;> cases decide (1 ≤ fr) <;> cases decide (fr ≤ 60) <;> cases decide (0 ≤ fr) <;> cases fr == 0 <;> rfl
      · rcases kinds h1 h2 with rfl | rfl | rfl | rfl | rfl | rfl <;>
          simp only [he, decide_false] <;> cases wordM name <;> cases wordM key <;> cases key == [] <;> cases editsM ed <;> cases decide (1 ≤ fr) <;> cases decide (fr ≤ 60) <;> cases decide (0 ≤ fr) <;> cases fr == 0 <;> rfl
    · have n1 : (k == 1) = false := by simp; omega
      have n2 : (k == 2) = false := by simp; omega
      have n3 : (k == 3) = false := by simp; omega
      have n4 : (k == 4) = false := by simp; omega
      have n5 : (k == 5) = false := by simp; omega
      have n6 : (k == 6) = false := by simp; omega
      simp only [h1, h2, bne, n1, n2, n3, n4, n5, n6, decide_true, decide_false, Bool.and_false, Bool.false_and, cond_false, Bool.not_false, cond_true]
      cases decide (ed.length = 0) <;> cases wordM name <;> cases key == [] <;> rfl
  · have n1 : (k == 1) = false := by simp; omega
    have n2 : (k == 2) = false := by simp; omega
    have n3 : (k == 3) = false := by simp; omega
    have n4 : (k == 4) = false := by simp; omega
    have n5 : (k == 5) = false := by simp; omega
    have n6 : (k == 6) = false := by simp; omega
    simp only [h1, bne, n1, n2, n3, n4, n5, n6, decide_true, decide_false, Bool.and_false, Bool.false_and, cond_false, Bool.not_false, cond_true]
    cases decide (ed.length = 0) <;> cases wordM name <;> cases key == [] <;> rfl

def momM (m : Mo) : Bool := (decide (0 ≤ m.2.2.1) && decide (m.2.2.1 ≤ 1000000)) && (decide (0 ≤ m.1) && decide (m.1 ≤ 5)) && (decide (0 ≤ m.2.1) && decide (m.2.1 ≤ 6)) && (m.2.2.2.1.1 == 0 || opM m.2.2.2.1) && resM m.2.2.2.2

structure MoS (m : Mo) : Prop where
  h1 : 0 ≤ m.2.2.1 ∧ m.2.2.1 ≤ 1000000
  h2 : 0 ≤ m.1 ∧ m.1 ≤ 5
  h3 : 0 ≤ m.2.1 ∧ m.2.1 ≤ 6
  h4 : m.2.2.2.1.1 = 0 ∨ (1 ≤ m.2.2.2.1.1 ∧ m.2.2.2.1.1 ≤ 6 ∧ m.2.2.2.1.2.2.1.length ≤ 12 ∧ 0 ≤ m.2.2.2.1.2.1 ∧ m.2.2.2.1.2.1 ≤ 60)
  h5 : RsS m.2.2.2.2

theorem opM_in {o : OpT} (h : opM o = true) : 1 ≤ o.1 ∧ o.1 ≤ 6 ∧ o.2.2.1.length ≤ 12 ∧ 0 ≤ o.2.1 ∧ o.2.1 ≤ 60 := by
  unfold opM at h
  simp only [Bool.and_eq_true, decide_eq_true_eq] at h
  obtain ⟨⟨⟨⟨⟨a1, a2, a3⟩, _⟩, _⟩, _⟩, a7⟩ := h
  refine ⟨a2, a3, (wordM_len a1).2, ?_⟩
  cases e : (o.1 == 1 || o.1 == 4)
  · rw [e] at a7
    cases e3 : (o.1 == 3)
    · rw [e3] at a7; simp only [cond_false, beq_iff_eq] at a7; omega
    · rw [e3] at a7; simp only [cond_false, cond_true, Bool.and_eq_true, decide_eq_true_eq] at a7; omega
  · rw [e] at a7; simp only [cond_true, Bool.and_eq_true, decide_eq_true_eq] at a7; omega

theorem momM_in {m : Mo} (h : momM m = true) : MoS m := by
  unfold momM at h
  simp only [Bool.and_eq_true, Bool.or_eq_true, decide_eq_true_eq, beq_iff_eq] at h
  obtain ⟨⟨⟨⟨a1, a2⟩, a3⟩, a4⟩, a5⟩ := h
  exact ⟨a1, a2, a3, a4.imp id opM_in, resM_in a5⟩

def momTxt (m : Mo) : List UInt8 := [115, 116, 101, 112, 32] ++ Lib.itoa m.2.2.1 ++ [32, 99, 108, 105, 101, 110, 116, 32] ++ Lib.itoa m.1 ++ [32, 119, 105, 115, 104, 32] ++ Lib.itoa m.2.1 ++
  (if m.2.2.2.1.1 = 0 then [] else [32] ++ kindW m.2.2.2.1.1 ++ [32] ++ m.2.2.2.1.2.2.1 ++ (if m.2.2.2.1.2.1 = 0 then [] else [32, 102, 114, 111, 109, 32] ++ Lib.itoa m.2.2.2.1.2.1)) ++ [58, 32] ++ resTxt m.2.2.2.2

theorem resTxt_len {r : Rs} (h : RsS r) : (resTxt r).length ≤ 1000 := by
  have l0 := codeW_len r.1
  have l1 := itoa_len r.2.1 (by have := h.h2; omega) (by have := h.h2; omega)
  have l2 := itoa_len r.2.2.1 h.h3.1 h.h3.2
  have l3 := keys_len h.h4 h.h5
  have l4 := mapTxt_len h.h6 h.h7
  unfold resTxt
  repeat' split
  all_goals simp only [List.length_append, List.length_cons, List.length_nil]; omega

set_option maxHeartbeats 6400000 in
theorem l13Moment_eq (hK : 9223372036854775807 < K) (m : Mo) (h : MoS m) : R.spec_l13Moment K m = some ((momTxt m, ()), ()) := by
  obtain ⟨h1, h2, h3, h4, h5⟩ := h
  have er := l13Result_eq hK m.2.2.2.2 h5
  have lr := resTxt_len h5
  have d1 := digits_eq hK m.2.2.1 (by omega) (by omega)
  have d2 := digits_eq hK m.1 (by omega) (by omega)
  have d3 := digits_eq hK m.2.1 (by omega) (by omega)
  have l1 := itoa_len m.2.2.1 (by omega) (by omega)
  have l2 := itoa_len m.1 (by omega) (by omega)
  have l3 := itoa_len m.2.1 (by omega) (by omega)
  obtain ⟨cl, wi, stp, ⟨k, fr, name, key, ed⟩, r⟩ := m
  dsimp only at *
  have w0 : IntKind.i64.wrap 0 = 0 := by decide
  have w1 : IntKind.i64.wrap 1 = 1 := by decide
  have w2 : IntKind.i64.wrap 2 = 2 := by decide
  have w3 : IntKind.i64.wrap 3 = 3 := by decide
  have w4 : IntKind.i64.wrap 4 = 4 := by decide
  have w5 : IntKind.i64.wrap 5 = 5 := by decide
  unfold R.spec_l13Moment momTxt kindW
  simp only [d1, d2, d3, er, obind_some, bne, ieq0]
  rcases h4 with rfl | ⟨k1, k2, hn, f1, f2⟩
  · simp (disch := omega) [ble_s, List.append_assoc]
  · have d4 := digits_eq hK fr (by omega) (by omega)
    have l4 := itoa_len fr (by omega) (by omega)
    simp only [d4, obind_some]
    by_cases hf : fr = 0
    · subst hf
      rcases kinds k1 k2 with rfl | rfl | rfl | rfl | rfl | rfl <;>
        simp only [w0, w1, w2, w3, w4, w5, Int.reduceSub, Int.reduceToNat, Int.toNat_zero, Int.toNat_one, List.getD_cons_zero, List.getD_cons_succ, List.toList_toArray, List.length_cons, List.length_nil] <;>
        simp (disch := omega) [ble_s, List.append_assoc]
    · have hf' : fr > 0 := by omega
      rcases kinds k1 k2 with rfl | rfl | rfl | rfl | rfl | rfl <;>
        simp only [w0, w1, w2, w3, w4, w5, Int.reduceSub, Int.reduceToNat, Int.toNat_zero, Int.toNat_one, List.getD_cons_zero, List.getD_cons_succ, List.toList_toArray, List.length_cons, List.length_nil] <;>
        simp (disch := omega) [hf, hf', ble_s, List.append_assoc]

set_option maxHeartbeats 6400000 in
theorem momentText_eq (hK : 9223372036854775807 < K) (m : Mo) (h : MoS m) : R.impl_momentText K m = some ((momTxt m, ()), ()) := by
  obtain ⟨h1, h2, h3, h4, h5⟩ := h
  have er := resultText_eq hK m.2.2.2.2 h5
  have lr := resTxt_len h5
  have d1 := Itoa_eq (K := K) m.2.2.1 (by omega) (by omega)
  have d2 := Itoa_eq (K := K) m.1 (by omega) (by omega)
  have d3 := Itoa_eq (K := K) m.2.1 (by omega) (by omega)
  have l1 := itoa_len m.2.2.1 (by omega) (by omega)
  have l2 := itoa_len m.1 (by omega) (by omega)
  have l3 := itoa_len m.2.1 (by omega) (by omega)
  obtain ⟨cl, wi, stp, ⟨k, fr, name, key, ed⟩, r⟩ := m
  dsimp only at *
  unfold R.impl_momentText momTxt kindW
  simp only [d1, d2, d3, er, obind_some, bne, ieq0]
  rcases h4 with rfl | ⟨k1, k2, hn, f1, f2⟩
  · simp (disch := omega) [ble_s, List.append_assoc]
  · have n1 : R.impl_numbered K [102, 114, 111, 109] fr = _ := numbered_eq _ (by simp) fr (by omega) (by omega)
    have l4 := itoa_len fr (by omega) (by omega)
    simp only [List.toList_toArray, n1, obind_some]
    by_cases hf : fr = 0
    · subst hf
      rcases kinds k1 k2 with rfl | rfl | rfl | rfl | rfl | rfl <;>
        simp only [Int.reduceToNat, Int.toNat_zero, Int.toNat_one, List.getD_cons_zero, List.getD_cons_succ, List.toList_toArray, List.length_cons, List.length_nil] <;>
        simp (disch := omega) [ble_s, List.append_assoc]
    · rcases kinds k1 k2 with rfl | rfl | rfl | rfl | rfl | rfl <;>
        simp only [Int.reduceToNat, Int.toNat_zero, Int.toNat_one, List.getD_cons_zero, List.getD_cons_succ, List.toList_toArray, List.length_cons, List.length_nil] <;>
        simp (disch := omega) [hf, ble_s, List.append_assoc]

def momTextM (m : Mo) : List UInt8 × Int := bif momM m then (momTxt m, 0) else ([], 1)

theorem spec_MomentText_eq (hK : 9223372036854775807 < K) (m : Mo) : R.spec_MomentText K m = some (((momTextM m).1, (momTextM m).2, ()), ()) := by
  have key : momM m = true → R.spec_l13Moment K m = some ((momTxt m, ()), ()) := fun h => l13Moment_eq hK m (momM_in h)
  unfold R.spec_MomentText momTextM
  simp only [in_eq, l05Op_eq hK, l13OK_eq hK, obind_some, bne]
  unfold momM at key ⊢
  revert key
  cases decide (0 ≤ m.2.2.1) && decide (m.2.2.1 ≤ 1000000)
  · intro _; rfl
  cases decide (0 ≤ m.1) && decide (m.1 ≤ 5)
  · intro _; rfl
  cases decide (0 ≤ m.2.1) && decide (m.2.1 ≤ 6)
  · intro _; rfl
  cases m.2.2.2.1.1 == 0 <;> cases opM m.2.2.2.1 <;> cases resM m.2.2.2.2 <;> intro key <;> first | rfl | (rw [key rfl]; rfl)

theorem impl_MomentText_eq (hK : 9223372036854775807 < K) (m : Mo) (h0 : m.2.2.2.1.2.2.2.2.length ≤ 9223372036854775807) (h1 : m.2.2.2.2.2.2.2.1.length ≤ 9223372036854775807) (h2 : m.2.2.2.2.2.2.2.2.length ≤ 9223372036854775807) : R.impl_MomentText K m = some (((momTextM m).1, (momTextM m).2, ()), ()) := by
  have key : momM m = true → R.impl_momentText K m = some ((momTxt m, ()), ()) := fun h => momentText_eq hK m (momM_in h)
  unfold R.impl_MomentText momTextM
  simp only [within_eq, OpOK_eq hK _ h0, hasText_eq hK _ h1 h2, obind_some, bne]
  unfold momM at key ⊢
  revert key
  cases decide (0 ≤ m.2.2.1) && decide (m.2.2.1 ≤ 1000000)
  · intro _; rfl
  cases decide (0 ≤ m.1) && decide (m.1 ≤ 5)
  · intro _; rfl
  cases decide (0 ≤ m.2.1) && decide (m.2.1 ≤ 6)
  · intro _; rfl
  cases m.2.2.2.1.1 == 0 <;> cases opM m.2.2.2.1 <;> cases resM m.2.2.2.2 <;> intro key <;> first | rfl | (rw [key rfl]; rfl)

abbrev tOp : Ty := .pair (.int .i64) (.pair (.int .i64) (.pair .str (.pair .str (.sl tEd))))

abbrev tMo : Ty := .pair (.int .i64) (.pair (.int .i64) (.pair (.int .i64) (.pair tOp tRs)))

theorem law_MomentText (hK : 9223372036854775807 < K) (m : Mo) (hw : Wd tMo m) : R.laws_FnExactMomentText K m = some ((true, ()), ()) := by
  unfold R.laws_FnExactMomentText
  obtain ⟨z, e, l, s⟩ := szMoment_ok hK m 1048576 (by omega) (by omega) hw
  simp only [e, obind_some]
  by_cases hz : z < 0
  · simp only [hz, decide_true, cond_true]
  · have sm := s (by omega)
    simp only [hz, decide_false, cond_false, toMoment_id hK m sm, eqMoment_id hK m sm, spec_MomentText_eq hK m, impl_MomentText_eq hK m hw.2.2.2.1.2.2.2.2.1 hw.2.2.2.2.2.2.2.1.1 hw.2.2.2.2.2.2.2.2.1, obind_some, beq_self_eq_true, Bool.not_true, bne_self_eq_false]
end Go.Proofs.Pure
