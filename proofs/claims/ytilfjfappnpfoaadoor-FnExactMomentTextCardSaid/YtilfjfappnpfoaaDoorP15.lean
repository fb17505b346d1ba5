/- Plain lemmas on what the functions come to. -/
import Derived.Test.YtilfjfappnpfoaaDoorP14
namespace Go.Proofs.Pure
open Go Fw
set_option linter.all false
set_option maxRecDepth 100000
variable {K : Nat}

abbrev Rs := Int × Int × Int × List (List UInt8) × List En

def codesL : List (List UInt8) := [[111, 107], [98, 97, 100], [108, 111, 110, 103], [102, 111, 114, 109], [114, 97, 110, 103, 101], [110, 111, 110, 101], [109, 97, 110, 121], [102, 117, 108, 108], [115, 105, 122, 101], [107, 105, 110, 100], [110, 97, 109, 101], [99, 111, 110, 102, 108, 105, 99, 116], [114, 101, 116, 114, 105, 101, 115], [115, 116, 97, 108, 101], [101, 120, 105, 115, 116, 115], [100, 111, 110, 101], [111, 114, 100, 101, 114], [108, 97, 103], [115, 97, 109, 101]]

def codeW (c : Int) : List UInt8 := codesL.getD c.toNat []

def resM (r : Rs) : Bool := (decide (0 ≤ r.1) && decide (r.1 ≤ 18)) && (decide (0 ≤ r.2.1) && decide (r.2.1 ≤ 60)) && inV r.2.2.1 && decide (r.2.2.2.1.length ≤ 24) && mapM r.2.2.2.2 && (List.range' 0 r.2.2.2.1.length).all fun i => wordM (r.2.2.2.1.getD i [])

theorem codeW_len (c : Int) : (codeW c).length ≤ 8 := by
  unfold codeW
  by_cases h : c.toNat < codesL.length
  · have : ∀ w ∈ codesL, w.length ≤ 8 := by decide
    exact this _ (getD_mem [] h)
  · rw [List.getD_eq_getElem?_getD, List.getElem?_eq_none (by omega)]
    simp

theorem spec_CodeWord_eq {c : Int} (h1 : 0 ≤ c) (h2 : c ≤ 18) : R.spec_CodeWord K c = some ((codeW c, ()), ()) := by
  unfold R.spec_CodeWord
  have e : ∀ l : List (List UInt8), l.length = 19 → ((l.length : Nat) : Int) = 19 := fun l h => by omega
  rw [e _ rfl]
  simp only [show ¬ c < 0 by omega, show ¬ c ≥ 19 by omega, show c < 19 by omega, h1, decide_true, decide_false, cond_true, cond_false, Bool.and_self]
  rfl

theorem impl_CodeWord_eq {c : Int} (h1 : 0 ≤ c) (h2 : c ≤ 18) : R.impl_CodeWord K c = some ((codeW c, ()), ()) := by
  unfold R.impl_CodeWord R.impl_isCode
  have e : ∀ l : List (List UInt8), l.length = 19 → ((l.length : Nat) : Int) = 19 := fun l h => by omega
  rw [e _ rfl]
  simp only [within_eq, obind_some, show c < 19 by omega, h1, h2, decide_true, cond_true, cond_false, Bool.and_self, Bool.not_true]
  rfl

theorem l13OK_eq (hK : 9223372036854775807 < K) (r : Rs) : R.spec_l13OK K r = some ((resM r, ()), ()) := by
  unfold R.spec_l13OK resM
  simp only [in_eq, l01OK_eq hK, obind_some, inV]
  cases decide (0 ≤ r.1) && decide (r.1 ≤ 18)
  · rfl
  cases decide (0 ≤ r.2.1) && decide (r.2.1 ≤ 60)
  · rfl
  cases decide (-1000000 ≤ r.2.2.1) && decide (r.2.2.1 ≤ 1000000)
  · rfl
  by_cases h : r.2.2.2.1.length ≤ 24
  · simp only [h, show ¬ ((r.2.2.2.1.length : Int) > 24) by omega, decide_true, decide_false, cond_false, Bool.not_true, Bool.true_and]
    cases mapM r.2.2.2.2
    · rfl
    have := all_ok (L := fun n i => R.L_spec_l13OK_0 K n (false, (i : Nat), r.1, r.2.1, r.2.2.1, r.2.2.2.1, r.2.2.2.2, ())) (len := r.2.2.2.1.length) (p := fun i => wordM (r.2.2.2.1.getD i [])) (t := Sum.inl (false, ())) (f := Sum.inr (false, ()))
      (fun n => by simp only [R.L_spec_l13OK_0, idx_end, cond_false]) (fun n i hi => by
        simp only [R.L_spec_l13OK_0, wrap_succ hi (by omega), idx_lt hi, idx_nn, Bool.and_self, Int.toNat_natCast, word_eq hK, obind_some, cond_true]
        cases wordM (r.2.2.2.1.getD i []) <;> rfl) r.2.2.2.1.length 0 K (by omega) (by omega)
    have this : R.L_spec_l13OK_0 K K (false, 0, r.1, r.2.1, r.2.2.1, r.2.2.2.1, r.2.2.2.2, ()) = _ := this
    rw [this]
    cases (List.range' 0 r.2.2.2.1.length).all fun i => wordM (r.2.2.2.1.getD i []) <;> rfl
  · simp [h, show (r.2.2.2.1.length : Int) > 24 by omega]

theorem areAll_names_eq (hK : 9223372036854775807 < K) (xs : List (List UInt8)) (hl : xs.length ≤ 9223372036854775807) : R.impl_areAll_string__impl_NameOK K xs = some (((List.range' 0 xs.length).all fun i => wordM (xs.getD i []), ()), ()) := by
  obtain ⟨j, this⟩ := all_okI (L := fun n i => R.L_impl_areAll_string__impl_NameOK_0 K n (xs, false, xs, xs, false, xs, xs, 0, (xs.length : Int), (i : Nat), ())) (len := xs.length) (p := fun i => wordM (xs.getD i []))
    (t := Sum.inl (xs, false, xs, xs, false, xs, 0, ())) (f := fun i => Sum.inr (xs, false, xs, xs, false, xs, (i : Int), ()))
    (fun n => by simp only [R.L_impl_areAll_string__impl_NameOK_0, idx_end, cond_false]) (fun n i hi => by
      simp only [R.L_impl_areAll_string__impl_NameOK_0, wrap_succ hi hl, idx_lt hi, idx_nn, Bool.and_self, Int.toNat_natCast, NameOK_eq hK, obind_some, cond_true]
      cases wordM (xs.getD i []) <;> rfl) xs.length 0 K (by omega) (by omega)
  have this : R.L_impl_areAll_string__impl_NameOK_0 K K (xs, false, xs, xs, false, xs, xs, 0, (xs.length : Int), 0, ()) = _ := this
  unfold R.impl_areAll_string__impl_NameOK
  rw [this]
  cases (List.range' 0 xs.length).all fun i => wordM (xs.getD i []) <;> simp [obind]

theorem hasText_eq (hK : 9223372036854775807 < K) (r : Rs) (h1 : r.2.2.2.1.length ≤ 9223372036854775807) (h2 : r.2.2.2.2.length ≤ 9223372036854775807) : R.impl_hasText K r = some ((resM r, ()), ()) := by
  unfold R.impl_hasText R.impl_isResult R.impl_isCode resM
  simp only [within_eq, isValue_eq, MapOK_eq hK _ h2, areAll_names_eq hK _ h1, obind_some]
  cases decide (0 ≤ r.1) && decide (r.1 ≤ 18)
  · rfl
  cases decide (0 ≤ r.2.1) && decide (r.2.1 ≤ 60)
  · rfl
  cases inV r.2.2.1
  · rfl
  by_cases h : r.2.2.2.1.length ≤ 24
  · simp only [h, show (r.2.2.2.1.length : Int) ≤ 24 by omega, decide_true, cond_true]
    cases mapM r.2.2.2.2 <;> rfl
  · simp [h, show ¬ (r.2.2.2.1.length : Int) ≤ 24 by omega, obind_some]

structure RsS (r : Rs) : Prop where
  h1 : 0 ≤ r.1 ∧ r.1 ≤ 18
  h2 : 0 ≤ r.2.1 ∧ r.2.1 ≤ 60
  h3 : -1000000 ≤ r.2.2.1 ∧ r.2.2.1 ≤ 1000000
  h4 : r.2.2.2.1.length ≤ 24
  h5 : ∀ k ∈ r.2.2.2.1, k.length ≤ 12
  h6 : r.2.2.2.2.length ≤ 12
  h7 : ∀ e ∈ r.2.2.2.2, e.1.length ≤ 12 ∧ -1000000 ≤ e.2 ∧ e.2 ≤ 1000000

theorem resM_in {r : Rs} (h : resM r = true) : RsS r := by
  unfold resM inV at h
  simp only [Bool.and_eq_true, decide_eq_true_eq] at h
  obtain ⟨⟨⟨⟨⟨a1, a2⟩, a3⟩, a4⟩, a5⟩, a6⟩ := h
  exact ⟨a1, a2, a3, a4, all_getD (d := []) a6 fun i hi he => (wordM_len he).2, (mapM_in a5).1, (mapM_in a5).2⟩

theorem map_getD {α : Type} (d : α) : ∀ xs : List α, ((List.range' 0 xs.length).map fun i => xs.getD i d) = xs := fun xs => by
  rw [← List.range_eq_range']
  apply List.ext_getElem (by simp)
  intro i h1 h2
  simp [List.getD_eq_getElem?_getD, h2]

theorem listed_list (xs : List (List UInt8)) (hn : xs.length ≤ 10000) (h : ∀ k ∈ xs, k.length ≤ 1000) : R.impl_listed K xs = some ((if xs.length = 0 then [45] else Lib.join xs [44], ()), ()) := by
  have := listed_eq (K := K) (fun i => xs.getD i []) xs.length hn (fun i hi => h _ (getD_mem [] hi))
  unfold wordsTxt at this
  rw [map_getD] at this
  exact this

theorem keys_len {xs : List (List UInt8)} (hn : xs.length ≤ 24) (h : ∀ k ∈ xs, k.length ≤ 12) : (Lib.join xs [44]).length ≤ 400 := by
  by_cases h0 : xs.length = 0
  · have : xs = [] := List.eq_nil_of_length_eq_zero h0
    subst this
    simp [Lib.join, List.intercalate]
  · have := join_len (w := fun i => xs.getD i []) (B := 12) h0 (fun i hi => h _ (getD_mem [] hi))
    rw [map_getD] at this
    omega

theorem l00Join_eq (hK : 9223372036854775807 < K) (xs : List (List UInt8)) (hn : xs.length ≤ 24) (h0 : ¬ xs.length = 0) (h : ∀ k ∈ xs, k.length ≤ 12) : R.spec_l00Join K xs [44] = some ((Lib.join xs [44], ()), ()) := by
  have hg : ∀ i, i < xs.length → (xs.getD i []).length ≤ 12 := fun i hi => h _ (getD_mem [] hi)
  have := cat_ok (L := fun n i s => R.L_spec_l00Join_0 K n (xs, [44], [], s, (i : Nat), ())) (len := xs.length) (A := 100) (B := 13) (g := fun i => (if i = 0 then [] else [44]) ++ xs.getD i []) (fin := fun s => Sum.inl ([], s, ()))
    (fun i hi => by have := hg i hi; split <;> simp only [List.length_append, List.length_cons, List.length_nil] <;> omega)
    (fun n s => by simp only [R.L_spec_l00Join_0, idx_end, cond_false]) (fun n i s hi hs => by
      have g := hg i hi
      have b3 : Nat.ble (s.length + (xs.getD i []).length) 268435456 = true := ble_of (by omega)
      have b4 : Nat.ble (s.length + 1) 268435456 = true := ble_of (by omega)
      have b5 : Nat.ble (s.length + 1 + (xs.getD i []).length) 268435456 = true := ble_of (by omega)
      by_cases hi0 : i = 0
      · subst hi0
        simp only [R.L_spec_l00Join_0, wrap_succ hi (by omega), idx_lt hi, idx_nn, Bool.and_self, Int.toNat_natCast, cond_true, show ¬ ((((0 : Nat) : Int)) > 0) by omega, decide_false, cond_false, List.length_append, List.length_cons, List.length_nil, Nat.zero_add, b3, if_true, List.nil_append]
      · simp only [R.L_spec_l00Join_0, wrap_succ hi (by omega), idx_lt hi, idx_nn, Bool.and_self, Int.toNat_natCast, cond_true, show ((i : Nat) : Int) > 0 by omega, decide_true, List.length_append, List.length_cons, List.length_nil, Nat.zero_add, b4, b5, hi0, if_false, List.append_assoc])
    xs.length 0 K [] (by omega) (by omega) (by simp)
  have this : R.L_spec_l00Join_0 K K (xs, [44], [], [], 0, ()) = _ := this
  unfold R.spec_l00Join
  show obind (R.L_spec_l00Join_0 K K (xs, [44], [], [], 0, ())) _ = _
  rw [this]
  have hj := join_cat (fun i => xs.getD i []) [44] (xs.length - 1)
  rw [show xs.length - 1 + 1 = xs.length by omega, map_getD] at hj
  rw [hj]
  rfl

def resTxt (r : Rs) : List UInt8 := codeW r.1 ++ (if r.2.1 = 0 then [] else [32, 99, 111, 109, 109, 105, 116, 32] ++ Lib.itoa r.2.1) ++ (if r.2.2.1 = 0 then [] else [32, 118, 97, 108, 117, 101, 32] ++ Lib.itoa r.2.2.1) ++
  (if r.2.2.2.1.length = 0 then [] else [32, 107, 101, 121, 115, 32] ++ Lib.join r.2.2.2.1 [44]) ++ (if r.2.2.2.2.length = 0 then [] else [32, 109, 97, 112, 32] ++ mapTxt r.2.2.2.2)

theorem mapTxt_len {m : List En} (hm : m.length ≤ 12) (he : ∀ e ∈ m, e.1.length ≤ 12 ∧ -1000000 ≤ e.2 ∧ e.2 ≤ 1000000) : (mapTxt m).length ≤ 400 := by
  have := wordsTxt_len (w := fun i => entTxt (m.getD i ([], 0))) (B := 24) (n := m.length) (fun i hi => entTxt_len _ (he _ (getD_mem _ hi)))
  unfold mapTxt
  omega

theorem ieq0 (n : Int) : (n == 0) = decide (n = 0) := by
  by_cases h : n = 0
  · simp [h]
  · simp [h]

set_option maxHeartbeats 3200000 in
theorem l13Result_eq (hK : 9223372036854775807 < K) (r : Rs) (h : RsS r) : R.spec_l13Result K r = some ((resTxt r, ()), ()) := by
  obtain ⟨h1, h2, h3, h4, h5, h6, h7⟩ := h
  have l0 := codeW_len r.1
  have l1 := itoa_len r.2.1 (by omega) (by omega)
  have l2 := itoa_len r.2.2.1 h3.1 h3.2
  have l3 := keys_len h4 h5
  have l4 := mapTxt_len h6 h7
  have j3 := l00Join_eq hK r.2.2.2.1 h4
  unfold R.spec_l13Result resTxt
  simp only [spec_CodeWord_eq h1.1 h1.2, digits_eq hK r.2.1 (by omega) (by omega), digits_eq hK r.2.2.1 h3.1 h3.2, l13Map_eq hK _ h6 h7, obind_some, gt0, bne, ieq0]
  by_cases c1 : r.2.1 = 0 <;> by_cases c2 : r.2.2.1 = 0 <;> by_cases c3 : r.2.2.2.1.length = 0 <;> by_cases c4 : r.2.2.2.2.length = 0 <;>
    (first | have j3 := j3 c3 h5 | skip) <;>
    (first | have c1' : r.2.1 > 0 := by omega | skip) <;>
    simp (disch := omega) [*, ble_s, obind_some, List.append_assoc, bne]

theorem numbered_eq (w : List UInt8) (hw : w.length ≤ 100) (n : Int) (h1 : -1000000 ≤ n) (h2 : n ≤ 1000000) : R.impl_numbered K w n = some ((if n = 0 then [] else [32] ++ w ++ [32] ++ Lib.itoa n, ()), ()) := by
  have l := itoa_len n h1 h2
  unfold R.impl_numbered
  rw [ieq0]
  by_cases h : n = 0
  · simp [h]
  · simp (disch := omega) [h, ble_s, Itoa_eq n h1 h2, obind_some, List.append_assoc]

theorem resultText_eq (hK : 9223372036854775807 < K) (r : Rs) (h : RsS r) : R.impl_resultText K r = some ((resTxt r, ()), ()) := by
  obtain ⟨h1, h2, h3, h4, h5, h6, h7⟩ := h
  have l0 := codeW_len r.1
  have l1 := itoa_len r.2.1 (by omega) (by omega)
  have l2 := itoa_len r.2.2.1 h3.1 h3.2
  have l3 := keys_len h4 h5
  have l4 := mapTxt_len h6 h7
  have n1 : R.impl_numbered K [99, 111, 109, 109, 105, 116] r.2.1 = _ := numbered_eq _ (by simp) r.2.1 (by omega) (by omega)
  have n2 : R.impl_numbered K [118, 97, 108, 117, 101] r.2.2.1 = _ := numbered_eq _ (by simp) r.2.2.1 h3.1 h3.2
  have j3 := listed_list (K := K) r.2.2.2.1 (by omega) (fun k hk => by have := h5 k hk; omega)
  unfold R.impl_resultText resTxt
  simp only [impl_CodeWord_eq h1.1 h1.2, List.toList_toArray, n1, n2, j3, mapText_eq hK _ h6 h7, obind_some, gt0]
  by_cases c1 : r.2.1 = 0 <;> by_cases c2 : r.2.2.1 = 0 <;> by_cases c3 : r.2.2.2.1.length = 0 <;> by_cases c4 : r.2.2.2.2.length = 0 <;>
    simp (disch := omega) [*, ble_s, obind_some, List.append_assoc]

def resTextM (r : Rs) : List UInt8 × Int := bif resM r then (resTxt r, 0) else ([], 1)

theorem spec_ResultText_eq (hK : 9223372036854775807 < K) (r : Rs) : R.spec_ResultText K r = some (((resTextM r).1, (resTextM r).2, ()), ()) := by
  unfold R.spec_ResultText resTextM
  simp only [l13OK_eq hK r, obind_some]
  cases h : resM r
  · rfl
  · simp only [Bool.not_true, cond_false, cond_true, l13Result_eq hK r (resM_in h), obind_some]

theorem impl_ResultText_eq (hK : 9223372036854775807 < K) (r : Rs) (h1 : r.2.2.2.1.length ≤ 9223372036854775807) (h2 : r.2.2.2.2.length ≤ 9223372036854775807) : R.impl_ResultText K r = some (((resTextM r).1, (resTextM r).2, ()), ()) := by
  unfold R.impl_ResultText resTextM
  simp only [hasText_eq hK r h1 h2, obind_some]
  cases h : resM r
  · rfl
  · simp only [Bool.not_true, cond_false, cond_true, resultText_eq hK r (resM_in h), obind_some]

abbrev tRs : Ty := .pair (.int .i64) (.pair (.int .i64) (.pair (.int .i64) (.pair (.sl .str) (.sl tEn))))

theorem law_ResultText (hK : 9223372036854775807 < K) (r : Rs) (hw : Wd tRs r) : R.laws_FnExactResultText K r = some ((true, ()), ()) := by
  unfold R.laws_FnExactResultText
  obtain ⟨z, e, l, s⟩ := szResult_ok hK r 1048576 (by omega) (by omega) hw
  simp only [e, obind_some]
  by_cases hz : z < 0
  · simp only [hz, decide_true, cond_true]
  · have sm := s (by omega)
    simp only [hz, decide_false, cond_false, toResult_id hK r sm, eqResult_id hK r sm, spec_ResultText_eq hK r, impl_ResultText_eq hK r hw.2.2.2.1.1 hw.2.2.2.2.1, obind_some, beq_self_eq_true, Bool.not_true, bne_self_eq_false]
end Go.Proofs.Pure
