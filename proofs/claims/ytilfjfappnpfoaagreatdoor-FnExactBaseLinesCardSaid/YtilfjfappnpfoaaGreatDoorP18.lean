/- Plain lemmas on what the functions come to. -/
import Derived.Test.YtilfjfappnpfoaaGreatDoorP15
namespace Go.Proofs.Pure
open Go Fw
set_option linter.all false
set_option maxRecDepth 100000
variable {K : Nat}

def parTxt (ps : List Int) : List UInt8 := ((List.range' 0 ps.length).map fun k => [32, 111, 102, 32] ++ Lib.itoa (ps.getD k 0)).flatten

def comTxt (i : Nat) (c : Cm) : List UInt8 := [99, 111, 109, 109, 105, 116, 32] ++ Lib.itoa ((i : Int) + 1) ++ parTxt c.1 ++ [32, 109, 97, 112, 32] ++ mapTxt c.2

def refTxt (r : Rf) : List UInt8 := [98, 114, 97, 110, 99, 104, 32] ++ r.1 ++ [32, 118, 101, 114, 115, 105, 111, 110, 32] ++ Lib.itoa r.2.2.1 ++ (if r.2.2.2 = true then [32, 103, 111, 110, 101] else [32, 104, 101, 97, 100, 32] ++ Lib.itoa r.2.1)

def linesM (b : Ba) : List (List UInt8) := (List.range' 0 b.1.length).map (fun i => comTxt i (b.1.getD i ([], []))) ++ (List.range' 0 b.2.length).map (fun i => refTxt (b.2.getD i ([], 0, 0, false)))

theorem parTxt_len {c : Cm} (h : CmS c) : (parTxt c.1).length ≤ 100 := by
  have h1 := h.h1
  have := cat_len (B := 15) (g := fun k => [32, 111, 102, 32] ++ Lib.itoa (c.1.getD k 0)) c.1.length 0 (fun j _ hj => by
    have g := h.h2 _ (getD_mem 0 (show j < c.1.length by omega))
    have := itoa_len (c.1.getD j 0) (by omega) (by omega)
    simp only [List.length_append, List.length_cons, List.length_nil]
    omega)
  unfold parTxt
  have : c.1.length * 15 ≤ 30 := by omega
  omega

theorem l13Par_eq (hK : 9223372036854775807 < K) (i : Nat) (st : List Cm) (hi : i < st.length) (hc : CmS (st.getD i ([], []))) (s : List UInt8) (hs : s.length ≤ 100) (q3 : Int) (q4 : List Cm) (q5 : Int) (q6 : Bool) (q7 q8 : Int) (q9 q10 : List UInt8) (q12 : List Rf) (q13 q14 : List (List UInt8)) :
    R.L_spec_l13Base_1 K K ((i : Int), s, 0, q3, q4, q5, q6, q7, q8, q9, q10, st, q12, q13, q14, ()) = some (Sum.inl ((i : Int), s ++ parTxt (st.getD i ([], [])).1, ((st.getD i ([], [])).1.length : Int), q3, q4, q5, q6, q7, q8, q9, q10, ((st.getD i ([], [])).1.length : Int), st, (i : Int), st.getD i ([], []), st.getD i ([], []), (st.getD i ([], [])).1, ((st.getD i ([], [])).1.length : Int), false, st, q12, q13, q14, ())) := by
  have h1 := hc.h1
  exact cat_ok (L := fun n k s => R.L_spec_l13Base_1 K n ((i : Int), s, (k : Nat), q3, q4, q5, q6, q7, q8, q9, q10, st, q12, q13, q14, ())) (len := (st.getD i ([], [])).1.length) (A := 100) (B := 15) (g := fun k => [32, 111, 102, 32] ++ Lib.itoa ((st.getD i ([], [])).1.getD k 0))
    (fin := fun s => Sum.inl ((i : Int), s, ((st.getD i ([], [])).1.length : Int), q3, q4, q5, q6, q7, q8, q9, q10, ((st.getD i ([], [])).1.length : Int), st, (i : Int), st.getD i ([], []), st.getD i ([], []), (st.getD i ([], [])).1, ((st.getD i ([], [])).1.length : Int), false, st, q12, q13, q14, ()))
    (fun k hk => by
      have g := hc.h2 _ (getD_mem 0 hk)
      have := itoa_len ((st.getD i ([], [])).1.getD k 0) (by omega) (by omega)
      simp only [List.length_append, List.length_cons, List.length_nil]
      omega)
    (fun n s => by simp only [R.L_spec_l13Base_1, idx_lt hi, idx_nn, Bool.and_self, Int.toNat_natCast, cond_true, idx_end, cond_false]) (fun n k s hk hs => by
      have g := hc.h2 _ (getD_mem 0 hk)
      have l := itoa_len ((st.getD i ([], [])).1.getD k 0) (by omega) (by omega)
      have b1 : Nat.ble (4 + (Lib.itoa ((st.getD i ([], [])).1.getD k 0)).length) 268435456 = true := ble_of (by omega)
      have b2 : Nat.ble (s.length + (4 + (Lib.itoa ((st.getD i ([], [])).1.getD k 0)).length)) 268435456 = true := ble_of (by omega)
      simp only [R.L_spec_l13Base_1, idx_lt hi, idx_lt hk, idx_nn, Bool.and_self, Int.toNat_natCast, cond_true, digits_eq hK _ (show -1000000 ≤ (st.getD i ([], [])).1.getD k 0 by omega) g.2, obind_some, List.length_append, List.length_cons, List.length_nil, Nat.zero_add, b1, b2, wrap_succ hk (by omega)])
    _ 0 K s (by omega) (by omega) (by omega)

theorem l13Com_eq (hK : 9223372036854775807 < K) (b : Ba) (h : BaS b) : R.L_spec_l13Base_0 K K (0, b.1, b.2, [], [], ()) = some (Sum.inl (b.1, b.2, [], (List.range' 0 b.1.length).map (fun i => comTxt i (b.1.getD i ([], []))), ())) := by
  have h1 := h.h1
  have := app_ok (L := fun n i ys => R.L_spec_l13Base_0 K n ((i : Nat), b.1, b.2, [], ys, ())) (len := b.1.length) (g := fun i => comTxt i (b.1.getD i ([], []))) (fin := fun ys => Sum.inl (b.1, b.2, [], ys, ()))
    (fun n ys => by simp only [R.L_spec_l13Base_0, idx_end, cond_false]) (fun n i ys hi hy => by
      have hc := h.h2 _ (getD_mem ([], []) hi)
      have w : IntKind.i64.wrap ((i : Int) + 1) = (i : Int) + 1 := wrap_id (by omega) (by omega)
      have l := itoa_len ((i : Int) + 1) (by omega) (by omega)
      have lp := parTxt_len hc
      have lm := mapTxt_len hc.h3 hc.h4
      have b1 : Nat.ble (7 + (Lib.itoa ((i : Int) + 1)).length) 268435456 = true := ble_of (by omega)
      have b2 : Nat.ble (7 + (Lib.itoa ((i : Int) + 1)).length + (parTxt (b.1.getD i ([], [])).1).length + 5) 268435456 = true := ble_of (by omega)
      have b3 : Nat.ble (7 + (Lib.itoa ((i : Int) + 1)).length + (parTxt (b.1.getD i ([], [])).1).length + 5 + (mapTxt (b.1.getD i ([], [])).2).length) 268435456 = true := ble_of (by omega)
      have b4 : Nat.ble (ys.length + 1) 268435456 = true := ble_of (by omega)
      have hp := l13Par_eq hK i b.1 hi hc ([99, 111, 109, 109, 105, 116, 32] ++ Lib.itoa ((i : Int) + 1)) (by simp; omega)
      simp only [R.L_spec_l13Base_0, idx_lt hi, idx_nn, Bool.and_self, Int.toNat_natCast, cond_true, w, digits_eq hK _ (show -1000000 ≤ (i : Int) + 1 by omega) (by omega), obind_some, List.length_append, List.length_cons, List.length_nil, Nat.zero_add, b1, hp, b2, b3, b4, l13Map_eq hK _ hc.h3 hc.h4, comTxt]
      rw [show ((i : Int) + 1) = ((i + 1 : Nat) : Int) by omega]) b.1.length 0 K [] (by omega) (by omega) (by simp)
  rw [List.nil_append] at this
  exact this

theorem refGood_of {xs : List Rf} (h : refsM xs = true) : ∀ r ∈ xs, refGood r = true := by
  unfold refsM at h
  simp only [Bool.and_eq_true, decide_eq_true_eq] at h
  exact all_getD (d := ([], 0, 0, false)) h.2 fun i hi he => by
    simp only [Bool.and_eq_true] at he
    exact he.1

/-- a loop that makes a list longer, from one on that is not empty -/
theorem app2_ok {α τ : Type} {L : Nat → Nat → List α → Option τ} {len A : Nat} {g : Nat → α} {fin : List α → τ} (h0 : ∀ n s, L (n + 1) len s = some (fin s))
    (h1 : ∀ n i s, i < len → s.length ≤ A + i → L (n + 1) i s = L n (i + 1) (s ++ [g i])) :
    ∀ (m i n : Nat) (s : List α), i + m = len → m < n → s.length ≤ A + i → L n i s = some (fin (s ++ (List.range' i m).map g))
  | 0, i, n + 1, s, hi, _, _ => by
    have : i = len := by omega
    subst this
    rw [h0]
    simp
  | m + 1, i, n + 1, s, hi, hn, hs => by
    rw [h1 n i s (by omega) hs, app2_ok h0 h1 m (i + 1) n (s ++ [g i]) (by omega) (by omega) (by simp; omega), List.range'_succ, List.map_cons, List.append_assoc]
    rfl

theorem l13Ref_eq (hK : 9223372036854775807 < K) (q1 : List Cm) (xs : List Rf) (hl : xs.length ≤ 8) (hr : ∀ r ∈ xs, RfS r) (ys0 : List (List UInt8)) (hy0 : ys0.length ≤ 60) : R.L_spec_l13Base_2 K K (0, q1, xs, [], ys0, ()) = some (Sum.inl ([], ys0 ++ (List.range' 0 xs.length).map (fun i => refTxt (xs.getD i ([], 0, 0, false))), ())) := by
  have := app2_ok (L := fun n i ys => R.L_spec_l13Base_2 K n ((i : Nat), q1, xs, [], ys, ())) (len := xs.length) (A := 60) (g := fun i => refTxt (xs.getD i ([], 0, 0, false))) (fin := fun ys => Sum.inl ([], ys, ()))
    (fun n ys => by simp only [R.L_spec_l13Base_2, idx_end, cond_false]) (fun n i ys hi hy => by
      have g := hr _ (getD_mem ([], 0, 0, false) hi)
      obtain ⟨⟨nm, hd, ver, gone⟩, er⟩ : ∃ r, xs.getD i ([], 0, 0, false) = r := ⟨_, rfl⟩
      rw [er] at g
      obtain ⟨g1, g2, g3⟩ := g
      simp only at g1 g2 g3
      have l1 := itoa_len ver (by omega) (by omega)
      have l2 := itoa_len hd (by omega) (by omega)
      have hy' : ys.length ≤ 100 := by omega
      have e1 := digits_eq hK ver (by omega) (by omega)
      have e2 := digits_eq hK hd (by omega) (by omega)
      simp only [R.L_spec_l13Base_2, idx_lt hi, idx_nn, Bool.and_self, Int.toNat_natCast, cond_true, er, e1, e2, obind_some, wrap_succ hi (by omega), refTxt]
      cases gone <;> simp (disch := omega) [ble_s, List.append_assoc]) xs.length 0 K ys0 (by omega) (by omega) (by omega)
  exact this

theorem l13Base_eq (hK : 9223372036854775807 < K) (b : Ba) (h : BaS b) : R.spec_l13Base K b = some ((linesM b, ()), ()) := by
  have h1 := h.h1
  unfold R.spec_l13Base
  simp only [l13Com_eq hK b h, obind_some]
  rw [l13Ref_eq hK b.1 b.2 h.h3 h.h4 _ (by simp; omega)]
  rfl

theorem linePar_eq (hK : 9223372036854775807 < K) (c : Cm) (hc : CmS c) (s : List UInt8) (hs : s.length ≤ 100) (q0 : Int) (q2 : List Cm) (q3 q4 : Int) (q5 : Bool) (q6 : Int) (q7 : Cm) (q8 : List Int) (q9 : List En) (q10 q11 : Int) (q12 q13 : List UInt8) (q17 : List Cm) (q18 : List Rf) (q19 q20 : List (List UInt8)) (q21 : List Int) (q22 : List En) :
    R.L_impl_Base_lines_1 K K (q0, s, q2, q3, q4, q5, q6, q7, q8, q9, q10, q11, q12, q13, c.1, (c.1.length : Int), 0, q17, q18, q19, q20, q21, q22, ()) = some (Sum.inl (q0, s ++ parTxt c.1, q2, q3, q4, q5, q6, q7, q8, q9, q10, q11, q12, q13, c.1, (c.1.length : Int), (c.1.length : Int), false, q17, q18, q19, q20, q21, q22, ())) := by
  have h1 := hc.h1
  exact cat_ok (L := fun n k s => R.L_impl_Base_lines_1 K n (q0, s, q2, q3, q4, q5, q6, q7, q8, q9, q10, q11, q12, q13, c.1, (c.1.length : Int), (k : Nat), q17, q18, q19, q20, q21, q22, ())) (len := c.1.length) (A := 100) (B := 15) (g := fun k => [32, 111, 102, 32] ++ Lib.itoa (c.1.getD k 0))
    (fin := fun s => Sum.inl (q0, s, q2, q3, q4, q5, q6, q7, q8, q9, q10, q11, q12, q13, c.1, (c.1.length : Int), (c.1.length : Int), false, q17, q18, q19, q20, q21, q22, ()))
    (fun k hk => by
      have g := hc.h2 _ (getD_mem 0 hk)
      have := itoa_len (c.1.getD k 0) (by omega) (by omega)
      simp only [List.length_append, List.length_cons, List.length_nil]
      omega)
    (fun n s => by simp only [R.L_impl_Base_lines_1, idx_end, cond_false]) (fun n k s hk hs => by
      have g := hc.h2 _ (getD_mem 0 hk)
      have l := itoa_len (c.1.getD k 0) (by omega) (by omega)
      have b1 : Nat.ble (4 + (Lib.itoa (c.1.getD k 0)).length) 268435456 = true := ble_of (by omega)
      have b2 : Nat.ble (s.length + (4 + (Lib.itoa (c.1.getD k 0)).length)) 268435456 = true := ble_of (by omega)
      simp only [R.L_impl_Base_lines_1, idx_lt hk, idx_nn, Bool.and_self, Int.toNat_natCast, cond_true, Itoa_eq _ (show -1000000 ≤ c.1.getD k 0 by omega) g.2, obind_some, List.length_append, List.length_cons, List.length_nil, Nat.zero_add, b1, b2, wrap_succ hk (by omega)])
    _ 0 K s (by omega) (by omega) (by omega)

theorem lineCom_eq (hK : 9223372036854775807 < K) (b : Ba) (h : BaS b) : R.L_impl_Base_lines_0 K K (b.1, (b.1.length : Int), 0, b.1, b.2, [], [], ()) = some (Sum.inl (b.1, b.2, [], (List.range' 0 b.1.length).map (fun i => comTxt i (b.1.getD i ([], []))), ())) := by
  have h1 := h.h1
  have := app_ok (L := fun n i ys => R.L_impl_Base_lines_0 K n (b.1, (b.1.length : Int), (i : Nat), b.1, b.2, [], ys, ())) (len := b.1.length) (g := fun i => comTxt i (b.1.getD i ([], []))) (fin := fun ys => Sum.inl (b.1, b.2, [], ys, ()))
    (fun n ys => by simp only [R.L_impl_Base_lines_0, idx_end, cond_false]) (fun n i ys hi hy => by
      have hc := h.h2 _ (getD_mem ([], []) hi)
      have w : IntKind.i64.wrap ((i : Int) + 1) = (i : Int) + 1 := wrap_id (by omega) (by omega)
      have l := itoa_len ((i : Int) + 1) (by omega) (by omega)
      have lp := parTxt_len hc
      have lm := mapTxt_len hc.h3 hc.h4
      have b1 : Nat.ble (7 + (Lib.itoa ((i : Int) + 1)).length) 268435456 = true := ble_of (by omega)
      have b2 : Nat.ble (7 + (Lib.itoa ((i : Int) + 1)).length + (parTxt (b.1.getD i ([], [])).1).length + 5) 268435456 = true := ble_of (by omega)
      have b3 : Nat.ble (7 + (Lib.itoa ((i : Int) + 1)).length + (parTxt (b.1.getD i ([], [])).1).length + 5 + (mapTxt (b.1.getD i ([], [])).2).length) 268435456 = true := ble_of (by omega)
      have b4 : Nat.ble (ys.length + 1) 268435456 = true := ble_of (by omega)
      have hp := linePar_eq hK (b.1.getD i ([], [])) hc ([99, 111, 109, 109, 105, 116, 32] ++ Lib.itoa ((i : Int) + 1)) (by simp; omega)
      simp only [R.L_impl_Base_lines_0, idx_lt hi, idx_nn, Bool.and_self, Int.toNat_natCast, cond_true, w, Itoa_eq _ (show -1000000 ≤ (i : Int) + 1 by omega) (by omega), obind_some, List.length_append, List.length_cons, List.length_nil, Nat.zero_add, b1, hp, b2, b3, b4, mapText_eq hK _ hc.h3 hc.h4, comTxt]
      rw [show ((i : Int) + 1) = ((i + 1 : Nat) : Int) by omega]) b.1.length 0 K [] (by omega) (by omega) (by simp)
  rw [List.nil_append] at this
  exact this

theorem lineRef_eq (hK : 9223372036854775807 < K) (xs : List Rf) (hl : xs.length ≤ 8) (hr : ∀ r ∈ xs, refGood r = true) (ys0 : List (List UInt8)) (hy0 : ys0.length ≤ 60) : R.L_impl_Base_lines_2 K K (xs, (xs.length : Int), 0, [], ys0, ()) = some (Sum.inl ([], ys0 ++ (List.range' 0 xs.length).map (fun i => refTxt (xs.getD i ([], 0, 0, false))), ())) := by
  have := app2_ok (L := fun n i ys => R.L_impl_Base_lines_2 K n (xs, (xs.length : Int), (i : Nat), [], ys, ())) (len := xs.length) (A := 60) (g := fun i => refTxt (xs.getD i ([], 0, 0, false))) (fin := fun ys => Sum.inl ([], ys, ()))
    (fun n ys => by simp only [R.L_impl_Base_lines_2, idx_end, cond_false]) (fun n i ys hi hy => by
      have g0 := hr _ (getD_mem ([], 0, 0, false) hi)
      have g := refGood_in g0
      obtain ⟨⟨nm, hd, ver, gone⟩, er⟩ : ∃ r, xs.getD i ([], 0, 0, false) = r := ⟨_, rfl⟩
      rw [er] at g g0
      obtain ⟨g1, g2, g3⟩ := g
      simp only at g1 g2 g3
      have l1 := itoa_len ver (by omega) (by omega)
      have l2 := itoa_len hd (by omega) (by omega)
      have hy' : ys.length ≤ 100 := by omega
      have e1 := Itoa_eq (K := K) ver (by omega) (by omega)
      have e2 := numbered_eq (K := K) [104, 101, 97, 100] (by simp) hd (by omega) (by omega)
      have hg : (if hd = 0 then [] else [32] ++ [104, 101, 97, 100] ++ [32] ++ Lib.itoa hd) = (if gone = true then [] else [32, 104, 101, 97, 100, 32] ++ Lib.itoa hd) := by
        unfold refGood at g0
        cases gone
        · simp only [cond_false, Bool.and_eq_true, decide_eq_true_eq] at g0
          have : hd ≠ 0 := by omega
          simp [this]
        · simp only [cond_true, Bool.and_eq_true, beq_iff_eq] at g0
          simp [g0.2]
      rw [hg] at e2
      simp only [R.L_impl_Base_lines_2, idx_lt hi, idx_nn, Bool.and_self, Int.toNat_natCast, cond_true, er, e1, e2, obind_some, wrap_succ hi (by omega), refTxt]
      cases gone <;> simp (disch := omega) [ble_s, List.append_assoc, e2]) xs.length 0 K ys0 (by omega) (by omega) (by omega)
  exact this

theorem lines_eq (hK : 9223372036854775807 < K) (b : Ba) (h : BaS b) (hr : ∀ r ∈ b.2, refGood r = true) : R.impl_Base_lines K b = some ((linesM b, ()), ()) := by
  have h1 := h.h1
  unfold R.impl_Base_lines
  simp only [lineCom_eq hK b h, obind_some]
  rw [lineRef_eq hK b.2 h.h3 hr _ (by simp; omega)]
  rfl

def baseLinesM (b : Ba) : List (List UInt8) × Int := bif baseM b then (linesM b, 0) else ([], 1)

theorem spec_BaseLines_eq (hK : 9223372036854775807 < K) (b : Ba) (hx : b.2.length ≤ 9223372036854775807) : R.spec_BaseLines K b = some (((baseLinesM b).1, (baseLinesM b).2, ()), ()) := by
  unfold R.spec_BaseLines baseLinesM
  rw [l05OK_eq hK b hx]
  cases h : baseM b
  · rfl
  · simp only [obind_some, l13Base_eq hK b (baseM_in h), Bool.not_true, cond_false, cond_true]

theorem impl_BaseLines_eq (hK : 9223372036854775807 < K) (b : Ba) (hx : b.2.length ≤ 9223372036854775807) (hw : ∀ c ∈ b.1, c.2.length ≤ 9223372036854775807) (hn : ∀ r ∈ b.2, r.1.length ≤ 9223372036854775807) : R.impl_BaseLines K b = some (((baseLinesM b).1, (baseLinesM b).2, ()), ()) := by
  unfold R.impl_BaseLines baseLinesM
  rw [BaseOK_eq hK b hx hw hn]
  cases h : baseM b
  · rfl
  · have h2 : refsM b.2 = true := by
      unfold baseM at h
      simp only [Bool.and_eq_true] at h
      exact h.1.2
    simp only [obind_some, lines_eq hK b (baseM_in h) (refGood_of h2), Bool.not_true, cond_false, cond_true]

theorem comTxt_len {i : Nat} {c : Cm} (hi : i < 60) (hc : CmS c) : (comTxt i c).length ≤ 1000 := by
  have l := itoa_len ((i : Int) + 1) (by omega) (by omega)
  have lp := parTxt_len hc
  have lm := mapTxt_len hc.h3 hc.h4
  unfold comTxt
  simp only [List.length_append, List.length_cons, List.length_nil]
  omega

theorem refTxt_len {r : Rf} (h : RfS r) : (refTxt r).length ≤ 1000 := by
  have l1 := itoa_len r.2.2.1 (by have := h.h2; omega) (by have := h.h2; omega)
  have l2 := itoa_len r.2.1 (by have := h.h3; omega) (by have := h.h3; omega)
  have := h.h1
  unfold refTxt
  split <;> simp only [List.length_append, List.length_cons, List.length_nil] <;> omega

theorem baseLinesM_sm (b : Ba) : Sm (.sl .str) (baseLinesM b).1 := by
  unfold baseLinesM
  cases h : baseM b
  · exact ⟨by simp, by simp⟩
  · have hb := baseM_in h
    have h1 := hb.h1
    have h3 := hb.h3
    refine ⟨by simp only [cond_true, linesM]; simp; omega, fun t ht => ?_⟩
    simp only [cond_true, linesM, List.mem_append, List.mem_map, List.mem_range'_1] at ht
    show t.length ≤ 1048576
    rcases ht with ⟨i, hi, rfl⟩ | ⟨i, hi, rfl⟩
    · have := comTxt_len (show i < 60 by omega) (hb.h2 _ (getD_mem ([], []) (show i < b.1.length by omega)))
      omega
    · have := refTxt_len (hb.h4 _ (getD_mem ([], 0, 0, false) (show i < b.2.length by omega)))
      omega

theorem law_BaseLines (hK : 9223372036854775807 < K) (b : Ba) (hw : Wd tBa b) : R.laws_FnExactBaseLines K b = some ((true, ()), ()) := by
  unfold R.laws_FnExactBaseLines
  obtain ⟨z, e, l, s⟩ := szBase_ok hK b 1048576 (by omega) (by omega) hw
  simp only [e, obind_some]
  by_cases hz : z < 0
  · simp only [hz, decide_true, cond_true]
  have sm := s (by omega)
  have e1 := spec_BaseLines_eq hK b hw.2.1
  have e2 := impl_BaseLines_eq hK b hw.2.1 (fun c hc => (hw.1.2 c hc).2.1) (fun r hr => (hw.2.2 r hr).1)
  have smr := baseLinesM_sm b
  obtain ⟨k1, y1, m1, a1, b1⟩ := markBase_go hK b sm 1 (by omega) (by omega)
  obtain ⟨k3, y3, m3, a3, b3, u3⟩ := markStringS_ok hK (baseLinesM b).1 smr 1 (by omega) (by omega)
  have n1 := lt0 (show 0 ≤ k1 by omega)
  have n3 := lt0 (show 0 ≤ k3 by omega)
  simp only [hz, decide_false, cond_false, toBase_id hK b sm, eqBase_id hK b sm, eqStringS_id hK _ smr, e1, e2, m1, m3, u3, n1, n3, obind_some, beq_self_eq_true, Bool.not_true, bne_self_eq_false]
end Go.Proofs.Pure
