/- Plain lemmas on what the functions come to. -/
import Derived.Test.YtjblmapbompclaaGreatPM1
namespace Go.Proofs.Pure
open Go Fw
set_option linter.all false
set_option maxRecDepth 100000
variable {K : Nat}
theorem sGet_eq (hK : 9223372036854775807 < K) (m : List En) (hm : mapM m = true) (k : List UInt8) (hk : wordM k = true) (hl : k.length ≤ 65536) : R.qdi K m k = some (((getP m k).1, (getP m k).2, ()), ()) := by
  have h12 := (mapM_srt hm).2
  have l1 : decide ((m.length : Int) > 4096) = false := by simp; omega
  have l2 : decide ((k.length : Int) > 65536) = false := by simp; omega
  unfold R.qdi R.qcx R.qcN getP
  simp only [l1, l2, cond_false, l01OK_eq hK, word_eq hK, hm, hk, Bool.not_true, obind_some, show ((0 : Int) != 0) = false from rfl]
  have h := l01At_loop (K := K) m (by omega) k m.length 0 K (by omega) (by omega)
  rw [List.drop_zero] at h
  rcases h with ⟨h, e⟩ | ⟨j, hj, h, e⟩
  · have h : R.L_qcN_0 K K (m, k, 0, 0, ()) = _ := h
    simp only [h, obind_some, e, show ((-1 : Int) < 0) from by omega, decide_true, cond_true]
  · have h : R.L_qcN_0 K K (m, k, 0, 0, ()) = _ := h
    simp only [h, obind_some, e, show ¬ ((j : Int) < 0) from by omega, decide_false, cond_false, idx_nn, idx_lt hj, Bool.and_self, cond_true, Int.toNat_natCast, getD_get hj]
theorem store_map {s : List Cm} (h : storeM s = true) {a : Nat} (h1 : 1 ≤ a) (h2 : a ≤ s.length) : mapM (mapNo s a) = true := by
  unfold storeM at h
  simp only [Bool.and_eq_true, decide_eq_true_eq, List.all_eq_true] at h
  have := h.2 (a - 1) (by simp; omega)
  unfold commitM at this
  simp only [Bool.and_eq_true] at this
  exact this.1.1.1
theorem opM_facts {o : OpT} (h : opM o = true) : 1 ≤ o.1 ∧ o.1 ≤ 6 ∧ o.2.2.2.2.length ≤ 1000 ∧ (o.1 = 5 → wordM o.2.2.2.1 = true) ∧ 0 ≤ o.2.1 ∧ (o.1 = 1 ∨ o.1 = 4 → 1 ≤ o.2.1) ∧ (o.1 = 2 ∨ o.1 = 5 ∨ o.1 = 6 → o.2.1 = 0) := by
  unfold opM editsM at h
  simp only [Bool.and_eq_true, decide_eq_true_eq] at h
  obtain ⟨⟨⟨⟨⟨_, h1⟩, h2⟩, _⟩, h3⟩, h4⟩ := h
  refine ⟨h1.1, h1.2, by have := h2.1; omega, fun e => ?_, ?_, fun e => ?_, fun e => ?_⟩
  · rw [e] at h3; exact h3
  · rcases kinds h1.1 h1.2 with e | e | e | e | e | e <;> simp [e] at h4 <;> omega
  · rcases e with e | e <;> simp [e] at h4 <;> omega
  · rcases e with e | e | e <;> simp [e] at h4 <;> omega
theorem liveB_facts {xs : List Rf} {s : List UInt8} (h : liveB xs s = true) : ∃ i : Nat, refAt xs s = (i : Int) ∧ i < xs.length ∧ (xs.getD i ([], 0, 0, false)).2.2.2 = false := by
  unfold liveB at h
  simp only [Bool.and_eq_true, decide_eq_true_eq] at h
  rcases refAt_cases xs s with e | ⟨i, e, hi, _⟩
  · omega
  · refine ⟨i, e, hi, ?_⟩
    have := h.2
    rw [e] at this
    simpa using this
theorem set_eq (b : Ba) (refs : List Rf) (code commit : Int) : R.qbB K b refs code commit = some (((bif code == 0 then (b.1, refs) else b), (bif code == 0 then (0, commit, 0, [], []) else failR code []), ()), ()) := by
  unfold R.qbB failR
  cases h : code == 0 <;> simp [bne, h]
theorem do_eq (hK : 9223372036854775807 < K) (b : Ba) (hb : baseM b = true) (hB : BaB b) (o : OpT) (ho : opM o = true) : R.qcb K b o = some (((doM b o).1, (doM b o).2, ()), ()) := by
  obtain ⟨k1, k2, he, hw, f0, f1, f2⟩ := opM_facts ho
  have hs := baseM_store hb
  have hr : refsM b.2 = true := by
    unfold baseM at hb
    simp only [Bool.and_eq_true] at hb
    exact hb.1.2
  obtain ⟨_, _, h60, _⟩ := storeM_ok hs
  have hx := (refs_facts hr).1
  have hv := verB hr
  unfold R.qcb
  simp only [live_eq hK b.2 (show b.2.length ≤ 1048576 by omega), create_eq hK b.2 (show b.2.length ≤ 1048576 by omega) hv, obind_some, set_eq]
  unfold doM
  by_cases hf : o.2.1 > (b.1.length : Int)
  · have hk : (o.1 == 1 || (o.1 == 3 || o.1 == 4)) = true := by
      rcases kinds k1 k2 with e | e | e | e | e | e
      · rw [e]; rfl
      · have := f2 (.inl e); omega
      · rw [e]; rfl
      · rw [e]; rfl
      · have := f2 (.inr (.inl e)); omega
      · have := f2 (.inr (.inr e)); omega
    simp only [hf, hk, decide_true, cond_true, Bool.and_self]
    rfl
  · simp only [hf, decide_false, Bool.and_false, cond_false]
    by_cases e1 : o.1 = 1
    · simp only [e1, show ((1 : Int) == 1) = true from rfl, cond_true]
      cases (createM b.2 o.2.2.1 o.2.1).2 == 0 <;> rfl
    · have e1' : (o.1 == 1) = false := by simpa using e1
      simp only [e1', cond_false]
      cases hl : liveB b.2 o.2.2.1 with
      | false => rfl
      | true =>
        obtain ⟨i, ei, hi, hg⟩ := liveB_facts hl
        obtain ⟨h, eh, h3, h4⟩ := live_head hb hi hg
        obtain ⟨w1, i1⟩ := at_no h3 h4 h60
        simp only [ei, Bool.not_true, cond_false, cond_true, idx_nn, idx_lt hi, Bool.and_self, Int.toNat_natCast, eh, w1, idx_lt i1, moved_eq b.2 (show b.2.length ≤ 1048576 by omega) hi (hv i hi), obind_some]
        have hsm := mapNo_ok hs h3 h4
        have hfi := find_eq (K := K) hK hsm.1 (show (mapNo b.1 h).length ≤ 4611686018427387903 by omega) o.2.2.2.1
        have hgk := getK_eq o.2.2.2.1 (mapNo b.1 h) hsm.1
        have hcl := Clone_En_eq (K := K) (mapNo b.1 h) (by omega)
        rcases kinds k1 k2 with e | e | e | e | e | e
        · exact absurd e e1
        · simp only [e, show ((2 : Int) == 2) = true from rfl, cond_true, show ((0 : Int) == 0) = true from rfl]
          unfold movedM failR
          cases (b.2.getD i ([], 0, 0, false)).2.2.1 == 1000000 <;> rfl
        · simp only [e, show ((3 : Int) == 2) = false from rfl, show ((3 : Int) == 5) = false from rfl, show ((3 : Int) == 6) = false from rfl, cond_false, write_eq hK b hb hB o (.inl e) he ⟨f0, by omega⟩ (fun h => by omega) hi hg, obind_some]
        · simp only [e, show ((4 : Int) == 2) = false from rfl, show ((4 : Int) == 5) = false from rfl, show ((4 : Int) == 6) = false from rfl, cond_false, write_eq hK b hb hB o (.inr e) he ⟨f0, by omega⟩ (fun _ => f1 (.inr e)) hi hg, obind_some]
        · simp only [e, show ((5 : Int) == 2) = false from rfl, show ((5 : Int) == 5) = true from rfl, cond_true, cond_false]
          unfold mapNo at hfi hgk ⊢
          simp only [hfi, obind_some]
          unfold getP
          cases hh : hasK (b.1.getD (h - 1) ([], [])).2 o.2.2.2.1 with
          | false =>
            rw [hh] at hgk
            simp only [cond_false] at hgk
            simp only [hgk, Bool.not_false, cond_true]
            rfl
          | true =>
            have hlt := hasK_lt hh
            rw [hh, List.getElem?_eq_getElem hlt] at hgk
            simp only [cond_true] at hgk
            simp only [hgk, Bool.not_true, cond_false, idx_nn, idx_lt hlt, Bool.and_self, cond_true, Int.toNat_natCast, getD_get hlt]
            rfl
        · simp only [e, show ((6 : Int) == 2) = false from rfl, show ((6 : Int) == 5) = false from rfl, show ((6 : Int) == 6) = true from rfl, cond_true, cond_false]
          unfold mapNo at hcl ⊢
          simp only [hcl, obind_some]
theorem l05Do_eq (hK : 9223372036854775807 < K) (b : Ba) (hb : baseM b = true) (o : OpT) (ho : opM o = true) (hkl : o.2.2.2.1.length ≤ 65536 ∨ wordM o.2.2.2.1 = false) : R.qcT K b o = some (((doM b o).1, (doM b o).2, ()), ()) := by
  obtain ⟨k1, k2, he, hw, f0, f1, f2⟩ := opM_facts ho
  have hs := baseM_store hb
  have hr : refsM b.2 = true := by
    unfold baseM at hb
    simp only [Bool.and_eq_true] at hb
    exact hb.1.2
  obtain ⟨_, _, h60, _⟩ := storeM_ok hs
  have hx := (refs_facts hr).1
  have hv := verB hr
  unfold R.qcT doM
  simp only [l04Live_eq hK b.2 (show b.2.length ≤ 1048576 by omega), l04Create_eq hK b.2 (show b.2.length ≤ 1048576 by omega) hv, obind_some]
  by_cases e1 : o.1 = 1
  · simp only [e1, show ((1 : Int) == 1) = true from rfl, cond_true, Bool.true_or, Bool.true_and]
    cases decide (o.2.1 > (b.1.length : Int)) with
    | true => rfl
    | false =>
      simp only [cond_false, bne]
      cases (createM b.2 o.2.2.1 o.2.1).2 == 0 <;> rfl
  · have e1' : (o.1 == 1) = false := by simpa using e1
    simp only [e1', cond_false, Bool.false_or]
    cases hl : liveB b.2 o.2.2.1 with
    | false =>
      simp only [cond_false, show ((-1 : Int) < 0) from by omega, decide_true, cond_true]
      rcases kinds k1 k2 with e | e | e | e | e | e <;> simp only [e] <;> cases decide (o.2.1 > (b.1.length : Int)) <;> rfl
    | true =>
      obtain ⟨i, ei, hi, hg⟩ := liveB_facts hl
      obtain ⟨h, eh, h3, h4⟩ := live_head hb hi hg
      obtain ⟨w1, i1⟩ := at_no h3 h4 h60
      simp only [ei, cond_true, show ¬ ((i : Int) < 0) from by omega, decide_false, cond_false, idx_nn, idx_lt hi, Bool.and_self, Int.toNat_natCast, eh, w1, idx_lt i1]
      have hdel : R.qaY K b.2 o.2.2.1 = some ((bif (b.2.getD i ([], 0, 0, false)).2.2.1 == 1000000 then (b.2, 7, ()) else (setR b.2 i 0 true, 0, ()), ())) := by
        unfold R.qaY
        simp only [l04Live_eq hK b.2 (show b.2.length ≤ 1048576 by omega), hl, cond_true, ei, obind_some, show ¬ ((i : Int) < 0) from by omega, decide_false, cond_false, idx_nn, idx_lt hi, Bool.and_self, Int.toNat_natCast, l04Set_eq b.2 (show b.2.length ≤ 1048576 by omega) hi (hv i hi)]
        cases (b.2.getD i ([], 0, 0, false)).2.2.1 == 1000000 <;> rfl
      rcases kinds k1 k2 with e | e | e | e | e | e
      · exact absurd e e1
      · simp only [e, show ((2 : Int) == 1) = false from rfl, show ((2 : Int) == 2) = true from rfl, show ((2 : Int) == 3) = false from rfl, show ((2 : Int) == 4) = false from rfl, cond_true, cond_false, hdel, obind_some, Bool.or_self, Bool.false_and]
        unfold failR
        cases (b.2.getD i ([], 0, 0, false)).2.2.1 == 1000000 <;> rfl
      · simp only [e, show ((3 : Int) == 1) = false from rfl, show ((3 : Int) == 2) = false from rfl, show ((3 : Int) == 3) = true from rfl, show ((3 : Int) == 4) = false from rfl, show ((3 : Int) == 5) = false from rfl, show ((3 : Int) == 6) = false from rfl, cond_true, cond_false, Bool.true_or, Bool.true_and]
        by_cases hf : o.2.1 > (b.1.length : Int)
        · simp only [hf, decide_true, cond_true]; rfl
        · simp only [hf, decide_false, cond_false, scommit_eq hK b hb o e he ⟨f0, by omega⟩ hi hg, obind_some]
      · simp only [e, show ((4 : Int) == 1) = false from rfl, show ((4 : Int) == 2) = false from rfl, show ((4 : Int) == 3) = false from rfl, show ((4 : Int) == 4) = true from rfl, show ((4 : Int) == 5) = false from rfl, show ((4 : Int) == 6) = false from rfl, cond_true, cond_false, Bool.or_true, Bool.true_and]
        by_cases hf : o.2.1 > (b.1.length : Int)
        · simp only [hf, decide_true, cond_true]; rfl
        · simp only [hf, decide_false, cond_false, smerge_eq hK b hb o e ⟨f1 (.inr e), by omega⟩ hi hg, obind_some]
      · have hwk := hw e
        have hkl' : o.2.2.2.1.length ≤ 65536 := hkl.resolve_right (by rw [hwk]; simp)
        have hget := sGet_eq (K := K) hK (mapNo b.1 h) (store_map hs h3 h4) o.2.2.2.1 hwk hkl'
        unfold mapNo at hget
        simp only [e, show ((5 : Int) == 1) = false from rfl, show ((5 : Int) == 2) = false from rfl, show ((5 : Int) == 3) = false from rfl, show ((5 : Int) == 4) = false from rfl, show ((5 : Int) == 5) = true from rfl, cond_true, cond_false, Bool.or_self, Bool.false_and, hget, obind_some]
        unfold mapNo getP failR
        cases getK (b.1.getD (h - 1) ([], [])).2 o.2.2.2.1 <;> rfl
      · simp only [e, show ((6 : Int) == 1) = false from rfl, show ((6 : Int) == 2) = false from rfl, show ((6 : Int) == 3) = false from rfl, show ((6 : Int) == 4) = false from rfl, show ((6 : Int) == 5) = false from rfl, show ((6 : Int) == 6) = true from rfl, cond_true, cond_false, Bool.or_self, Bool.false_and]
        rfl
def KS {α : Type} (m : List (List UInt8 × α)) : Prop := ∀ e ∈ m, e.1.length ≤ 1048576
theorem editsS_mem : ∀ (l : List Ed) {m : List En} {e : En}, e ∈ editsS m l → e ∈ m ∨ ∃ x ∈ l, x.1 = e.1
  | [], _, _, h => .inl h
  | x :: l, m, e, h => by
    rcases editsS_mem l (m := editS m x) h with h | ⟨y, hy, h⟩
    · unfold editS at h
      cases hg : x.2.2 with
      | true =>
        rw [hg] at h
        exact .inl (List.mem_filter.1 h).1
      | false =>
        rw [hg] at h
        rcases mem_putS h with h | h
        · exact .inr ⟨x, by simp, by rw [h]⟩
        · exact .inl h
    · exact .inr ⟨y, by simp [hy], h⟩
theorem editsS_ks {m : List En} {l : List Ed} (h1 : KS m) (h2 : KS l) : KS (editsS m l) := fun e he => by
  rcases editsS_mem l he with h | ⟨x, hx, h⟩
  · exact h1 e h
  · rw [← h]; exact h2 x hx
theorem diffS_ks {a b : List En} (h1 : KS a) (h2 : KS b) : KS (diffS a b) := fun e he => by
  rcases mem_diffS a b e he with ⟨x, hx, h⟩ | ⟨x, hx, h⟩
  · rw [← h]; exact h1 x hx
  · rw [← h]; exact h2 x hx
theorem mergeS_ks {base a b : List En} (h0 : KS base) (h2 : KS b) : KS (mergeS base a b).1 ∧ ∀ k ∈ (mergeS base a b).2, k.length ≤ 1048576 := by
  have hd : KS (diffS base b) := diffS_ks h0 h2
  unfold mergeS
  have : ∀ (l : List Ed) (left : List Ed) (s : List Ed × List (List UInt8)), KS l → (KS s.1 ∧ ∀ k ∈ s.2, k.length ≤ 1048576) → (KS (l.foldl (mstep left) s).1 ∧ ∀ k ∈ (l.foldl (mstep left) s).2, k.length ≤ 1048576) := by
    intro l
    induction l with
    | nil => intro left s _ h; exact h
    | cons e l ih =>
      intro left s hl h
      refine ih left _ (fun x hx => hl x (by simp [hx])) ?_
      unfold mstep
      cases getK left e.1 with
      | none =>
        refine ⟨fun x hx => ?_, h.2⟩
        rcases List.mem_append.1 hx with hx | hx
        · exact h.1 x hx
        · rw [List.mem_singleton.1 hx]; exact hl e (by simp)
      | some x =>
        show KS (bif edSame x e then s else (s.1, s.2 ++ [e.1])).1 ∧ ∀ k ∈ (bif edSame x e then s else (s.1, s.2 ++ [e.1])).2, k.length ≤ 1048576
        cases edSame x e with
        | true => exact h
        | false =>
          refine ⟨h.1, fun k hk => ?_⟩
          rcases List.mem_append.1 hk with hk | hk
          · exact h.2 k hk
          · rw [List.mem_singleton.1 hk]; exact hl e (by simp)
  exact this _ _ ([], []) hd ⟨by intro e h; exact absurd h (by simp), by intro k h; exact absurd h (by simp)⟩
theorem merge3_ks {base a b : List En} (h0 : KS base) (h1 : KS a) (h2 : KS b) (l0 : base.length ≤ 100000) (l2 : b.length ≤ 100000) : KS (merge3 base a b).1 ∧ (merge3 base a b).2.1.length ≤ 1048576 ∧ ∀ k ∈ (merge3 base a b).2.1, k.length ≤ 1048576 := by
  obtain ⟨g1, g2⟩ := mergeS_ks (a := a) h0 h2
  have hl := mergeS_len base a b
  have hd := diffS_len base b
  unfold merge3
  by_cases q1 : 0 < (mergeS base a b).2.length
  · simp only [q1, decide_true, cond_true]
    exact ⟨fun _ h => (by cases h), by omega, g2⟩
  · by_cases q2 : 12 < (editsS a (mergeS base a b).1).length
    · simp only [q1, q2, decide_true, decide_false, cond_true, cond_false]
      exact ⟨fun _ h => (by cases h), by simp, fun _ h => (by cases h)⟩
    · simp only [q1, q2, decide_false, cond_false]
      exact ⟨editsS_ks h1 g1, by simp, fun _ h => (by cases h)⟩
theorem ks_sm {m : List En} (h : Sm (.sl tEn) m) : KS m := fun e he => (h.2 e he).1
theorem sm_ks {m : List En} (h : KS m) (hl : m.length ≤ 1048576) : Sm (.sl tEn) m := ⟨hl, fun e he => ⟨h e he, trivial⟩⟩
theorem mapNo_sm {b : Ba} (h : Sm tBa b) (a : Nat) : Sm (.sl tEn) (mapNo b.1 a) := by
  unfold mapNo
  by_cases hi : a - 1 < b.1.length
  · rw [getD_get hi]
    exact (h.1.2 _ (List.getElem_mem _)).2
  · have : b.1.getD (a - 1) ([], []) = ([], []) := by simp [List.getD_eq_getElem?_getD, List.getElem?_eq_none (Nat.le_of_not_lt hi)]
    rw [this]
    exact ⟨by simp, fun _ h => by cases h⟩
theorem commitP_sm {b : Ba} (hb : Sm tBa b) (hs : storeM b.1 = true) {src head : Nat} (h1 : 1 ≤ src) (h2 : src ≤ b.1.length) (h3 : 1 ≤ head) (h4 : head ≤ b.1.length) {ed : List Ed} (he : KS ed) :
    Sm (.sl tEn) (commitP b.1 src head ed).1 ∧ Sm (.sl .str) (commitP b.1 src head ed).2.1 := by
  have k1 := ks_sm (mapNo_sm hb src)
  have k2 := ks_sm (mapNo_sm hb head)
  have q1 := (mapNo_ok hs h1 h2).2
  have q2 := (mapNo_ok hs h3 h4).2
  have hm := merge3_ks k1 (editsS_ks k1 he) k2 (by omega) (by omega)
  have hl := commitP_len b.1 src head ed
  refine ⟨sm_ks ?_ (by omega), ?_⟩
  · unfold commitP
    cases decide (12 < (editsS (mapNo b.1 src) ed).length)
    · exact hm.1
    · exact fun _ h => by cases h
  · unfold commitP
    cases decide (12 < (editsS (mapNo b.1 src) ed).length)
    · exact ⟨hm.2.1, hm.2.2⟩
    · exact ⟨by simp, fun _ h => by cases h⟩
theorem joinP_sm {b : Ba} (hb : Sm tBa b) (hs : storeM b.1 = true) {other head : Nat} (h1 : 1 ≤ other) (h2 : other ≤ b.1.length) (h3 : 1 ≤ head) (h4 : head ≤ b.1.length) :
    Sm (.sl tEn) (joinP b.1 head other).2.1 ∧ Sm (.sl .str) (joinP b.1 head other).2.2.1 := by
  have k1 := ks_sm (mapNo_sm hb (baseNo b.1 head other))
  have k2 := ks_sm (mapNo_sm hb head)
  have k3 := ks_sm (mapNo_sm hb other)
  obtain ⟨g1, g2⟩ := baseNo_le60 hs h3 h4 h1 h2
  have q1 := (mapNo_ok hs g1 g2).2
  have q3 := (mapNo_ok hs h1 h2).2
  have hm := merge3_ks k1 k2 k3 (by omega) (by omega)
  have hl := joinP_len b.1 head other
  have hnil : Sm (.sl tEn) [] ∧ Sm (.sl .str) [] := ⟨⟨by simp, fun _ h => by cases h⟩, ⟨by simp, fun _ h => by cases h⟩⟩
  refine ⟨sm_ks ?_ (by omega), ?_⟩
  · unfold joinP
    cases baseNo b.1 head other == other
    · cases baseNo b.1 head other == head
      · exact hm.1
      · exact fun _ h => by cases h
    · exact fun _ h => by cases h
  · unfold joinP
    cases baseNo b.1 head other == other
    · cases baseNo b.1 head other == head
      · exact ⟨hm.2.1, hm.2.2⟩
      · exact hnil.2
    · exact hnil.2
theorem failR_sm (code : Int) {keys : List (List UInt8)} (h : Sm (.sl .str) keys) : Sm tRs (failR code keys) := ⟨trivial, trivial, trivial, h, ⟨by simp [failR], fun _ h => by cases h⟩⟩
theorem nilS : Sm (.sl .str) [] := ⟨by simp, fun _ h => by cases h⟩
theorem nilE : Sm (.sl tEn) [] := ⟨by simp, fun _ h => by cases h⟩
theorem setR_sm {xs : List Rf} (h : Sm (.sl tRf) xs) {i : Nat} (hi : i < xs.length) (hd : Int) (g : Bool) : Sm (.sl tRf) (setR xs i hd g) := by
  refine ⟨by unfold setR; simp; exact h.1, fun r hr => ?_⟩
  unfold setR at hr
  rcases List.mem_or_eq_of_mem_set hr with hr | rfl
  · exact h.2 r hr
  · have := h.2 (xs.getD i ([], 0, 0, false)) (by rw [getD_get hi]; exact List.getElem_mem _)
    exact ⟨this.1, trivial, trivial, trivial⟩
theorem createM_sm {xs : List Rf} (h : Sm (.sl tRf) xs) (h8 : xs.length ≤ 8) {s : List UInt8} (hs : s.length ≤ 1048576) (hd : Int) : Sm (.sl tRf) (createM xs s hd).1 := by
  unfold createM movedM
  rcases refAt_cases xs s with e | ⟨i, e, hi, _⟩
  · rw [e]
    simp only [show ¬ ((-1 : Int) ≥ 0) from by omega, decide_false, cond_false]
    cases (xs.length : Int) == 8
    · refine ⟨by simp; omega, fun r hr => ?_⟩
      rcases List.mem_append.1 hr with hr | hr
      · exact h.2 r hr
      · rw [List.mem_singleton.1 hr]; exact ⟨hs, trivial, trivial, trivial⟩
    · exact h
  · simp only [e, show ((i : Int) ≥ 0) from by omega, decide_true, cond_true, Int.toNat_natCast]
    cases (xs.getD i ([], 0, 0, false)).2.2.2 with
    | false => exact h
    | true =>
      cases (xs.getD i ([], 0, 0, false)).2.2.1 == 1000000
      · exact setR_sm h hi _ _
      · exact h
theorem advM_sm {b : Ba} (hb : Sm tBa b) (h60 : b.1.length ≤ 60) {i : Nat} (hi : i < b.2.length) {c : Cm} (hc : Sm tCm c) : Sm tBa (advM b i c).1 ∧ Sm tRs (advM b i c).2 := by
  unfold advM
  cases (b.1.length : Int) == 60 || (b.2.getD i ([], 0, 0, false)).2.2.1 == 1000000 with
  | true => exact ⟨hb, failR_sm 7 nilS⟩
  | false =>
    refine ⟨⟨⟨by simp; omega, fun x hx => ?_⟩, setR_sm hb.2 hi _ _⟩, ⟨trivial, trivial, trivial, nilS, nilE⟩⟩
    rcases List.mem_append.1 hx with hx | hx
    · exact hb.1.2 x hx
    · rw [List.mem_singleton.1 hx]; exact hc
theorem ed_ks {l : List Ed} (h : Sm (.sl tEd) l) : KS l := fun e he => (h.2 e he).1
theorem doM_sm {b : Ba} (hb : baseM b = true) (hB : Sm tBa b) {o : OpT} (ho : opM o = true) (hO : Sm tOp o) : Sm tBa (doM b o).1 ∧ Sm tRs (doM b o).2 := by
  obtain ⟨k1, k2, he, hw, f0, f1, f2⟩ := opM_facts ho
  have hs := baseM_store hb
  have hr : refsM b.2 = true := by
    unfold baseM at hb
    simp only [Bool.and_eq_true] at hb
    exact hb.1.2
  obtain ⟨_, _, h60, _⟩ := storeM_ok hs
  have hx := (refs_facts hr).1
  have ok0 : ∀ n, Sm tBa b ∧ Sm tRs (failR n []) := fun n => ⟨hB, failR_sm n nilS⟩
  unfold doM
  cases hfo : (o.1 == 1 || (o.1 == 3 || o.1 == 4)) && decide (o.2.1 > (b.1.length : Int)) with
  | true => exact ok0 5
  | false =>
    simp only [cond_false]
    cases e1 : o.1 == 1 with
    | true =>
      simp only [cond_true]
      cases (createM b.2 o.2.2.1 o.2.1).2 == 0
      · exact ok0 _
      · exact ⟨⟨hB.1, createM_sm hB.2 hx hO.2.2.1 _⟩, ⟨trivial, trivial, trivial, nilS, nilE⟩⟩
    | false =>
      simp only [cond_false]
      cases hl : liveB b.2 o.2.2.1 with
      | false => exact ok0 10
      | true =>
        obtain ⟨i, ei, hi, hg⟩ := liveB_facts hl
        obtain ⟨h, eh, h3, h4⟩ := live_head hb hi hg
        simp only [cond_true, ei, Int.toNat_natCast, eh]
        cases e2 : o.1 == 2 with
        | true =>
          simp only [cond_true]
          cases (b.2.getD i ([], 0, 0, false)).2.2.1 == 1000000
          · exact ⟨⟨hB.1, setR_sm hB.2 hi _ _⟩, ⟨trivial, trivial, trivial, nilS, nilE⟩⟩
          · exact ok0 7
        | false =>
          simp only [cond_false]
          cases e5 : o.1 == 5 with
          | true =>
            simp only [cond_true]
            cases (getP (mapNo b.1 h) o.2.2.2.1).2 == 0
            · exact ok0 5
            · exact ⟨hB, ⟨trivial, trivial, trivial, nilS, nilE⟩⟩
          | false =>
            simp only [cond_false]
            cases e6 : o.1 == 6 with
            | true => exact ⟨hB, ⟨trivial, trivial, trivial, nilS, mapNo_sm hB h⟩⟩
            | false =>
              simp only [cond_false]
              unfold writeM
              cases e3 : o.1 == 3 with
              | true =>
                have e3' : o.1 = 3 := by simpa using e3
                have hf : ¬ o.2.1 > (b.1.length : Int) := by
                  rw [e3'] at hfo
                  simpa using hfo
                obtain ⟨src, es, h1, h2⟩ : ∃ src : Nat, (bif o.2.1 == 0 then (h : Int) else o.2.1) = (src : Int) ∧ 1 ≤ src ∧ src ≤ b.1.length := by
                  cases hz : o.2.1 == 0 with
                  | true => exact ⟨h, rfl, h3, h4⟩
                  | false =>
                    have : ¬ o.2.1 = 0 := by simpa using hz
                    exact ⟨o.2.1.toNat, by simp only [cond_false]; omega, by omega, by omega⟩
                obtain ⟨m1, m2⟩ := commitP_sm hB hs h1 h2 h3 h4 (ed_ks hO.2.2.2.2)
                simp only [cond_true, eh, es, Int.toNat_natCast]
                cases (commitP b.1 src h o.2.2.2.2).2.2 == 0
                · exact ⟨hB, failR_sm _ m2⟩
                · exact advM_sm hB h60 hi ⟨⟨by simp, fun _ _ => trivial⟩, m1⟩
              | false =>
                have e4 : o.1 = 4 := by
                  have n1 : ¬ o.1 = 1 := by simpa using e1
                  have n2 : ¬ o.1 = 2 := by simpa using e2
                  have n3 : ¬ o.1 = 3 := by simpa using e3
                  have n5 : ¬ o.1 = 5 := by simpa using e5
                  have n6 : ¬ o.1 = 6 := by simpa using e6
                  omega
                obtain ⟨src, es, h1, h2⟩ : ∃ src : Nat, o.2.1 = (src : Int) ∧ 1 ≤ src ∧ src ≤ b.1.length := by
                  have hf : ¬ o.2.1 > (b.1.length : Int) := by
                    rw [e4] at hfo
                    simpa using hfo
                  have := f1 (.inr e4)
                  exact ⟨o.2.1.toNat, by omega, by omega, by omega⟩
                obtain ⟨m1, m2⟩ := joinP_sm hB hs h1 h2 h3 h4
                simp only [cond_false, eh, es, Int.toNat_natCast]
                cases (joinP b.1 h src).2.2.2 == 0
                · exact ⟨hB, failR_sm _ m2⟩
                · cases (joinP b.1 h src).1
                  · exact advM_sm hB h60 hi ⟨⟨by simp, fun _ _ => trivial⟩, m1⟩
                  · cases (b.2.getD i ([], 0, 0, false)).2.2.1 == 1000000
                    · exact ⟨⟨hB.1, setR_sm hB.2 hi _ _⟩, ⟨trivial, trivial, trivial, nilS, nilE⟩⟩
                    · exact ok0 7
def doOpM (b : Ba) (o : OpT) : Ba × Rs × Int := bif baseM b && opM o then ((doM b o).1, (doM b o).2, 0) else (([], []), (0, 0, 0, [], []), 1)
theorem wordM_len {l : List UInt8} (h : wordM l = true) : l.length ≤ 12 := by
  unfold wordM at h
  simp only [Bool.and_eq_true, decide_eq_true_eq] at h
  exact h.1.1.2
theorem key_ok (l : List UInt8) : l.length ≤ 65536 ∨ wordM l = false := by
  cases h : wordM l with
  | false => exact .inr rfl
  | true => have := wordM_len h; exact .inl (by omega)
theorem sDoOp_eq (hK : 9223372036854775807 < K) (b : Ba) (o : OpT) (hB : Sm tBa b) (hO : Sm tOp o) : R.qdf K b o = some (((doOpM b o).1, (doOpM b o).2.1, (doOpM b o).2.2, ()), ()) := by
  have hx := (ba_sm hB).2.2.1
  unfold R.qdf doOpM
  simp only [l05OK_eq hK b (by omega), l05Op_eq hK o, obind_some]
  cases hb : baseM b with
  | false => rfl
  | true =>
    cases ho : opM o with
    | false => rfl
    | true =>
      obtain ⟨s1, s2⟩ := doM_sm hb hB ho hO
      have q1 : Nat.ble (0 + (doM b o).2.2.2.2.1.length) 268435456 = true := Nat.ble_eq_true_of_le (by have := s2.2.2.2.1.1; omega)
      have q2 : Nat.ble (0 + (doM b o).2.2.2.2.2.length) 268435456 = true := Nat.ble_eq_true_of_le (by have := s2.2.2.2.2.1; omega)
      unfold R.qaA
      simp only [Bool.not_true, cond_false, l05Do_eq hK b hb o ho (key_ok _), obind_some, l05Own_eq hK _ (ba_sm s1), q1, q2, cond_true, Bool.and_self]
theorem iDoOp_eq (hK : 9223372036854775807 < K) (b : Ba) (o : OpT) (hB : Sm tBa b) (hO : Sm tOp o) : R.qdc K b o = some (((doOpM b o).1, (doOpM b o).2.1, (doOpM b o).2.2, ()), ()) := by
  obtain ⟨_, b2, b3, b4⟩ := ba_sm hB
  unfold R.qdc doOpM
  simp only [BaseOK_eq hK b (by omega) (fun c hc => by have := (b2 c hc).2; omega) (fun r hr => by have := b4 r hr; omega), OpOK_eq hK o (by have := hO.2.2.2.2.1; omega), obind_some]
  cases hb : baseM b with
  | false => rfl
  | true =>
    cases ho : opM o with
    | false => rfl
    | true =>
      obtain ⟨s1, s2⟩ := doM_sm hb hB ho hO
      simp only [Bool.not_true, cond_false, do_eq hK b hb (ba_sm hB) o ho, obind_some, Base_own_eq hK _ (ba_sm s1), cond_true, Bool.and_self]
theorem doOpM_sm {b : Ba} (hB : Sm tBa b) {o : OpT} (hO : Sm tOp o) : Sm tBa (doOpM b o).1 ∧ Sm tRs (doOpM b o).2.1 := by
  unfold doOpM
  cases hb : baseM b with
  | false => exact ⟨⟨⟨by simp, fun _ h => by cases h⟩, ⟨by simp, fun _ h => by cases h⟩⟩, ⟨trivial, trivial, trivial, nilS, nilE⟩⟩
  | true =>
    cases ho : opM o with
    | false => exact ⟨⟨⟨by simp, fun _ h => by cases h⟩, ⟨by simp, fun _ h => by cases h⟩⟩, ⟨trivial, trivial, trivial, nilS, nilE⟩⟩
    | true => exact doM_sm hb hB ho hO
theorem law_DoOp (hK : 9223372036854775807 < K) (b : Ba) (o : OpT) (g1 : Wd tBa b) (g2 : Wd tOp o) : R.laws_FnExactDoOp K b o = some ((true, ()), ()) := by
  obtain ⟨b1, b2⟩ := b
  obtain ⟨o1, o2, o3, o4, o5⟩ := o
  unfold R.laws_FnExactDoOp
  obtain ⟨z1, e1, l1, s1⟩ := szBase_ok hK (b1, b2) 1048576 (by omega) (by omega) g1
  simp only [e1, obind_some]
  by_cases hz1 : z1 < 0
  · simp only [hz1, decide_true, cond_true]
  have s1 := s1 (by omega)
  obtain ⟨z2, e2, l2, s2⟩ := szOp_ok hK (o1, o2, o3, o4, o5) z1 (by omega) (by omega) g2
  simp only [hz1, decide_false, cond_false, e2, obind_some]
  by_cases hz2 : z2 < 0
  · simp only [hz2, decide_true, cond_true]
  have s2 := s2 (by omega)
  have u1 := sDoOp_eq (K := K) hK (b1, b2) (o1, o2, o3, o4, o5) s1 s2
  have u2 := iDoOp_eq (K := K) hK (b1, b2) (o1, o2, o3, o4, o5) s1 s2
  obtain ⟨sr1, sr2⟩ := doOpM_sm s1 s2
  rcases hres : doOpM (b1, b2) (o1, o2, o3, o4, o5) with ⟨⟨r1, r2⟩, ⟨c1, c2, c3, c4, c5⟩, n⟩
  rw [hres] at u1 u2 sr1 sr2
  obtain ⟨k1, y1, m1, a1, d1⟩ := markBase_go hK (b1, b2) s1 1 (by omega) (by omega)
  obtain ⟨k2, y2, m2, a2, d2⟩ := markOp_go hK (o1, o2, o3, o4, o5) s2 k1 (by omega) (by omega)
  obtain ⟨k3, y3, m3, a3, d3, u3⟩ := markBase_ok hK (r1, r2) sr1 1 (by omega) (by omega)
  obtain ⟨k4, y4, m4, a4, d4, u4⟩ := markResult_ok hK (c1, c2, c3, c4, c5) sr2 k3 (by omega) (by omega)
  have n2 := lt0 (show 0 ≤ k2 by omega)
  have n3 := lt0 (show 0 ≤ k3 by omega)
  have n4 := lt0 (show 0 ≤ k4 by omega)
  have hh : ∀ (x y z k : Int), R.qaT K (x, y, z, y4.2.2.2.1, y4.2.2.2.2) k = R.qaT K y4 k := fun x y z k => by unfold R.qaT; rfl
  simp only [hz2, decide_false, cond_false, alt_self, dup_eq, toBase_id hK (b1, b2) s1, toOp_id hK (o1, o2, o3, o4, o5) s2, eqBase_id hK (b1, b2) s1, eqOp_id hK (o1, o2, o3, o4, o5) s2, eqBase_id hK (r1, r2) sr1, eqResult_id hK (c1, c2, c3, c4, c5) sr2, u1, u2, m1, m2, m3, m4, u3, u4, hh, n2, n3, n4, obind_some, beq_self_eq_true, Bool.not_true, bne_self_eq_false]
end Go.Proofs.Pure
