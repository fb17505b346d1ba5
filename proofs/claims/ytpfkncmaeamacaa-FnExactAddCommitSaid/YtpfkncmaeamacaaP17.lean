/- Plain lemmas on what the functions come to. -/
import Derived.Test.YtpfkncmaeamacaaP14
namespace Go.Proofs.Pure
open Go Fw
set_option linter.all false
set_option maxRecDepth 100000
variable {K : Nat}

theorem Clone_int_eq (xs : List Int) (hx : xs.length ≤ 268435456) : R.slices_Clone_int K xs = some ((xs, ()), ()) := by
  unfold R.slices_Clone_int
  cases xs with
  | nil =>
    simp [alt]
    rfl
  | cons a r =>
    have : Nat.ble (0 + (a :: r).length) 268435456 = true := Nat.ble_eq_true_of_le (by simpa using hx)
    simp only [List.isEmpty_cons, cond_false, this, cond_true]

theorem Clone_En_eq (xs : List En) (hx : xs.length ≤ 268435456) : R.slices_Clone_impl_Entry K xs = some ((xs, ()), ()) := by
  unfold R.slices_Clone_impl_Entry
  cases xs with
  | nil =>
    simp [alt]
    rfl
  | cons a r =>
    have : Nat.ble (0 + (a :: r).length) 268435456 = true := Nat.ble_eq_true_of_le (by simpa using hx)
    simp only [List.isEmpty_cons, cond_false, this, cond_true]

/-- a commit of no more than so many parents and keys -/
def CmB (c : Cm) : Prop := c.1.length ≤ 1048576 ∧ c.2.length ≤ 1048576

theorem Commit_own_eq (c : Cm) (h : CmB c) : R.impl_Commit_own K c = some ((c, ()), ()) := by
  unfold R.impl_Commit_own
  have h1 : c.1.length ≤ 1048576 := h.1
  have h2 : c.2.length ≤ 1048576 := h.2
  rw [Clone_int_eq _ (by omega), Clone_En_eq _ (by omega)]
  rfl

theorem l03Own_eq (c : Cm) (h : CmB c) : R.spec_l03Own K c = some ((c, ()), ()) := by
  unfold R.spec_l03Own
  have h1 : c.1.length ≤ 1048576 := h.1
  have h2 : c.2.length ≤ 1048576 := h.2
  have e1 : Nat.ble (0 + c.1.length) 268435456 = true := Nat.ble_eq_true_of_le (by omega)
  have e2 : Nat.ble (0 + c.2.length) 268435456 = true := Nat.ble_eq_true_of_le (by omega)
  simp only [e1, e2, cond_true, dup_eq, alt_self, obind_some]

theorem map_range_getD {α : Type} (d : α) (s : List α) : (List.range' 0 s.length).map (fun i => s.getD i d) = s := by
  apply List.ext_getElem (by simp)
  intro i h1 h2
  simp [List.getD_eq_getElem?_getD, h2]

theorem ownStore_eq (hK : 9223372036854775807 < K) (s : List Cm) (hs : s.length ≤ 1048576) (h : ∀ c ∈ s, CmB c) : R.impl_ownStore K s = some ((s, ()), ()) := by
  have := app_ok (L := fun n i ys => R.L_impl_ownStore_0 K n (s, (s.length : Nat), (i : Nat), [], ys, ())) (len := s.length) (g := fun i => s.getD i ([], [])) (fin := fun ys => Sum.inl ([], ys, ()))
    (fun n ys => by simp only [R.L_impl_ownStore_0, idx_end, cond_false])
    (fun n i ys hi hy => by
      have hb : Nat.ble (ys.length + [s.getD i ([], [])].length) 268435456 = true := Nat.ble_eq_true_of_le (by simp; omega)
      simp only [R.L_impl_ownStore_0, idx_lt hi, idx_nn, Bool.and_self, Int.toNat_natCast, cond_true, Commit_own_eq _ (h _ (getD_mem _ hi)), obind_some, hb, wrap_succ hi (by omega)]) s.length 0 K [] (by omega) (by omega) (by simp)
  rw [map_range_getD, List.nil_append] at this
  have this : R.L_impl_ownStore_0 K K (s, (s.length : Int), 0, [], [], ()) = some (Sum.inl ([], s, ())) := this
  unfold R.impl_ownStore
  simp only [this, obind_some]

theorem l03Copy_eq (hK : 9223372036854775807 < K) (s : List Cm) (hs : s.length ≤ 1048576) (h : ∀ c ∈ s, CmB c) : R.spec_l03Copy K s = some ((s, ()), ()) := by
  have := app_ok (L := fun n i ys => R.L_spec_l03Copy_0 K n (s, (i : Nat), [], ys, ())) (len := s.length) (g := fun i => s.getD i ([], [])) (fin := fun ys => Sum.inl ([], ys, ()))
    (fun n ys => by simp only [R.L_spec_l03Copy_0, idx_end, cond_false])
    (fun n i ys hi hy => by
      have hb : Nat.ble (ys.length + [s.getD i ([], [])].length) 268435456 = true := Nat.ble_eq_true_of_le (by simp; omega)
      simp only [R.L_spec_l03Copy_0, idx_lt hi, idx_nn, Bool.and_self, Int.toNat_natCast, cond_true, l03Own_eq _ (h _ (getD_mem _ hi)), obind_some, hb, wrap_succ hi (by omega)]) s.length 0 K [] (by omega) (by omega) (by simp)
  rw [map_range_getD, List.nil_append] at this
  have this : R.L_spec_l03Copy_0 K K (s, 0, [], [], ()) = some (Sum.inl ([], s, ())) := this
  unfold R.spec_l03Copy
  simp only [this, obind_some]

def addM (s : List Cm) (c : Cm) : List Cm × Int × Int :=
  if ¬ s.length ≤ 4096 then ([], 0, 2) else if ((decide (s.length = 0) || storeM s) && commitM s.length c) = true then (if s.length = 60 then (s, 0, 7) else (s ++ [c], (s.length : Int) + 1, 0)) else ([], 0, 1)

theorem len60 {n : Nat} : ((n : Int) == 60) = decide (n = 60) := by
  rw [Bool.eq_iff_iff]; simp; omega

theorem wrap_lenS {n : Nat} (h : n ≤ 1048576) : IntKind.i64.wrap ((n : Int) + 1) = (n : Int) + 1 := wrap_id (by omega) (by omega)

theorem len4096 {n : Nat} : decide ((n : Int) > 4096) = !decide (n ≤ 4096) := by
  rw [Bool.eq_iff_iff]; simp; omega

theorem le4096 {n : Nat} : decide ((n : Int) ≤ 4096) = decide (n ≤ 4096) := by
  rw [Bool.eq_iff_iff]; simp; omega

theorem spec_AddCommit_eq (hK : 9223372036854775807 < K) (s : List Cm) (c : Cm) (hs : s.length ≤ 1048576) (h : ∀ c ∈ s, CmB c) (hc : CmB c) :
    R.spec_AddCommit K s c = some (((addM s c).1, (addM s c).2.1, (addM s c).2.2, ()), ()) := by
  unfold R.spec_AddCommit addM
  by_cases h0 : s.length ≤ 4096
  · have hb : Nat.ble (s.length + [c].length) 268435456 = true := Nat.ble_eq_true_of_le (by simp; omega)
    simp only [len4096, h0, decide_true, Bool.not_true, cond_false, not_true_eq_false, if_false, gt0, l03Commit_eq hK, l03OK_eq hK, obind_some, len60, l03Copy_eq hK s hs h, l03Own_eq c hc, hb, cond_true, wrap_lenS hs]
    cases decide (s.length = 0) <;> cases storeM s <;> cases commitM s.length c <;> by_cases h60 : s.length = 60 <;> simp [h60]
  · simp only [len4096, h0, decide_false, Bool.not_false, cond_true, not_false_eq_true, if_true]

theorem areStore {s : List Cm} : (decide (s.length ≤ 60) && (List.range' 0 s.length).all fun i => commitM i (s.getD i ([], []))) = (decide (s.length = 0) || storeM s) := by
  unfold storeM
  by_cases h : s.length = 0
  · rw [h]; simp
  · have : 1 ≤ s.length := by omega
    simp [h, this]

theorem impl_AddCommit_eq (hK : 9223372036854775807 < K) (s : List Cm) (c : Cm) (hs : s.length ≤ 1048576) (h : ∀ c ∈ s, CmB c) (hc : CmB c) :
    R.impl_AddCommit K s c = some (((addM s c).1, (addM s c).2.1, (addM s c).2.2, ()), ()) := by
  unfold R.impl_AddCommit addM
  have hc2 : c.2.length ≤ 1048576 := hc.2
  by_cases h0 : s.length ≤ 4096
  · have hb : Nat.ble (s.length + [c].length) 268435456 = true := Nat.ble_eq_true_of_le (by simp; omega)
    simp only [le4096, h0, decide_true, Bool.not_true, cond_false, not_true_eq_false, if_false, areCommits_eq hK s h0 (fun c hc => by have : c.2.length ≤ 1048576 := (h c hc).2; omega), areStore, obind_some, wrap_lenS hs, isAt_eq hK c (by omega) s.length (by omega), len60, ownStore_eq hK s hs h, Commit_own_eq c hc, hb, cond_true]
    cases decide (s.length = 0) <;> cases storeM s <;> cases commitM s.length c <;> by_cases h60 : s.length = 60 <;> simp [h60]
  · simp only [le4096, h0, decide_false, Bool.not_false, cond_true, not_false_eq_true, if_true]

theorem addM_sm {s : List Cm} {c : Cm} (hs : Sm (.sl tCm) s) (hc : Sm tCm c) : Sm (.sl tCm) (addM s c).1 := by
  have hn : Sm (.sl tCm) [] := ⟨by simp, by simp⟩
  unfold addM
  split
  · exact hn
  · split
    · split
      · exact hs
      · rename_i h0 h1 h2
        have hl : s.length ≤ 4096 := by omega
        refine ⟨by simp; omega, fun x hx => ?_⟩
        rcases List.mem_append.1 hx with hx | hx
        · exact hs.2 x hx
        · simp at hx; rw [hx]; exact hc
    · exact hn

theorem law_AddCommit (hK : 9223372036854775807 < K) (s : List Cm) (c : Cm) (hw : Wd (.sl tCm) s) (hw' : Wd tCm c) : R.laws_FnExactAddCommit K s c = some ((true, ()), ()) := by
  unfold R.laws_FnExactAddCommit
  obtain ⟨z, e, l, sm⟩ := szCommitS_ok hK s 1048576 (by omega) (by omega) hw
  simp only [e, obind_some]
  by_cases hz : z < 0
  · simp only [hz, decide_true, cond_true]
  have sm := sm (by omega)
  obtain ⟨z', e', l', sm'⟩ := szCommit_ok hK c z (by omega) (by omega) hw'
  simp only [hz, decide_false, cond_false, e', obind_some]
  by_cases hz' : z' < 0
  · simp only [hz', decide_true, cond_true]
  have sm' := sm' (by omega)
  have hS : ∀ c ∈ s, CmB c := fun c hc => ⟨(sm.2 c hc).1.1, (sm.2 c hc).2.1⟩
  have hC : CmB c := ⟨sm'.1.1, sm'.2.1⟩
  have e1 := spec_AddCommit_eq hK s c sm.1 hS hC
  have e2 := impl_AddCommit_eq hK s c sm.1 hS hC
  have smr := addM_sm sm sm'
  obtain ⟨k1, y1, m1, a1, b1⟩ := markCommitS_go hK s sm 1 (by omega) (by omega)
  obtain ⟨k2, y2, m2, a2, b2⟩ := markCommit_go hK c sm' k1 (by omega) (by omega)
  obtain ⟨k3, y3, m3, a3, b3, u3⟩ := markCommitS_ok hK (addM s c).1 smr 1 (by omega) (by omega)
  have n2 := lt0 (show 0 ≤ k2 by omega)
  have n3 := lt0 (show 0 ≤ k3 by omega)
  simp only [hz', decide_false, cond_false, toCommitS_id hK s sm, toCommit_id hK c sm', eqCommitS_id hK s sm, eqCommit_id hK c sm', eqCommitS_id hK _ smr, e1, e2, m1, m2, m3, u3, n2, n3, obind_some, beq_self_eq_true, Bool.not_true, bne_self_eq_false]
end Go.Proofs.Pure
