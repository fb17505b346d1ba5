/- Plain lemmas on what the functions come to. -/
import Derived.Test.YtpfkncmaeamacabP10laws
namespace Go.Proofs.Pure
open Go Fw
set_option linter.all false
set_option maxRecDepth 100000
variable {K : Nat}

theorem wordM_len {t : List UInt8} (h : wordM t = true) : 1 ≤ t.length ∧ t.length ≤ 12 := by
  unfold wordM at h
  simp only [Bool.and_eq_true, decide_eq_true_eq] at h
  exact ⟨h.1.1.1, h.1.1.2⟩

/-- all of a list, told by its indices -/
theorem all_getD {α : Type} {p : Nat → Bool} {d : α} {xs : List α} {q : α → Prop} (h : (List.range' 0 xs.length).all p = true) (hq : ∀ i, i < xs.length → p i = true → q (xs.getD i d)) : ∀ x ∈ xs, q x := fun x hx => by
  obtain ⟨i, hi, rfl⟩ := List.mem_iff_getElem.1 hx
  have := hq i hi (List.all_eq_true.1 h i (by simp; omega))
  rw [List.getD_eq_getElem?_getD, List.getElem?_eq_getElem hi] at this
  exact this

theorem mapM_in {m : List En} (h : mapM m = true) : m.length ≤ 12 ∧ ∀ e ∈ m, e.1.length ≤ 12 ∧ -1000000 ≤ e.2 ∧ e.2 ≤ 1000000 := by
  unfold mapM at h
  simp only [Bool.and_eq_true, decide_eq_true_eq] at h
  refine ⟨h.1, all_getD (d := ([], 0)) h.2 fun i hi he => ?_⟩
  unfold entOK inV at he
  simp only [Bool.and_eq_true, decide_eq_true_eq] at he
  exact ⟨(wordM_len he.1.1).2, he.1.2.1, he.1.2.2⟩

theorem parM_in {n : Nat} {ps : List Int} (hl : ps.length ≤ 2) (h : parM n ps = true) : ∀ p ∈ ps, 1 ≤ p ∧ p ≤ (n : Int) := by
  match ps with
  | [] => simp
  | [p] =>
    simp only [parM, Bool.and_eq_true, decide_eq_true_eq] at h
    simpa using h
  | [p, q] =>
    simp only [parM, Bool.and_eq_true, decide_eq_true_eq] at h
    simpa using h.1
  | _ :: _ :: _ :: _ => simp at hl

theorem commitM_in {n : Nat} {c : Cm} (hn : n ≤ 60) (h : commitM n c = true) : CmS c := by
  unfold commitM at h
  simp only [Bool.and_eq_true, decide_eq_true_eq] at h
  have m := mapM_in h.1.1.1
  exact ⟨h.1.1.2, fun p hp => by have := parM_in h.1.1.2 h.2 p hp; omega, m.1, m.2⟩

theorem refGood_in {r : Rf} (h : refGood r = true) : RfS r := by
  unfold refGood at h
  simp only [Bool.and_eq_true, decide_eq_true_eq] at h
  refine ⟨(wordM_len h.1.1).2, by omega, ?_⟩
  cases e : r.2.2.2
  · simp only [e, cond_false, Bool.and_eq_true, decide_eq_true_eq] at h
    omega
  · simp only [e, cond_true, beq_iff_eq] at h
    omega

theorem baseM_in {b : Ba} (h : baseM b = true) : BaS b := by
  unfold baseM storeM refsM at h
  simp only [Bool.and_eq_true, decide_eq_true_eq] at h
  obtain ⟨⟨⟨⟨h1, h2⟩, h3⟩, ⟨h4, h5⟩⟩, h6⟩ := h
  refine ⟨h2, all_getD (d := ([], [])) h3 fun i hi he => commitM_in (by omega) he, h4, all_getD (d := ([], 0, 0, false)) h5 fun i hi he => ?_⟩
  simp only [Bool.and_eq_true] at he
  exact refGood_in he.1

def encBaseM (b : Ba) : List UInt8 × Int := bif baseM b then (baseEnc b, 0) else ([], 1)

theorem spec_EncodeBase_eq (hK : 9223372036854775807 < K) (b : Ba) (hx : b.2.length ≤ 9223372036854775807) : R.spec_EncodeBase K b = some (((encBaseM b).1, (encBaseM b).2, ()), ()) := by
  unfold R.spec_EncodeBase encBaseM
  rw [l05OK_eq hK b hx]
  cases h : baseM b
  · rfl
  · simp only [obind_some, spec_baseEnc hK b (baseM_in h), Bool.not_true, cond_false, cond_true]

theorem impl_EncodeBase_eq (hK : 9223372036854775807 < K) (b : Ba) (hx : b.2.length ≤ 9223372036854775807) (hw : ∀ c ∈ b.1, c.2.length ≤ 9223372036854775807) (hn : ∀ r ∈ b.2, r.1.length ≤ 9223372036854775807) : R.impl_EncodeBase K b = some (((encBaseM b).1, (encBaseM b).2, ()), ()) := by
  unfold R.impl_EncodeBase encBaseM
  rw [BaseOK_eq hK b hx hw hn]
  cases h : baseM b
  · rfl
  · simp only [obind_some, impl_baseEnc hK b (baseM_in h), Bool.not_true, cond_false, cond_true]

abbrev tEn : Ty := .pair .str (.int .i64)

abbrev tCm : Ty := .pair (.sl (.int .i64)) (.sl tEn)

abbrev tRf : Ty := .pair .str (.pair (.int .i64) (.pair (.int .i64) .bool))

abbrev tBa : Ty := .pair (.sl tCm) (.sl tRf)

theorem law_EncodeBase (hK : 9223372036854775807 < K) (b : Ba) (hw : Wd tBa b) : R.laws_FnExactEncodeBase K b = some ((true, ()), ()) := by
  unfold R.laws_FnExactEncodeBase
  obtain ⟨z, e, l, s⟩ := szBase_ok hK b 1048576 (by omega) (by omega) hw
  simp only [e, obind_some]
  by_cases hz : z < 0
  · simp only [hz, decide_true, cond_true]
  · have sm := s (by omega)
    have e1 := spec_EncodeBase_eq hK b hw.2.1
    have e2 := impl_EncodeBase_eq hK b hw.2.1 (fun c hc => (hw.1.2 c hc).2.1) (fun r hr => (hw.2.2 r hr).1)
    simp only [hz, decide_false, cond_false, toBase_id hK b sm, eqBase_id hK b sm, e1, e2, obind_some, beq_self_eq_true, Bool.not_true, bne_self_eq_false]
end Go.Proofs.Pure
