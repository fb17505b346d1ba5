/- Plain lemmas on what the functions come to. -/
import Derived.Test.YtilfjfappnpfoaaGreatDoorP10marks
namespace Go.Proofs.Pure
open Go Fw
set_option linter.all false
set_option maxRecDepth 100000
variable {K : Nat}

theorem wordM_len {t : List UInt8} (h : wordM t = true) : 1 ≤ t.length ∧ t.length ≤ 12 := by
  unfold wordM at h
  simp only [Bool.and_eq_true, decide_eq_true_eq] at h
  exact ⟨h.1.1.1, h.1.1.2⟩

/-- all of a list, told by its indices -/
theorem all_getD {α : Type} {p : Nat → Bool} {d : α} {xs : List α} {q : α → Prop} (h : (List.range' 0 xs.length).all p = true) (hq : ∀ i, i < xs.length → p i = true → q (xs.getD i d)) : ∀ x ∈ xs, q x := fun x hx => by
  obtain ⟨i, hi, rfl⟩ := List.mem_iff_getElem.1 hx
  have := hq i hi (List.all_eq_true.1 h i (by simp; omega))
  rw [List.getD_eq_getElem?_getD, List.getElem?_eq_getElem hi] at this
  exact this

theorem mapM_in {m : List En} (h : mapM m = true) : m.length ≤ 12 ∧ ∀ e ∈ m, e.1.length ≤ 12 ∧ -1000000 ≤ e.2 ∧ e.2 ≤ 1000000 := by
  unfold mapM at h
  simp only [Bool.and_eq_true, decide_eq_true_eq] at h
  refine ⟨h.1, all_getD (d := ([], 0)) h.2 fun i hi he => ?_⟩
  unfold entOK inV at he
  simp only [Bool.and_eq_true, decide_eq_true_eq] at he
  exact ⟨(wordM_len he.1.1).2, he.1.2.1, he.1.2.2⟩

theorem parM_in {n : Nat} {ps : List Int} (hl : ps.length ≤ 2) (h : parM n ps = true) : ∀ p ∈ ps, 1 ≤ p ∧ p ≤ (n : Int) := by
  match ps with
  | [] => simp
  | [p] =>
    simp only [parM, Bool.and_eq_true, decide_eq_true_eq] at h
    simpa using h
  | [p, q] =>
    simp only [parM, Bool.and_eq_true, decide_eq_true_eq] at h
    simpa using h.1
  | _ :: _ :: _ :: _ => simp at hl

theorem commitM_in {n : Nat} {c : Cm} (hn : n ≤ 60) (h : commitM n c = true) : CmS c := by
  unfold commitM at h
  simp only [Bool.and_eq_true, decide_eq_true_eq] at h
  have m := mapM_in h.1.1.1
  exact ⟨h.1.1.2, fun p hp => by have := parM_in h.1.1.2 h.2 p hp; omega, m.1, m.2⟩

theorem refGood_in {r : Rf} (h : refGood r = true) : RfS r := by
  unfold refGood at h
  simp only [Bool.and_eq_true, decide_eq_true_eq] at h
  refine ⟨(wordM_len h.1.1).2, by omega, ?_⟩
  cases e : r.2.2.2
  · simp only [e, cond_false, Bool.and_eq_true, decide_eq_true_eq] at h
    omega
  · simp only [e, cond_true, beq_iff_eq] at h
    omega

theorem baseM_in {b : Ba} (h : baseM b = true) : BaS b := by
  unfold baseM storeM refsM at h
  simp only [Bool.and_eq_true, decide_eq_true_eq] at h
  obtain ⟨⟨⟨⟨h1, h2⟩, h3⟩, ⟨h4, h5⟩⟩, h6⟩ := h
  refine ⟨h2, all_getD (d := ([], [])) h3 fun i hi he => commitM_in (by omega) he, h4, all_getD (d := ([], 0, 0, false)) h5 fun i hi he => ?_⟩
  simp only [Bool.and_eq_true] at he
  exact refGood_in he.1

abbrev tEn : Ty := .pair .str (.int .i64)

abbrev tCm : Ty := .pair (.sl (.int .i64)) (.sl tEn)

abbrev tRf : Ty := .pair .str (.pair (.int .i64) (.pair (.int .i64) .bool))

abbrev tBa : Ty := .pair (.sl tCm) (.sl tRf)
end Go.Proofs.Pure
