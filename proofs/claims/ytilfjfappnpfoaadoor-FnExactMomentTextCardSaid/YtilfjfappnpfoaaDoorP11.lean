/- Plain lemmas on what the functions come to. -/
import Derived.Test.YtilfjfappnpfoaaDoorP10laws
namespace Go.Proofs.Pure
open Go Fw
set_option linter.all false
set_option maxRecDepth 100000
variable {K : Nat}

theorem wordM_len {t : List UInt8} (h : wordM t = true) : 1 ≤ t.length ∧ t.length ≤ 12 := by
  unfold wordM at h
  simp only [Bool.and_eq_true, decide_eq_true_eq] at h
  exact ⟨h.1.1.1, h.1.1.2⟩

/-- all of a list, told by its indices -/
theorem all_getD {α : Type} {p : Nat → Bool} {d : α} {xs : List α} {q : α → Prop} (h : (List.range' 0 xs.length).all p = true) (hq : ∀ i, i < xs.length → p i = true → q (xs.getD i d)) : ∀ x ∈ xs, q x := fun x hx => by
  obtain ⟨i, hi, rfl⟩ := List.mem_iff_getElem.1 hx
  have := hq i hi (List.all_eq_true.1 h i (by simp; omega))
  rw [List.getD_eq_getElem?_getD, List.getElem?_eq_getElem hi] at this
  exact this

theorem mapM_in {m : List En} (h : mapM m = true) : m.length ≤ 12 ∧ ∀ e ∈ m, e.1.length ≤ 12 ∧ -1000000 ≤ e.2 ∧ e.2 ≤ 1000000 := by
  unfold mapM at h
  simp only [Bool.and_eq_true, decide_eq_true_eq] at h
  refine ⟨h.1, all_getD (d := ([], 0)) h.2 fun i hi he => ?_⟩
  unfold entOK inV at he
  simp only [Bool.and_eq_true, decide_eq_true_eq] at he
  exact ⟨(wordM_len he.1.1).2, he.1.2.1, he.1.2.2⟩

abbrev tEn : Ty := .pair .str (.int .i64)
end Go.Proofs.Pure
