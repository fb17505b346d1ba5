/- Handy: a configuration's facts, one by one. -/
import Derived.Test.YtjblmapbompclaaGreatFwZe
import Derived.KernelRfl
set_option linter.all false
namespace Go.Proofs.Fw
open Go
variable [GInv]
theorem callable_of {P : Program} {g : Nat} {fn : Func} (hf : P.funcs[g]? = some fn) (hn : (fn.name == "runtime.NumGoroutine") = false) (hb : fn.body.isNone = false) : Callable P g := fun args w => by
  simp only [callFunc, Sem.run_bind, run_program, Result.andThen_ok, hf, hn, hb, Bool.false_eq_true, if_false, Sem.run_pure]
def SigAll (P : Program) : List (Nat × Sig) → Prop
  | [] => True
  | q :: r => Ok P q.1 q.2 ∧ SigAll P r
def InlAll (P : Program) : List (Nat × Func) → Prop
  | [] => True
  | q :: r => (P.funcs[q.1]? = some q.2 ∧ Callable P q.1) ∧ InlAll P r
def bodyAt (fn : Func) (li : Nat) : Code := match fn.body with
  | some b => (match loopAt b li with | some x => x | none => .skip)
  | none => .skip
noncomputable def dup {α : Type} (x : Option α) : Option α := alt x x
theorem dup_eq {α : Type} (x : Option α) : dup x = x := by simp [dup, alt]
def LoAll (c : Cfg) (g0 : Nat) (fn0 : Func) : List LSpec → Prop
  | [] => True
  | s :: r => (∃ fn whole body, (bif Nat.beq s.g g0 then some fn0 else assoc s.g c.inl) = some fn ∧ fn.body = some whole ∧ loopAt whole s.li = some body ∧ LoopEq c (handler c s.lv) ⟨s.b, fn.ntmps, s.g, s.lv, s.l0⟩ body s) ∧ LoAll c g0 fn0 r
theorem SigAll.get {P : Program} {g : Nat} {s : Sig} : ∀ {l : List (Nat × Sig)}, SigAll P l → (g, s) ∈ l → Ok P g s
  | [], _, h => by cases h
  | (j, t) :: r, ⟨h1, h2⟩, h => by
    rcases List.mem_cons.1 h with e | h
    · simp only [Prod.mk.injEq] at e
      rw [e.1, e.2]; exact h1
    · exact SigAll.get h2 h
theorem InlAll.get {P : Program} {g : Nat} {fn : Func} : ∀ {l : List (Nat × Func)}, InlAll P l → assoc g l = some fn → P.funcs[g]? = some fn ∧ Callable P g
  | [], _, h => by simp [assoc] at h
  | (j, t) :: r, ⟨h1, h2⟩, h => by
    simp only [assoc] at h
    cases e : Nat.beq j g
    · rw [e] at h; exact InlAll.get h2 (by simpa using h)
    · rw [e] at h
      simp at h
      rw [← h, ← Nat.eq_of_beq_eq_true e]; exact h1
theorem LoAll.get {c : Cfg} {g0 : Nat} {fn0 : Func} : ∀ {l : List LSpec}, LoAll c g0 fn0 l → ∀ s ∈ l, ∃ fn whole body, (bif Nat.beq s.g g0 then some fn0 else assoc s.g c.inl) = some fn ∧ fn.body = some whole ∧ loopAt whole s.li = some body ∧ LoopEq c (handler c s.lv) ⟨s.b, fn.ntmps, s.g, s.lv, s.l0⟩ body s
  | [], _, s, h => by cases h
  | x :: r, ⟨h1, h2⟩, s, h => by
    rcases List.mem_cons.1 h with rfl | h
    · exact h1
    · exact LoAll.get h2 s h
end Go.Proofs.Fw
