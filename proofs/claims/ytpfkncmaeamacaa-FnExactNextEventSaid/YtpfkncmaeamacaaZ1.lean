/- NextEvent of the program returns what the reference's NextEvent returns: for every input the law returns true and leaves its argument as it was. No condition. -/
import Derived.Test.YtpfkncmaeamacaaRows
import Derived.Test.YtpfkncmaeamacaaFwZi
import Derived.Test.YtpfkncmaeamacaaAS
import Derived.Test.YtpfkncmaeamacaaPc
import Derived.WalkKit
import Derived.ProofKit
import Derived.OpenShut
namespace Go.Proofs.Ytpfkncmaeamacaa
open Go Go.ChangeShapes Go.WideShapes Go.ChangeAt Go.RowKit

theorem own : ownKnob Try.prog.godebug = none := by kernel_rfl
theorem laid : laidOutB Try.prog = true := by kernel_rfl

set_option maxRecDepth 100000 in
theorem lifted (os : Os) (started : os.Started) (H : Type) (enc : TypeId × Value → H) :
    ReturnsInHanded {} Try.checked os 3 .any (Rows.fnExactNextEventSpec.pre6 enc Try.prog Try.f3 Rows.fnExactNextEventRow.domain false) (Rows.fnExactNextEventSpec.post enc Try.prog Try.f3 false true false false) := by
  refine returnsInHanded_of_change (C := Try.checked) own started (by kernel_rfl) Try.func3
    (ChangeSpec.witness6 (enc := enc) (C := Try.checked) false ⟨#[], #[.agg #[.string ⟨#[]⟩, .int .i64 0, .slice none 0 0]], []⟩ 8 (by kernel_rfl) (by kernel_rfl) (by kernel_rfl) (by kernel_rfl)) ?_
  intro W base args ds gs before hval hW _ _
  refine Fw.law_contract (n := 8) (T := 4) laid (by kernel_rfl) (by kernel_rfl) (ins := (Sg.s_laws_FnExactNextEvent 9223372036854775808).ins) (by kernel_rfl) rfl (fun ds h => ?_) (ok_laws_FnExactNextEvent 9223372036854775808) (fun x hx => ?_) W base args ds gs before hval hW
  · match ds, h with
    | [d], _ => rfl
  · refine ⟨(), Pure.law_NextEvent (by omega) x.1 hx.1.1 hx.1.2.2.1 (fun y hy => ?_)⟩
    exact (hx.1.2.2.2 y hy).1

theorem over : Rows.fnExactNextEventRow.holds Try.pinned (OpenSpec.ofChange Rows.fnExactNextEventSpec) :=
  OpenClaim.holds_of_wide 3 Try.f3 rfl rfl rfl rfl rfl rfl rfl ⟨rfl, rfl, rfl, rfl, rfl⟩ rfl rfl rfl rfl rfl (by kernel_rfl) Try.func3 (by kernel_rfl)
    (of_decide_eq_true (by kernel_rfl)) (by unfold Func.isWrapper; first | (rw [if_pos (by decide +kernel)]; kernel_rfl) | (rw [if_neg (by decide +kernel)]; exact ⟨rfl, rfl⟩))
    (fun os started H enc _ => lifted os started H enc)

theorem nextEvent : Rows.FnExactNextEventSaid := over
#print axioms nextEvent
end Go.Proofs.Ytpfkncmaeamacaa
