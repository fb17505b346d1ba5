/- DecodeBase of the program returns what the reference's DecodeBase returns: for every input the law returns true and leaves its arguments as they were. No condition. -/
import Derived.Test.YtfcldjomdbepjaaRows
import Derived.Test.YtfcldjomdbepjaaFwZi
import Derived.Test.YtfcldjomdbepjaaAS
import Derived.Test.YtfcldjomdbepjaaP19
import Derived.WalkKit
import Derived.ProofKit
import Derived.OpenShut
namespace Go.Proofs.Ytfcldjomdbepjaa
open Go Go.ChangeShapes Go.WideShapes Go.ChangeAt Go.RowKit

theorem own : ownKnob Try.prog.godebug = none := by kernel_rfl
theorem laid : laidOutB Try.prog = true := by kernel_rfl

set_option maxRecDepth 100000 in
theorem lifted (os : Os) (started : os.Started) (H : Type) (enc : TypeId × Value → H) :
    ReturnsInHanded {} Try.checked os 3 .any (Rows.fnExactDecodeBaseSpec.pre6 enc Try.prog Try.f3 Rows.fnExactDecodeBaseRow.domain false) (Rows.fnExactDecodeBaseSpec.post enc Try.prog Try.f3 false true false false) := by
  refine returnsInHanded_of_change (C := Try.checked) own started (by kernel_rfl) Try.func3
    (ChangeSpec.witness6 (enc := enc) (C := Try.checked) false ⟨#[], #[.string ⟨#[]⟩], []⟩ 8 (by kernel_rfl) (by kernel_rfl) (by kernel_rfl) (by kernel_rfl)) ?_
  intro W base args ds gs before hval hW _ _
  refine Fw.law_contract (n := 8) (T := 4) laid (by kernel_rfl) (by kernel_rfl) (ins := (Sg.s_laws_FnExactDecodeBase 9223372036854775808).ins) (by kernel_rfl) rfl (fun ds h => ?_) (ok_laws_FnExactDecodeBase 9223372036854775808) (fun x hx => ?_) W base args ds gs before hval hW ⟨trivial, fun _ h => h.elim⟩
  · match ds, h with
    | [d0], _ => rfl
  · refine ⟨(), ?_⟩
    exact Pure.law_DecodeBase (by omega) x.1

theorem over : Rows.fnExactDecodeBaseRow.holds Try.pinned (OpenSpec.ofChange Rows.fnExactDecodeBaseSpec) :=
  OpenClaim.holds_of_wide 3 Try.f3 rfl rfl rfl rfl rfl rfl rfl ⟨rfl, rfl, rfl, rfl, rfl⟩ rfl rfl rfl rfl rfl (by kernel_rfl) Try.func3 (by kernel_rfl)
    (of_decide_eq_true (by kernel_rfl)) (by unfold Func.isWrapper; first | (rw [if_pos (by decide +kernel)]; kernel_rfl) | (rw [if_neg (by decide +kernel)]; exact ⟨rfl, rfl⟩))
    (fun os started H enc _ => lifted os started H enc)

theorem decodeBase : Rows.FnExactDecodeBaseSaid := over
#print axioms decodeBase
end Go.Proofs.Ytfcldjomdbepjaa
