/- AddCommit of the program returns what the reference's AddCommit returns: for every input the law returns true and leaves its arguments as they were. No condition. -/
import Derived.Test.YtpfkncmaeamacaaRows
import Derived.Test.YtpfkncmaeamacaaFwZi
import Derived.Test.YtpfkncmaeamacaaAS
import Derived.Test.YtpfkncmaeamacaaP17
import Derived.WalkKit
import Derived.ProofKit
import Derived.OpenShut
namespace Go.Proofs.Ytpfkncmaeamacaa
open Go Go.ChangeShapes Go.WideShapes Go.ChangeAt Go.RowKit

theorem own : ownKnob Try.prog.godebug = none := by kernel_rfl
theorem laid : laidOutB Try.prog = true := by kernel_rfl

set_option maxRecDepth 100000 in
theorem lifted (os : Os) (started : os.Started) (H : Type) (enc : TypeId × Value → H) :
    ReturnsInHanded {} Try.checked os 6 .any (Rows.fnExactAddCommitSpec.pre6 enc Try.prog Try.f6 Rows.fnExactAddCommitRow.domain false) (Rows.fnExactAddCommitSpec.post enc Try.prog Try.f6 false true false false) := by
  refine returnsInHanded_of_change (C := Try.checked) own started (by kernel_rfl) Try.func6
    (ChangeSpec.witness6 (enc := enc) (C := Try.checked) false ⟨#[], #[.slice none 0 0, .agg #[.slice none 0 0, .slice none 0 0]], []⟩ 8 (by kernel_rfl) (by kernel_rfl) (by kernel_rfl) (by kernel_rfl)) ?_
  intro W base args ds gs before hval hW _ _
  refine Fw.law_contract (n := 8) (T := 4) laid (by kernel_rfl) (by kernel_rfl) (ins := (Sg.s_laws_FnExactAddCommit 9223372036854775808).ins) (by kernel_rfl) rfl (fun ds h => ?_) (ok_laws_FnExactAddCommit 9223372036854775808) (fun x hx => ?_) W base args ds gs before hval hW ⟨trivial, fun _ h => h.elim⟩
  · match ds, h with
    | [d0, d1], _ => rfl
  · refine ⟨(), ?_⟩
    exact Pure.law_AddCommit (by omega) x.1 x.2.1 hx.1 hx.2.1

theorem over : Rows.fnExactAddCommitRow.holds Try.pinned (OpenSpec.ofChange Rows.fnExactAddCommitSpec) :=
  OpenClaim.holds_of_wide 6 Try.f6 rfl rfl rfl rfl rfl rfl rfl ⟨rfl, rfl, rfl, rfl, rfl⟩ rfl rfl rfl rfl rfl (by kernel_rfl) Try.func6 (by kernel_rfl)
    (of_decide_eq_true (by kernel_rfl)) (by unfold Func.isWrapper; first | (rw [if_pos (by decide +kernel)]; kernel_rfl) | (rw [if_neg (by decide +kernel)]; exact ⟨rfl, rfl⟩))
    (fun os started H enc _ => lifted os started H enc)

theorem addCommit : Rows.FnExactAddCommitSaid := over
#print axioms addCommit
end Go.Proofs.Ytpfkncmaeamacaa
