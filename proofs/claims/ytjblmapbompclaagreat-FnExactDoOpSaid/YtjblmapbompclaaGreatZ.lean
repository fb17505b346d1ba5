/- DoOp of the program returns what the reference's DoOp returns: for every input the law returns true and leaves its arguments as they were. No condition. -/
import Derived.Test.YtjblmapbompclaaGreatZf
import Derived.Test.YtjblmapbompclaaGreatRows
import Derived.Test.YtjblmapbompclaaGreatFwZi
import Derived.Test.YtjblmapbompclaaGreatAS
import Derived.Test.YtjblmapbompclaaGreatPM2
import Derived.WalkKit
import Derived.ProofKit
import Derived.OpenShut
namespace Go.Proofs.YtjblmapbompclaaGreat
open Go Go.ChangeShapes Go.WideShapes Go.ChangeAt Go.RowKit

theorem own : ownKnob Tryz.prog.godebug = none := by kernel_rfl
theorem laid : laidOutB Tryz.prog = true := by kernel_rfl

set_option maxRecDepth 100000 in
theorem lifted (os : Os) (started : os.Started) (H : Type) (enc : TypeId × Value → H) :
    ReturnsInHanded {} Tryz.checked os 4 .any (Rows.fnExactDoOpSpec.pre6 enc Tryz.prog Tryz.f4 Rows.fnExactDoOpRow.domain false) (Rows.fnExactDoOpSpec.post enc Tryz.prog Tryz.f4 false true false false) := by
  refine returnsInHanded_of_change (C := Tryz.checked) own started (by kernel_rfl) Tryz.func4
    (ChangeSpec.witness6 (enc := enc) (C := Tryz.checked) false ⟨#[], #[.agg #[.slice none 0 0, .slice none 0 0], .agg #[.int .i64 0, .int .i64 0, .string ⟨#[]⟩, .string ⟨#[]⟩, .slice none 0 0]], []⟩ 8 (by kernel_rfl) (by kernel_rfl) (by kernel_rfl) (by kernel_rfl)) ?_
  intro W base args ds gs before hval hW _ _
  refine Fw.law_contract (n := 8) (T := 4) laid (by kernel_rfl) (by kernel_rfl) (ins := (Sg.s_laws_FnExactDoOp 9223372036854775808).ins) (by kernel_rfl) rfl (fun ds h => ?_) (ok_laws_FnExactDoOp 9223372036854775808) (fun x hx => ?_) W base args ds gs before hval hW ⟨trivial, fun _ h => h.elim⟩
  · match ds, h with
    | [d0, d1], _ => rfl
  · refine ⟨(), ?_⟩
    exact Pure.law_DoOp (by omega) x.1 x.2.1 hx.1 hx.2.1

set_option maxRecDepth 100000 in
theorem over : Rows.fnExactDoOpRow.holds Tryz.pinned (OpenSpec.ofChange Rows.fnExactDoOpSpec) :=
  OpenClaim.holds_of_wide 4 Tryz.f4 rfl rfl rfl rfl rfl rfl rfl ⟨rfl, rfl, rfl, rfl, rfl⟩ rfl rfl rfl rfl rfl (by kernel_rfl) Tryz.func4 facts
    (of_decide_eq_true (by kernel_rfl)) (by unfold Func.isWrapper; first | (rw [if_pos (by decide +kernel)]; kernel_rfl) | (rw [if_neg (by decide +kernel)]; exact ⟨rfl, rfl⟩))
    (fun os started H enc _ => lifted os started H enc)

theorem doOp : Rows.FnExactDoOpSaid := over
#print axioms doOp
end Go.Proofs.YtjblmapbompclaaGreat
