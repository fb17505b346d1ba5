/- MomentText of the program returns what the reference's MomentText returns: for every input the law returns true and leaves its arguments as they were; the listed package-level variables are tied to the program's text by the card. No other condition. -/
import Derived.Test.YtilfjfappnpfoaaDoorRows
import Derived.Test.YtilfjfappnpfoaaDoorCards
import Derived.Test.YtilfjfappnpfoaaDoorTie
import Derived.Test.YtilfjfappnpfoaaDoorFwLa
import Derived.Test.YtilfjfappnpfoaaDoorAS
import Derived.Test.YtilfjfappnpfoaaDoorP16
import Derived.WalkKit
import Derived.ProofKit
import Derived.OpenShut
import Derived.LaidLaws
import Derived.LaidHandle
import Derived.ChangeSame
import Derived.ChangeVars
import Derived.JoinedOf
import Derived.Handed
import Derived.SevenTiedAt
namespace Go.Proofs.YtilfjfappnpfoaaDoor
open Go Go.ChangeShapes Go.WideShapes Go.ChangeAt Go.RowKit

theorem own : ownKnob Tryd.prog.godebug = none := by kernel_rfl
theorem laid : laidOutB Tryd.prog = true := by kernel_rfl
theorem powIs : Tryd.prog.globalNamed "internal/strconv.uint64pow10" = some 1 := by kernel_rfl

theorem tab_of {W : World} (h : laidMetH Tryd.prog Rows.fnExactMomentTextRow.laid W) : Lib.TabIs Tryd.prog W "internal/strconv.uint64pow10" .u64 Lib.pow10Tab :=
  Fw.tabIs_laid (l := Rows.fnExactMomentTextRow.laid) (i := 2) (t := 171) (e := 150) (n := 20) (by kernel_rfl) powIs (by kernel_rfl) (by kernel_rfl) (by kernel_rfl) (by kernel_rfl) (by kernel_rfl) h

noncomputable def laidWorld (os : Os) : World :=
  let w0 := World.holding Tryd.prog os ⟨#[], #[], []⟩
  Fw.layVar (Fw.layVar (Fw.layVar (w0) 6 Rows.laid_math_bits_deBruijn32tab) 7 Rows.laid_math_bits_deBruijn64tab) 1 Rows.laid_internal_strconv_uint64pow10
theorem laidWorld_met (os : Os) (args : Array Value) : laidMetH Tryd.prog Rows.fnExactMomentTextRow.laid ((laidWorld os).forCall (fun _ _ => 0) ⟨#[], args, []⟩).memory :=
  laidMet_of_run' (l := Rows.fnExactMomentTextRow.laid) 8 (by kernel_rfl) (by kernel_rfl)

set_option maxRecDepth 100000 in
theorem lifted (os : Os) (started : os.Started) (H : Type) (enc : TypeId × Value → H) :
    ReturnsInHanded {} Tryd.checked os 5 .any (fun w args => (Rows.fnExactMomentTextSpec.pre enc Tryd.prog Tryd.f5 Rows.fnExactMomentTextRow.domain false w args ∧ laidMetH Tryd.prog Rows.fnExactMomentTextRow.laid w) ∧ sizedMet enc Tryd.prog Tryd.f5 (OpenSpec.ofChange Rows.fnExactMomentTextSpec) false w args)
      (Rows.fnExactMomentTextSpec.post enc Tryd.prog Tryd.f5 false true false false) := by
  refine returnsInHanded_of_change_and (C := Tryd.checked) (X := fun w _ => laidMetH Tryd.prog Rows.fnExactMomentTextRow.laid w) (fun _ _ _ hh h => h.of_heap hh) own started (by kernel_rfl) Tryd.func5
    (ChangeSpec.witness_at (enc := enc) (C := Tryd.checked) (os := os) (X := fun w _ => laidMetH Tryd.prog Rows.fnExactMomentTextRow.laid w) false (laidWorld os) #[.agg #[.int .i64 0, .int .i64 0, .int .i64 0, .int .i64 0, .int .i64 0, .string ⟨#[]⟩, .string ⟨#[]⟩, .slice none 0 0, .int .i64 0, .int .i64 0, .int .i64 0, .slice none 0 0, .slice none 0 0]] 8 rfl (by kernel_rfl) (by kernel_rfl) (by kernel_rfl) (by kernel_rfl) (by kernel_rfl) (laidWorld_met os _)) ?_
  intro W base args ds gs before hval hW _ _ hL _
  have ht := tab_of hL
  refine Fw.law_contract (n := 8) (T := 4) laid (by kernel_rfl) (by kernel_rfl) (ins := (Sg.s_laws_FnExactMomentText 9223372036854775808).ins) (by kernel_rfl) rfl (fun ds h => ?_) (ok_laws_FnExactMomentText 9223372036854775808) (fun x hx => ?_) W base args ds gs before hval hW ⟨ht, fun b hb => Fw.tabIs_size ht hb⟩
  · match ds, h with
    | [d0], _ => rfl
  · refine ⟨(), ?_⟩
    exact Pure.law_MomentText (by omega) x.1 hx.1

theorem over : Rows.FnExactMomentTextSaid :=
  OpenClaim.holds_of_wide 5 Tryd.f5 rfl rfl rfl rfl rfl rfl rfl ⟨rfl, rfl, rfl, rfl, rfl⟩ rfl rfl rfl rfl rfl (by kernel_rfl) Tryd.func5 (by kernel_rfl)
    (of_decide_eq_true (by kernel_rfl)) (by unfold Func.isWrapper; first | (rw [if_pos (by decide +kernel)]; kernel_rfl) | (rw [if_neg (by decide +kernel)]; exact ⟨rfl, rfl⟩))
    (fun os started H enc _ => lifted os started H enc)

theorem momentText : Rows.FnExactMomentTextCardSaid :=
  Claim7.holds_tied_plain_at .later [] [.data, .data, .data] true (true, "c423ea4a9c7a6d2753a3231479da5fc8906ec8f46b17ce8b62dd44597eb205fb") true
    over (fun _ h => by cases h) (by kernel_rfl) (fun _ h => by cases h) fnExactMomentText_row_tie rfl ⟨rfl, rfl⟩ (by kernel_rfl) rfl
    (fun f fn hf hfn => by
      obtain rfl : f = 5 := Option.some.inj ((show Tryd.prog.funcNamed "loop.example/g00737/laws.FnExactMomentText" = some 5 by kernel_rfl).symm.trans hf) |>.symm
      obtain rfl : fn = Tryd.f5 := (Option.some.inj (Tryd.func5.symm.trans hfn)).symm
      exact ⟨by kernel_rfl, fun j t ht => Fw.all_params (p := Tryd.prog.wantsStandIn) (by kernel_rfl) j t ht⟩)
    (by kernel_rfl)
#print axioms momentText
end Go.Proofs.YtilfjfappnpfoaaDoor
