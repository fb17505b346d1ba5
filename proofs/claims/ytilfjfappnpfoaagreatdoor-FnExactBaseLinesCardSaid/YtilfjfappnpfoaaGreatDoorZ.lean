/- BaseLines of the program returns what the reference's BaseLines returns: for every input the law returns true and leaves its arguments as they were; the listed package-level variables are tied to the program's text by the card. No other condition. -/
import Derived.Test.YtilfjfappnpfoaaGreatDoorRows
import Derived.Test.YtilfjfappnpfoaaGreatDoorCards
import Derived.Test.YtilfjfappnpfoaaGreatDoorTie
import Derived.Test.YtilfjfappnpfoaaGreatDoorFwLa
import Derived.Test.YtilfjfappnpfoaaGreatDoorAS
import Derived.Test.YtilfjfappnpfoaaGreatDoorP18
import Derived.WalkKit
import Derived.ProofKit
import Derived.OpenShut
import Derived.LaidLaws
import Derived.LaidHandle
import Derived.ChangeSame
import Derived.ChangeVars
import Derived.JoinedOf
import Derived.Handed
import Derived.SevenTiedAt
namespace Go.Proofs.YtilfjfappnpfoaaGreatDoor
open Go Go.ChangeShapes Go.WideShapes Go.ChangeAt Go.RowKit

theorem own : ownKnob Tryz.prog.godebug = none := by kernel_rfl
theorem laid : laidOutB Tryz.prog = true := by kernel_rfl
theorem powIs : Tryz.prog.globalNamed "internal/strconv.uint64pow10" = some 0 := by kernel_rfl

theorem tab_of {W : World} (h : laidMetH Tryz.prog Rows.fnExactBaseLinesRow.laid W) : Lib.TabIs Tryz.prog W "internal/strconv.uint64pow10" .u64 Lib.pow10Tab :=
  Fw.tabIs_laid (l := Rows.fnExactBaseLinesRow.laid) (i := 2) (t := 164) (e := 142) (n := 20) (by kernel_rfl) powIs (by kernel_rfl) (by kernel_rfl) (by kernel_rfl) (by kernel_rfl) (by kernel_rfl) h

noncomputable def laidWorld (os : Os) : World :=
  let w0 := World.holding Tryz.prog os ⟨#[], #[], []⟩
  Fw.layVar (Fw.layVar (Fw.layVar (w0) 4 Rows.laid_math_bits_deBruijn32tab) 5 Rows.laid_math_bits_deBruijn64tab) 0 Rows.laid_internal_strconv_uint64pow10
theorem laidWorld_met (os : Os) (args : Array Value) : laidMetH Tryz.prog Rows.fnExactBaseLinesRow.laid ((laidWorld os).forCall (fun _ _ => 0) ⟨#[], args, []⟩).memory :=
  laidMet_of_run' (l := Rows.fnExactBaseLinesRow.laid) 8 (by kernel_rfl) (by kernel_rfl)

set_option maxRecDepth 100000 in
theorem lifted (os : Os) (started : os.Started) (H : Type) (enc : TypeId × Value → H) :
    ReturnsInHanded {} Tryz.checked os 3 .any (fun w args => (Rows.fnExactBaseLinesSpec.pre enc Tryz.prog Tryz.f3 Rows.fnExactBaseLinesRow.domain false w args ∧ laidMetH Tryz.prog Rows.fnExactBaseLinesRow.laid w) ∧ sizedMet enc Tryz.prog Tryz.f3 (OpenSpec.ofChange Rows.fnExactBaseLinesSpec) false w args)
      (Rows.fnExactBaseLinesSpec.post enc Tryz.prog Tryz.f3 false true false false) := by
  refine returnsInHanded_of_change_and (C := Tryz.checked) (X := fun w _ => laidMetH Tryz.prog Rows.fnExactBaseLinesRow.laid w) (fun _ _ _ hh h => h.of_heap hh) own started (by kernel_rfl) Tryz.func3
    (ChangeSpec.witness_at (enc := enc) (C := Tryz.checked) (os := os) (X := fun w _ => laidMetH Tryz.prog Rows.fnExactBaseLinesRow.laid w) false (laidWorld os) #[.agg #[.slice none 0 0, .slice none 0 0]] 8 rfl (by kernel_rfl) (by kernel_rfl) (by kernel_rfl) (by kernel_rfl) (by kernel_rfl) (laidWorld_met os _)) ?_
  intro W base args ds gs before hval hW _ _ hL _
  have ht := tab_of hL
  refine Fw.law_contract (n := 8) (T := 4) laid (by kernel_rfl) (by kernel_rfl) (ins := (Sg.s_laws_FnExactBaseLines 9223372036854775808).ins) (by kernel_rfl) rfl (fun ds h => ?_) (ok_laws_FnExactBaseLines 9223372036854775808) (fun x hx => ?_) W base args ds gs before hval hW ⟨ht, fun b hb => Fw.tabIs_size ht hb⟩
  · match ds, h with
    | [d0], _ => rfl
  · refine ⟨(), ?_⟩
    exact Pure.law_BaseLines (by omega) x.1 hx.1

theorem over : Rows.FnExactBaseLinesSaid :=
  OpenClaim.holds_of_wide 3 Tryz.f3 rfl rfl rfl rfl rfl rfl rfl ⟨rfl, rfl, rfl, rfl, rfl⟩ rfl rfl rfl rfl rfl (by kernel_rfl) Tryz.func3 (by kernel_rfl)
    (of_decide_eq_true (by kernel_rfl)) (by unfold Func.isWrapper; first | (rw [if_pos (by decide +kernel)]; kernel_rfl) | (rw [if_neg (by decide +kernel)]; exact ⟨rfl, rfl⟩))
    (fun os started H enc _ => lifted os started H enc)

theorem baseLines : Rows.FnExactBaseLinesCardSaid :=
  Claim7.holds_tied_plain_at .later [] [.data, .data, .data] true (true, "0cfa39f2161e7001032978c193fba6d4f32283828980e4e71fb372c71c526f0b") true
    over (fun _ h => by cases h) (by kernel_rfl) (fun _ h => by cases h) fnExactBaseLines_row_tie rfl ⟨rfl, rfl⟩ (by kernel_rfl) rfl
    (fun f fn hf hfn => by
      obtain rfl : f = 3 := Option.some.inj ((show Tryz.prog.funcNamed "loop.example/g00737/laws.FnExactBaseLines" = some 3 by kernel_rfl).symm.trans hf) |>.symm
      obtain rfl : fn = Tryz.f3 := (Option.some.inj (Tryz.func3.symm.trans hfn)).symm
      exact ⟨by kernel_rfl, fun j t ht => Fw.all_params (p := Tryz.prog.wantsStandIn) (by kernel_rfl) j t ht⟩)
    (by kernel_rfl)
#print axioms baseLines
end Go.Proofs.YtilfjfappnpfoaaGreatDoor
