/- MapText of the program returns what the reference's MapText returns: for every input the law returns true and leaves its arguments as they were; the listed package-level variables are tied to the program's text by the card. No other condition. -/
import Derived.Test.YtpfkncmaeamacaaDoorRows
import Derived.Test.YtpfkncmaeamacaaDoorCards
import Derived.Test.YtpfkncmaeamacaaDoorTie
import Derived.Test.YtpfkncmaeamacaaDoorFwLa
import Derived.Test.YtpfkncmaeamacaaDoorAS
import Derived.Test.YtpfkncmaeamacaaDoorP12
import Derived.WalkKit
import Derived.ProofKit
import Derived.OpenShut
import Derived.LaidLaws
import Derived.LaidHandle
import Derived.ChangeSame
import Derived.ChangeVars
import Derived.JoinedOf
import Derived.Handed
import Derived.SevenTiedAt
namespace Go.Proofs.YtpfkncmaeamacaaDoor
open Go Go.ChangeShapes Go.WideShapes Go.ChangeAt Go.RowKit

theorem own : ownKnob Tryd.prog.godebug = none := by kernel_rfl
theorem laid : laidOutB Tryd.prog = true := by kernel_rfl
theorem powIs : Tryd.prog.globalNamed "internal/strconv.uint64pow10" = some 0 := by kernel_rfl

theorem tab_of {W : World} (h : laidMetH Tryd.prog Rows.fnExactMapTextRow.laid W) : Lib.TabIs Tryd.prog W "internal/strconv.uint64pow10" .u64 Lib.pow10Tab :=
  Fw.tabIs_laid (l := Rows.fnExactMapTextRow.laid) (i := 2) (t := 87) (e := 78) (n := 20) (by kernel_rfl) powIs (by kernel_rfl) (by kernel_rfl) (by kernel_rfl) (by kernel_rfl) (by kernel_rfl) h

noncomputable def laidWorld (os : Os) : World :=
  let w0 := World.holding Tryd.prog os ⟨#[], #[], []⟩
  Fw.layVar (Fw.layVar (Fw.layVar (w0) 2 Rows.laid_math_bits_deBruijn32tab) 3 Rows.laid_math_bits_deBruijn64tab) 0 Rows.laid_internal_strconv_uint64pow10
theorem laidWorld_met (os : Os) (args : Array Value) : laidMetH Tryd.prog Rows.fnExactMapTextRow.laid ((laidWorld os).forCall (fun _ _ => 0) ⟨#[], args, []⟩).memory :=
  laidMet_of_run' (l := Rows.fnExactMapTextRow.laid) 8 (by kernel_rfl) (by kernel_rfl)

set_option maxRecDepth 100000 in
theorem lifted (os : Os) (started : os.Started) (H : Type) (enc : TypeId × Value → H) :
    ReturnsInHanded {} Tryd.checked os 3 .any (fun w args => (Rows.fnExactMapTextSpec.pre enc Tryd.prog Tryd.f3 Rows.fnExactMapTextRow.domain false w args ∧ laidMetH Tryd.prog Rows.fnExactMapTextRow.laid w) ∧ sizedMet enc Tryd.prog Tryd.f3 (OpenSpec.ofChange Rows.fnExactMapTextSpec) false w args)
      (Rows.fnExactMapTextSpec.post enc Tryd.prog Tryd.f3 false true false false) := by
  refine returnsInHanded_of_change_and (C := Tryd.checked) (X := fun w _ => laidMetH Tryd.prog Rows.fnExactMapTextRow.laid w) (fun _ _ _ hh h => h.of_heap hh) own started (by kernel_rfl) Tryd.func3
    (ChangeSpec.witness_at (enc := enc) (C := Tryd.checked) (os := os) (X := fun w _ => laidMetH Tryd.prog Rows.fnExactMapTextRow.laid w) false (laidWorld os) #[.slice none 0 0] 8 rfl (by kernel_rfl) (by kernel_rfl) (by kernel_rfl) (by kernel_rfl) (by kernel_rfl) (laidWorld_met os _)) ?_
  intro W base args ds gs before hval hW _ _ hL _
  have ht := tab_of hL
  refine Fw.law_contract (n := 8) (T := 4) laid (by kernel_rfl) (by kernel_rfl) (ins := (Sg.s_laws_FnExactMapText 9223372036854775808).ins) (by kernel_rfl) rfl (fun ds h => ?_) (ok_laws_FnExactMapText 9223372036854775808) (fun x hx => ?_) W base args ds gs before hval hW ⟨ht, fun b hb => Fw.tabIs_size ht hb⟩
  · match ds, h with
    | [d0], _ => rfl
  · refine ⟨(), ?_⟩
    exact Pure.law_MapText (by omega) x.1 hx.1

theorem over : Rows.FnExactMapTextSaid :=
  OpenClaim.holds_of_wide 3 Tryd.f3 rfl rfl rfl rfl rfl rfl rfl ⟨rfl, rfl, rfl, rfl, rfl⟩ rfl rfl rfl rfl rfl (by kernel_rfl) Tryd.func3 (by kernel_rfl)
    (of_decide_eq_true (by kernel_rfl)) (by unfold Func.isWrapper; first | (rw [if_pos (by decide +kernel)]; kernel_rfl) | (rw [if_neg (by decide +kernel)]; exact ⟨rfl, rfl⟩))
    (fun os started H enc _ => lifted os started H enc)

theorem mapText : Rows.FnExactMapTextCardSaid :=
  Claim7.holds_tied_plain_at .later [] [.data, .data, .data] true (true, "c176fc1cc24c0b3c76e4c9a2c39a231ccc617a33f7b41d74bece7b48bc572f54") false
    over (fun _ h => by cases h) (by kernel_rfl) (fun _ h => by cases h) fnExactMapText_row_tie rfl ⟨rfl, rfl⟩ (by kernel_rfl) rfl
    (fun f fn hf hfn => by
      obtain rfl : f = 3 := Option.some.inj ((show Tryd.prog.funcNamed "loop.example/g00737/laws.FnExactMapText" = some 3 by kernel_rfl).symm.trans hf) |>.symm
      obtain rfl : fn = Tryd.f3 := (Option.some.inj (Tryd.func3.symm.trans hfn)).symm
      exact ⟨by kernel_rfl, fun j t ht => Fw.all_params (p := Tryd.prog.wantsStandIn) (by kernel_rfl) j t ht⟩)
    (by kernel_rfl)
#print axioms mapText
end Go.Proofs.YtpfkncmaeamacaaDoor
