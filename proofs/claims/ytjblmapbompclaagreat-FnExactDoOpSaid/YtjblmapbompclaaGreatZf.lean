/- What is closed of the row of DoOp, fact by fact. -/
import Derived.Test.YtjblmapbompclaaGreatRows
import Derived.Test.YtjblmapbompclaaGreatProg
import Derived.WalkKit
import Derived.ProofKit
import Derived.OpenShut
import Derived.JoinedOf
namespace Go.Proofs.YtjblmapbompclaaGreat
open Go Go.ChangeShapes Go.WideShapes Go.ChangeAt Go.RowKit

theorem fact0 : Rows.fnExactDoOpRow.wf (OpenSpec.ofChange Rows.fnExactDoOpSpec) = true := by kernel_rfl
theorem fact1 : laidOutB Tryz.prog = true := by kernel_rfl
theorem fact2 : mapsRowed Tryz.prog = true := by kernel_rfl
theorem fact3 : Tryz.f4.params.all (Tryz.prog.readableRec ·) = true := by kernel_rfl
theorem fact4 : namedTie Tryz.prog Rows.fnExactDoOpRow.named Rows.fnExactDoOpSpec.vars = true := by kernel_rfl
theorem fact5 : (Rows.fnExactDoOpRow.stops == []) = true := by kernel_rfl
theorem fact6 : (Tryz.prog.stops == []) = true := by kernel_rfl
theorem fact7 : (Rows.fnExactDoOpRow.knobs == []) = true := by kernel_rfl
theorem fact8 : (Tryz.prog.stopKnobs == []) = true := by kernel_rfl
theorem fact9 : (Rows.fnExactDoOpRow.inPlace == Tryz.prog.inPlace 4) = true := by kernel_rfl
theorem fact10 : (Rows.fnExactDoOpRow.unfollowed == Tryz.prog.unfollowed 4) = true := by kernel_rfl
theorem fact11 : (Rows.fnExactDoOpRow.recurses == Tryz.prog.recurses 4) = true := by kernel_rfl
theorem fact12 : (Rows.fnExactDoOpRow.named == Tryz.prog.varsNamed 4) = true := by kernel_rfl
theorem fact13 : (Rows.fnExactDoOpRow.maps == (Tryz.f4.params.toList ++ Rows.fnExactDoOpSpec.plain.varTypes Tryz.prog).any (Tryz.prog.mapsRec ·)) = true := by kernel_rfl
theorem fact14 : (Rows.fnExactDoOpRow.ifaces == (Tryz.f4.params.toList ++ Rows.fnExactDoOpSpec.plain.varTypes Tryz.prog).any (Tryz.prog.ifacesRec ·)) = true := by kernel_rfl
theorem fact15 : (Rows.fnExactDoOpRow.mapsOut == Tryz.prog.mapsAmong Tryz.f4.resultTypes.toList) = true := by kernel_rfl
theorem fact16 : (Rows.fnExactDoOpRow.loops == (Tryz.f4.params.toList ++ Rows.fnExactDoOpSpec.plain.varTypes Tryz.prog).any (Tryz.prog.loopsFrom ·)) = true := by kernel_rfl
theorem fact17 : (Rows.fnExactDoOpRow.wideKeys == (Tryz.f4.params.toList ++ Rows.fnExactDoOpSpec.plain.varTypes Tryz.prog ++ Tryz.f4.resultTypes.toList).any (Tryz.prog.wideKeysFrom ·)) = true := by kernel_rfl
theorem fact18 : Rows.fnExactDoOpSpec.vars.all (Tryz.prog.varReadable ·) = true := by kernel_rfl
theorem fact19 : Tryz.f4.resultTypes.all (fun t => Tryz.prog.readableRec t && decide (t < Tryz.prog.types.size)) = true := by kernel_rfl
theorem fact20 : (Rows.fnExactDoOpRow.ifacesOut == Tryz.f4.resultTypes.toList.any (Tryz.prog.ifacesRec ·)) = true := by kernel_rfl
theorem fact21 : (Rows.fnExactDoOpRow.loopsOut == Tryz.f4.resultTypes.toList.any (Tryz.prog.loopsFrom ·)) = true := by kernel_rfl
theorem fact22 : (Rows.fnExactDoOpRow.plainKeys == Tryz.prog.plainKeys) = true := by kernel_rfl
theorem fact23 : Rows.fnExactDoOpRow.shortTexts.isNone = true := by kernel_rfl
theorem fact24 : Tryz.prog.stopsHeard = true := by kernel_rfl
theorem fact25 : Tryz.prog.mayEnter = true := by kernel_rfl
theorem fact26 : (Rows.fnExactDoOpRow.lifted == Tryz.prog.liftsFinal) = true := by kernel_rfl
theorem fact27 : (Tryz.prog.make == some Rows.fnExactDoOpRow.make) = true := by kernel_rfl
theorem fact28 : (Rows.fnExactDoOpRow.kinds == (if Rows.fnExactDoOpRow.domain.isEmpty then [] else Tryz.f4.params.toList.map fun t => match Tryz.prog.underlying t with | some (.int k) => some k | _ => none)) = true := by kernel_rfl
theorem fact29 : (Rows.fnExactDoOpRow.pinned == Rows.fnExactDoOpRow.pinnedBy) = true := by kernel_rfl
theorem fact30 : (Rows.fnExactDoOpRow.veiled == (Tryz.f4.params.toList ++ Rows.fnExactDoOpSpec.plain.varTypes Tryz.prog ++ Tryz.f4.resultTypes.toList).any (Tryz.prog.veiledRec ·)) = true := by kernel_rfl
theorem fact31 : Rows.fnExactDoOpRow.veiledFits Tryz.prog Tryz.f4.params.toList (Tryz.f4.params.toList ++ Rows.fnExactDoOpSpec.plain.varTypes Tryz.prog ++ Tryz.f4.resultTypes.toList) = true := by kernel_rfl
theorem facts : joinedFacts Tryz.prog 4 Tryz.f4 Rows.fnExactDoOpSpec Rows.fnExactDoOpRow = true := by
  unfold joinedFacts
  simp only [Bool.and_eq_true]
  exact ⟨⟨⟨⟨⟨⟨⟨⟨⟨⟨⟨⟨⟨⟨⟨⟨⟨⟨⟨⟨⟨⟨⟨⟨⟨⟨⟨⟨⟨⟨⟨fact0, fact1⟩, fact2⟩, fact3⟩, fact4⟩, fact5⟩, fact6⟩, fact7⟩, fact8⟩, fact9⟩, fact10⟩, fact11⟩, fact12⟩, fact13⟩, fact14⟩, fact15⟩, fact16⟩, fact17⟩, fact18⟩, fact19⟩, fact20⟩, fact21⟩, fact22⟩, fact23⟩, fact24⟩, fact25⟩, fact26⟩, fact27⟩, (by kernel_rfl)⟩, fact29⟩, fact30⟩, fact31⟩

end Go.Proofs.YtjblmapbompclaaGreat
