/-
  No cell of these rows narrows 'for every input' (looked for: loops, veiled, ifaces, maps, wideKeys, modest, calm, conditions, laid).
  DERIVED. THE GIVEN ROWS OF THIS SEAT. 12 by the template 'for every input the law returns true; each argument reads behind the call as it read before'; 0 by the template 'total and deterministic' (their statements: YtjblmapbompclaaGreatTotals.lean).
  GIVEN WITH THE SEED: the statements are not yours to turn. If you find one false, say at which input.
  Laid BY PROGRAM, IN A SANDBOX (cutbox-rows.mjs): the forced cells as the released guide's own fill.sh prints them over the translation a92649f84a50b268… (all of the seat's roots in one cut). By AI agents, Wed Nov 11 2026. No macro, syntax, notation, axiom, sorry.
-/
import Derived.Test.YtjblmapbompclaaGreatChecked
import GoSem.Claim
import GoSem.ClaimJoined
import GoSem.ClaimMapViews
import Derived.JoinedTies
import Derived.KernelRfl
namespace Go.Proofs.YtjblmapbompclaaGreat
/- THE CELL 'sum', in the pinned program and in every row, IS THE sha256 OF THE DUMP (.gsa) THAT YtjblmapbompclaaGreatProg.lean LOADS. Nothing in Lean hashes anything: it is a label: what it is worth is what the hold of that sum in a sandbox is worth. -/
noncomputable def Tryz.pinned : Pinned := { name := "ytjblmapbompclaagreat", sum := "a92649f84a50b26808350eacda532e9e96ae2bc343fbd1cf7be396c7dda29a67", checked := Tryz.checked }
namespace Rows
def none {H : Type} : Left H := { results := [], args := [] }

/-- 'laws.FnExactClientOK': WHATEVER THE INPUT: true; the input reads as it did. -/
def fnExactClientOKSpec : ChangeSpec := { name := "fnExactClientOK", fn := fun _ => fun
  | [d1, d2] => { results := [.lit (.bool true)], args := [d1, d2] }
  | _ => none }
def fnExactClientOKRow : OpenClaim := { program := "ytjblmapbompclaagreat", sum := "a92649f84a50b26808350eacda532e9e96ae2bc343fbd1cf7be396c7dda29a67", func := "loop.example/g00737/laws.FnExactClientOK", spec := "fnExactClientOK", inPlace := ["internal/bytealg.abigen_runtime_cmpstring", "slices.overlaps[loop.example/g00737/impl.Entry]"], unfollowed := true, recurses := true, apart := false }
def FnExactClientOKSaid : Prop := fnExactClientOKRow.holds Tryz.pinned (OpenSpec.ofChange fnExactClientOKSpec)

/-- ITS FALSE NEIGHBOUR: 'it returns false'. Refute it at one input. -/
def fnExactClientOKWrong : ChangeSpec := { name := "fnExactClientOK", fn := fun _ => fun
  | [d1, d2] => { results := [.lit (.bool false)], args := [d1, d2] }
  | _ => none }
def FnExactClientOKWrongFalsely : Prop := fnExactClientOKRow.holds Tryz.pinned (OpenSpec.ofChange fnExactClientOKWrong)

/-- 'laws.FnExactDoOp': WHATEVER THE INPUT: true; the input reads as it did. -/
def fnExactDoOpSpec : ChangeSpec := { name := "fnExactDoOp", fn := fun _ => fun
  | [d1, d2] => { results := [.lit (.bool true)], args := [d1, d2] }
  | _ => none }
def fnExactDoOpRow : OpenClaim := { program := "ytjblmapbompclaagreat", sum := "a92649f84a50b26808350eacda532e9e96ae2bc343fbd1cf7be396c7dda29a67", func := "loop.example/g00737/laws.FnExactDoOp", spec := "fnExactDoOp", inPlace := ["internal/bytealg.abigen_runtime_cmpstring", "slices.overlaps[loop.example/g00737/impl.Entry]"], unfollowed := true, recurses := true, apart := false }
def FnExactDoOpSaid : Prop := fnExactDoOpRow.holds Tryz.pinned (OpenSpec.ofChange fnExactDoOpSpec)

/-- ITS FALSE NEIGHBOUR: 'it returns false'. Refute it at one input. -/
def fnExactDoOpWrong : ChangeSpec := { name := "fnExactDoOp", fn := fun _ => fun
  | [d1, d2] => { results := [.lit (.bool false)], args := [d1, d2] }
  | _ => none }
def FnExactDoOpWrongFalsely : Prop := fnExactDoOpRow.holds Tryz.pinned (OpenSpec.ofChange fnExactDoOpWrong)

/-- 'laws.FnExactDoOps': WHATEVER THE INPUT: true; the input reads as it did. -/
def fnExactDoOpsSpec : ChangeSpec := { name := "fnExactDoOps", fn := fun _ => fun
  | [d1, d2] => { results := [.lit (.bool true)], args := [d1, d2] }
  | _ => none }
def fnExactDoOpsRow : OpenClaim := { program := "ytjblmapbompclaagreat", sum := "a92649f84a50b26808350eacda532e9e96ae2bc343fbd1cf7be396c7dda29a67", func := "loop.example/g00737/laws.FnExactDoOps", spec := "fnExactDoOps", inPlace := ["internal/bytealg.abigen_runtime_cmpstring", "slices.overlaps[loop.example/g00737/impl.Entry]"], unfollowed := true, recurses := true, apart := false }
def FnExactDoOpsSaid : Prop := fnExactDoOpsRow.holds Tryz.pinned (OpenSpec.ofChange fnExactDoOpsSpec)

/-- ITS FALSE NEIGHBOUR: 'it returns false'. Refute it at one input. -/
def fnExactDoOpsWrong : ChangeSpec := { name := "fnExactDoOps", fn := fun _ => fun
  | [d1, d2] => { results := [.lit (.bool false)], args := [d1, d2] }
  | _ => none }
def FnExactDoOpsWrongFalsely : Prop := fnExactDoOpsRow.holds Tryz.pinned (OpenSpec.ofChange fnExactDoOpsWrong)

/-- 'laws.FnExactWorldOK': WHATEVER THE INPUT: true; the input reads as it did. -/
def fnExactWorldOKSpec : ChangeSpec := { name := "fnExactWorldOK", fn := fun _ => fun
  | [d] => { results := [.lit (.bool true)], args := [d] }
  | _ => none }
def fnExactWorldOKRow : OpenClaim := { program := "ytjblmapbompclaagreat", sum := "a92649f84a50b26808350eacda532e9e96ae2bc343fbd1cf7be396c7dda29a67", func := "loop.example/g00737/laws.FnExactWorldOK", spec := "fnExactWorldOK", inPlace := ["internal/bytealg.abigen_runtime_cmpstring", "slices.overlaps[loop.example/g00737/impl.Entry]"], unfollowed := true, recurses := true, apart := false }
def FnExactWorldOKSaid : Prop := fnExactWorldOKRow.holds Tryz.pinned (OpenSpec.ofChange fnExactWorldOKSpec)

/-- ITS FALSE NEIGHBOUR: 'it returns false'. Refute it at one input. -/
def fnExactWorldOKWrong : ChangeSpec := { name := "fnExactWorldOK", fn := fun _ => fun
  | [d] => { results := [.lit (.bool false)], args := [d] }
  | _ => none }
def FnExactWorldOKWrongFalsely : Prop := fnExactWorldOKRow.holds Tryz.pinned (OpenSpec.ofChange fnExactWorldOKWrong)

/-- 'laws.FnExactReplay': WHATEVER THE INPUT: true; the input reads as it did. -/
def fnExactReplaySpec : ChangeSpec := { name := "fnExactReplay", fn := fun _ => fun
  | [d1, d2] => { results := [.lit (.bool true)], args := [d1, d2] }
  | _ => none }
def fnExactReplayRow : OpenClaim := { program := "ytjblmapbompclaagreat", sum := "a92649f84a50b26808350eacda532e9e96ae2bc343fbd1cf7be396c7dda29a67", func := "loop.example/g00737/laws.FnExactReplay", spec := "fnExactReplay", inPlace := ["internal/bytealg.abigen_runtime_cmpstring", "slices.overlaps[loop.example/g00737/impl.Entry]"], unfollowed := true, recurses := true, apart := false }
def FnExactReplaySaid : Prop := fnExactReplayRow.holds Tryz.pinned (OpenSpec.ofChange fnExactReplaySpec)

/-- ITS FALSE NEIGHBOUR: 'it returns false'. Refute it at one input. -/
def fnExactReplayWrong : ChangeSpec := { name := "fnExactReplay", fn := fun _ => fun
  | [d1, d2] => { results := [.lit (.bool false)], args := [d1, d2] }
  | _ => none }
def FnExactReplayWrongFalsely : Prop := fnExactReplayRow.holds Tryz.pinned (OpenSpec.ofChange fnExactReplayWrong)

/-- 'laws.FnExactAllDone': WHATEVER THE INPUT: true; the input reads as it did. -/
def fnExactAllDoneSpec : ChangeSpec := { name := "fnExactAllDone", fn := fun _ => fun
  | [d] => { results := [.lit (.bool true)], args := [d] }
  | _ => none }
def fnExactAllDoneRow : OpenClaim := { program := "ytjblmapbompclaagreat", sum := "a92649f84a50b26808350eacda532e9e96ae2bc343fbd1cf7be396c7dda29a67", func := "loop.example/g00737/laws.FnExactAllDone", spec := "fnExactAllDone", inPlace := ["internal/bytealg.abigen_runtime_cmpstring", "slices.overlaps[loop.example/g00737/impl.Entry]"], unfollowed := true, recurses := true, apart := false }
def FnExactAllDoneSaid : Prop := fnExactAllDoneRow.holds Tryz.pinned (OpenSpec.ofChange fnExactAllDoneSpec)

/-- ITS FALSE NEIGHBOUR: 'it returns false'. Refute it at one input. -/
def fnExactAllDoneWrong : ChangeSpec := { name := "fnExactAllDone", fn := fun _ => fun
  | [d] => { results := [.lit (.bool false)], args := [d] }
  | _ => none }
def FnExactAllDoneWrongFalsely : Prop := fnExactAllDoneRow.holds Tryz.pinned (OpenSpec.ofChange fnExactAllDoneWrong)

/-- 'laws.FnExactLongestGap': WHATEVER THE INPUT: true; the input reads as it did. -/
def fnExactLongestGapSpec : ChangeSpec := { name := "fnExactLongestGap", fn := fun _ => fun
  | [d] => { results := [.lit (.bool true)], args := [d] }
  | _ => none }
def fnExactLongestGapRow : OpenClaim := { program := "ytjblmapbompclaagreat", sum := "a92649f84a50b26808350eacda532e9e96ae2bc343fbd1cf7be396c7dda29a67", func := "loop.example/g00737/laws.FnExactLongestGap", spec := "fnExactLongestGap", inPlace := ["internal/bytealg.abigen_runtime_cmpstring", "slices.overlaps[loop.example/g00737/impl.Entry]"], unfollowed := true, recurses := true, apart := false }
def FnExactLongestGapSaid : Prop := fnExactLongestGapRow.holds Tryz.pinned (OpenSpec.ofChange fnExactLongestGapSpec)

/-- ITS FALSE NEIGHBOUR: 'it returns false'. Refute it at one input. -/
def fnExactLongestGapWrong : ChangeSpec := { name := "fnExactLongestGap", fn := fun _ => fun
  | [d] => { results := [.lit (.bool false)], args := [d] }
  | _ => none }
def FnExactLongestGapWrongFalsely : Prop := fnExactLongestGapRow.holds Tryz.pinned (OpenSpec.ofChange fnExactLongestGapWrong)

/-- 'laws.FnExactInOrder': WHATEVER THE INPUT: true; the input reads as it did. -/
def fnExactInOrderSpec : ChangeSpec := { name := "fnExactInOrder", fn := fun _ => fun
  | [d] => { results := [.lit (.bool true)], args := [d] }
  | _ => none }
def fnExactInOrderRow : OpenClaim := { program := "ytjblmapbompclaagreat", sum := "a92649f84a50b26808350eacda532e9e96ae2bc343fbd1cf7be396c7dda29a67", func := "loop.example/g00737/laws.FnExactInOrder", spec := "fnExactInOrder", inPlace := ["internal/bytealg.abigen_runtime_cmpstring", "slices.overlaps[loop.example/g00737/impl.Entry]"], unfollowed := true, recurses := true, apart := false }
def FnExactInOrderSaid : Prop := fnExactInOrderRow.holds Tryz.pinned (OpenSpec.ofChange fnExactInOrderSpec)

/-- ITS FALSE NEIGHBOUR: 'it returns false'. Refute it at one input. -/
def fnExactInOrderWrong : ChangeSpec := { name := "fnExactInOrder", fn := fun _ => fun
  | [d] => { results := [.lit (.bool false)], args := [d] }
  | _ => none }
def FnExactInOrderWrongFalsely : Prop := fnExactInOrderRow.holds Tryz.pinned (OpenSpec.ofChange fnExactInOrderWrong)

/-- 'laws.FnExactChangesOf': WHATEVER THE INPUT: true; the input reads as it did. -/
def fnExactChangesOfSpec : ChangeSpec := { name := "fnExactChangesOf", fn := fun _ => fun
  | [d1, d2, d3, d4] => { results := [.lit (.bool true)], args := [d1, d2, d3, d4] }
  | _ => none }
def fnExactChangesOfRow : OpenClaim := { program := "ytjblmapbompclaagreat", sum := "a92649f84a50b26808350eacda532e9e96ae2bc343fbd1cf7be396c7dda29a67", func := "loop.example/g00737/laws.FnExactChangesOf", spec := "fnExactChangesOf", inPlace := ["internal/bytealg.abigen_runtime_cmpstring", "slices.overlaps[loop.example/g00737/impl.Entry]"], unfollowed := true, recurses := true, apart := false }
def FnExactChangesOfSaid : Prop := fnExactChangesOfRow.holds Tryz.pinned (OpenSpec.ofChange fnExactChangesOfSpec)

/-- ITS FALSE NEIGHBOUR: 'it returns false'. Refute it at one input. -/
def fnExactChangesOfWrong : ChangeSpec := { name := "fnExactChangesOf", fn := fun _ => fun
  | [d1, d2, d3, d4] => { results := [.lit (.bool false)], args := [d1, d2, d3, d4] }
  | _ => none }
def FnExactChangesOfWrongFalsely : Prop := fnExactChangesOfRow.holds Tryz.pinned (OpenSpec.ofChange fnExactChangesOfWrong)

/-- 'laws.FnExactNextOf': WHATEVER THE INPUT: true; the input reads as it did. -/
def fnExactNextOfSpec : ChangeSpec := { name := "fnExactNextOf", fn := fun _ => fun
  | [d1, d2] => { results := [.lit (.bool true)], args := [d1, d2] }
  | _ => none }
def fnExactNextOfRow : OpenClaim := { program := "ytjblmapbompclaagreat", sum := "a92649f84a50b26808350eacda532e9e96ae2bc343fbd1cf7be396c7dda29a67", func := "loop.example/g00737/laws.FnExactNextOf", spec := "fnExactNextOf", inPlace := ["internal/bytealg.abigen_runtime_cmpstring", "slices.overlaps[loop.example/g00737/impl.Entry]"], unfollowed := true, recurses := true, apart := false }
def FnExactNextOfSaid : Prop := fnExactNextOfRow.holds Tryz.pinned (OpenSpec.ofChange fnExactNextOfSpec)

/-- ITS FALSE NEIGHBOUR: 'it returns false'. Refute it at one input. -/
def fnExactNextOfWrong : ChangeSpec := { name := "fnExactNextOf", fn := fun _ => fun
  | [d1, d2] => { results := [.lit (.bool false)], args := [d1, d2] }
  | _ => none }
def FnExactNextOfWrongFalsely : Prop := fnExactNextOfRow.holds Tryz.pinned (OpenSpec.ofChange fnExactNextOfWrong)

/-- 'laws.FnExactRetriesEarned': WHATEVER THE INPUT: true; the input reads as it did. -/
def fnExactRetriesEarnedSpec : ChangeSpec := { name := "fnExactRetriesEarned", fn := fun _ => fun
  | [d] => { results := [.lit (.bool true)], args := [d] }
  | _ => none }
def fnExactRetriesEarnedRow : OpenClaim := { program := "ytjblmapbompclaagreat", sum := "a92649f84a50b26808350eacda532e9e96ae2bc343fbd1cf7be396c7dda29a67", func := "loop.example/g00737/laws.FnExactRetriesEarned", spec := "fnExactRetriesEarned", inPlace := ["internal/bytealg.abigen_runtime_cmpstring", "slices.overlaps[loop.example/g00737/impl.Entry]"], unfollowed := true, recurses := true, apart := false }
def FnExactRetriesEarnedSaid : Prop := fnExactRetriesEarnedRow.holds Tryz.pinned (OpenSpec.ofChange fnExactRetriesEarnedSpec)

/-- ITS FALSE NEIGHBOUR: 'it returns false'. Refute it at one input. -/
def fnExactRetriesEarnedWrong : ChangeSpec := { name := "fnExactRetriesEarned", fn := fun _ => fun
  | [d] => { results := [.lit (.bool false)], args := [d] }
  | _ => none }
def FnExactRetriesEarnedWrongFalsely : Prop := fnExactRetriesEarnedRow.holds Tryz.pinned (OpenSpec.ofChange fnExactRetriesEarnedWrong)

/-- 'laws.FnExactTallyOf': WHATEVER THE INPUT: true; the input reads as it did. -/
def fnExactTallyOfSpec : ChangeSpec := { name := "fnExactTallyOf", fn := fun _ => fun
  | [d] => { results := [.lit (.bool true)], args := [d] }
  | _ => none }
def fnExactTallyOfRow : OpenClaim := { program := "ytjblmapbompclaagreat", sum := "a92649f84a50b26808350eacda532e9e96ae2bc343fbd1cf7be396c7dda29a67", func := "loop.example/g00737/laws.FnExactTallyOf", spec := "fnExactTallyOf", inPlace := ["internal/bytealg.abigen_runtime_cmpstring", "slices.overlaps[loop.example/g00737/impl.Entry]"], unfollowed := true, recurses := true, apart := false }
def FnExactTallyOfSaid : Prop := fnExactTallyOfRow.holds Tryz.pinned (OpenSpec.ofChange fnExactTallyOfSpec)

/-- ITS FALSE NEIGHBOUR: 'it returns false'. Refute it at one input. -/
def fnExactTallyOfWrong : ChangeSpec := { name := "fnExactTallyOf", fn := fun _ => fun
  | [d] => { results := [.lit (.bool false)], args := [d] }
  | _ => none }
def FnExactTallyOfWrongFalsely : Prop := fnExactTallyOfRow.holds Tryz.pinned (OpenSpec.ofChange fnExactTallyOfWrong)

/- THE SECOND FORM. 'bulk': how many values and letters a reading holds, each counted each time it is reached (what is shared counts as often as it is met; a slice's spare places count too). A statement '..UptoSaid' is the law's where the arguments, and the package variables that the reading takes, are together of bulk at most 1048576: NARROWER than '..Said'. Prove '..Said' where nothing that the law and all that it calls make is longer than what came in: it says more and counts as full. Else prove '..UptoSaid'. A law counts once. -/
mutual
def uptoBulk {H : Type} : DataW H → Nat
  | .lit (.string bytes) => bytes.length + 1
  | .lit _ => 1
  | .nil => 1
  | .ptr d => uptoBulk d + 1
  | .slice elems spare => uptoBulkAll elems + uptoBulkAll spare + 1
  | .agg parts => uptoBulkAll parts + 1
  | .iface _ d => uptoBulk d + 1
  | .map entries => uptoBulkEntries entries + 1
  | .held _ => 1
def uptoBulkAll {H : Type} : List (DataW H) → Nat
  | [] => 0
  | d :: r => uptoBulk d + uptoBulkAll r
def uptoBulkEntries {H : Type} : List (Lit × DataW H) → Nat
  | [] => 0
  | x :: r => uptoBulkEntry x + uptoBulkEntries r
def uptoBulkEntry {H : Type} : Lit × DataW H → Nat
  | (.string bytes, d) => bytes.length + uptoBulk d + 1
  | (_, d) => uptoBulk d + 1
 end
def uptoSmall : (H : Type) → List (DataW H) → Bool := fun _ ds => decide (uptoBulkAll ds ≤ 1048576)
def OpenSpec.upto (s : _root_.Go.ChangeSpec) : _root_.Go.OpenSpec := { _root_.Go.OpenSpec.ofChange s with cond := some uptoSmall }

/-- 'laws.FnExactClientOK', WHERE WHAT IT READS IS OF BULK AT MOST 1048576: true; the input reads as it did. -/
def fnExactClientOKUptoRow : OpenClaim := { program := "ytjblmapbompclaagreat", sum := "a92649f84a50b26808350eacda532e9e96ae2bc343fbd1cf7be396c7dda29a67", func := "loop.example/g00737/laws.FnExactClientOK", spec := "fnExactClientOK", inPlace := ["internal/bytealg.abigen_runtime_cmpstring", "slices.overlaps[loop.example/g00737/impl.Entry]"], unfollowed := true, recurses := true, apart := false, narrowed := true }
def FnExactClientOKUptoSaid : Prop := fnExactClientOKUptoRow.holds Tryz.pinned (OpenSpec.upto fnExactClientOKSpec)

/-- 'laws.FnExactDoOp', WHERE WHAT IT READS IS OF BULK AT MOST 1048576: true; the input reads as it did. -/
def fnExactDoOpUptoRow : OpenClaim := { program := "ytjblmapbompclaagreat", sum := "a92649f84a50b26808350eacda532e9e96ae2bc343fbd1cf7be396c7dda29a67", func := "loop.example/g00737/laws.FnExactDoOp", spec := "fnExactDoOp", inPlace := ["internal/bytealg.abigen_runtime_cmpstring", "slices.overlaps[loop.example/g00737/impl.Entry]"], unfollowed := true, recurses := true, apart := false, narrowed := true }
def FnExactDoOpUptoSaid : Prop := fnExactDoOpUptoRow.holds Tryz.pinned (OpenSpec.upto fnExactDoOpSpec)

/-- 'laws.FnExactDoOps', WHERE WHAT IT READS IS OF BULK AT MOST 1048576: true; the input reads as it did. -/
def fnExactDoOpsUptoRow : OpenClaim := { program := "ytjblmapbompclaagreat", sum := "a92649f84a50b26808350eacda532e9e96ae2bc343fbd1cf7be396c7dda29a67", func := "loop.example/g00737/laws.FnExactDoOps", spec := "fnExactDoOps", inPlace := ["internal/bytealg.abigen_runtime_cmpstring", "slices.overlaps[loop.example/g00737/impl.Entry]"], unfollowed := true, recurses := true, apart := false, narrowed := true }
def FnExactDoOpsUptoSaid : Prop := fnExactDoOpsUptoRow.holds Tryz.pinned (OpenSpec.upto fnExactDoOpsSpec)

/-- 'laws.FnExactWorldOK', WHERE WHAT IT READS IS OF BULK AT MOST 1048576: true; the input reads as it did. -/
def fnExactWorldOKUptoRow : OpenClaim := { program := "ytjblmapbompclaagreat", sum := "a92649f84a50b26808350eacda532e9e96ae2bc343fbd1cf7be396c7dda29a67", func := "loop.example/g00737/laws.FnExactWorldOK", spec := "fnExactWorldOK", inPlace := ["internal/bytealg.abigen_runtime_cmpstring", "slices.overlaps[loop.example/g00737/impl.Entry]"], unfollowed := true, recurses := true, apart := false, narrowed := true }
def FnExactWorldOKUptoSaid : Prop := fnExactWorldOKUptoRow.holds Tryz.pinned (OpenSpec.upto fnExactWorldOKSpec)

/-- 'laws.FnExactReplay', WHERE WHAT IT READS IS OF BULK AT MOST 1048576: true; the input reads as it did. -/
def fnExactReplayUptoRow : OpenClaim := { program := "ytjblmapbompclaagreat", sum := "a92649f84a50b26808350eacda532e9e96ae2bc343fbd1cf7be396c7dda29a67", func := "loop.example/g00737/laws.FnExactReplay", spec := "fnExactReplay", inPlace := ["internal/bytealg.abigen_runtime_cmpstring", "slices.overlaps[loop.example/g00737/impl.Entry]"], unfollowed := true, recurses := true, apart := false, narrowed := true }
def FnExactReplayUptoSaid : Prop := fnExactReplayUptoRow.holds Tryz.pinned (OpenSpec.upto fnExactReplaySpec)

/-- 'laws.FnExactAllDone', WHERE WHAT IT READS IS OF BULK AT MOST 1048576: true; the input reads as it did. -/
def fnExactAllDoneUptoRow : OpenClaim := { program := "ytjblmapbompclaagreat", sum := "a92649f84a50b26808350eacda532e9e96ae2bc343fbd1cf7be396c7dda29a67", func := "loop.example/g00737/laws.FnExactAllDone", spec := "fnExactAllDone", inPlace := ["internal/bytealg.abigen_runtime_cmpstring", "slices.overlaps[loop.example/g00737/impl.Entry]"], unfollowed := true, recurses := true, apart := false, narrowed := true }
def FnExactAllDoneUptoSaid : Prop := fnExactAllDoneUptoRow.holds Tryz.pinned (OpenSpec.upto fnExactAllDoneSpec)

/-- 'laws.FnExactLongestGap', WHERE WHAT IT READS IS OF BULK AT MOST 1048576: true; the input reads as it did. -/
def fnExactLongestGapUptoRow : OpenClaim := { program := "ytjblmapbompclaagreat", sum := "a92649f84a50b26808350eacda532e9e96ae2bc343fbd1cf7be396c7dda29a67", func := "loop.example/g00737/laws.FnExactLongestGap", spec := "fnExactLongestGap", inPlace := ["internal/bytealg.abigen_runtime_cmpstring", "slices.overlaps[loop.example/g00737/impl.Entry]"], unfollowed := true, recurses := true, apart := false, narrowed := true }
def FnExactLongestGapUptoSaid : Prop := fnExactLongestGapUptoRow.holds Tryz.pinned (OpenSpec.upto fnExactLongestGapSpec)

/-- 'laws.FnExactInOrder', WHERE WHAT IT READS IS OF BULK AT MOST 1048576: true; the input reads as it did. -/
def fnExactInOrderUptoRow : OpenClaim := { program := "ytjblmapbompclaagreat", sum := "a92649f84a50b26808350eacda532e9e96ae2bc343fbd1cf7be396c7dda29a67", func := "loop.example/g00737/laws.FnExactInOrder", spec := "fnExactInOrder", inPlace := ["internal/bytealg.abigen_runtime_cmpstring", "slices.overlaps[loop.example/g00737/impl.Entry]"], unfollowed := true, recurses := true, apart := false, narrowed := true }
def FnExactInOrderUptoSaid : Prop := fnExactInOrderUptoRow.holds Tryz.pinned (OpenSpec.upto fnExactInOrderSpec)

/-- 'laws.FnExactChangesOf', WHERE WHAT IT READS IS OF BULK AT MOST 1048576: true; the input reads as it did. -/
def fnExactChangesOfUptoRow : OpenClaim := { program := "ytjblmapbompclaagreat", sum := "a92649f84a50b26808350eacda532e9e96ae2bc343fbd1cf7be396c7dda29a67", func := "loop.example/g00737/laws.FnExactChangesOf", spec := "fnExactChangesOf", inPlace := ["internal/bytealg.abigen_runtime_cmpstring", "slices.overlaps[loop.example/g00737/impl.Entry]"], unfollowed := true, recurses := true, apart := false, narrowed := true }
def FnExactChangesOfUptoSaid : Prop := fnExactChangesOfUptoRow.holds Tryz.pinned (OpenSpec.upto fnExactChangesOfSpec)

/-- 'laws.FnExactNextOf', WHERE WHAT IT READS IS OF BULK AT MOST 1048576: true; the input reads as it did. -/
def fnExactNextOfUptoRow : OpenClaim := { program := "ytjblmapbompclaagreat", sum := "a92649f84a50b26808350eacda532e9e96ae2bc343fbd1cf7be396c7dda29a67", func := "loop.example/g00737/laws.FnExactNextOf", spec := "fnExactNextOf", inPlace := ["internal/bytealg.abigen_runtime_cmpstring", "slices.overlaps[loop.example/g00737/impl.Entry]"], unfollowed := true, recurses := true, apart := false, narrowed := true }
def FnExactNextOfUptoSaid : Prop := fnExactNextOfUptoRow.holds Tryz.pinned (OpenSpec.upto fnExactNextOfSpec)

/-- 'laws.FnExactRetriesEarned', WHERE WHAT IT READS IS OF BULK AT MOST 1048576: true; the input reads as it did. -/
def fnExactRetriesEarnedUptoRow : OpenClaim := { program := "ytjblmapbompclaagreat", sum := "a92649f84a50b26808350eacda532e9e96ae2bc343fbd1cf7be396c7dda29a67", func := "loop.example/g00737/laws.FnExactRetriesEarned", spec := "fnExactRetriesEarned", inPlace := ["internal/bytealg.abigen_runtime_cmpstring", "slices.overlaps[loop.example/g00737/impl.Entry]"], unfollowed := true, recurses := true, apart := false, narrowed := true }
def FnExactRetriesEarnedUptoSaid : Prop := fnExactRetriesEarnedUptoRow.holds Tryz.pinned (OpenSpec.upto fnExactRetriesEarnedSpec)

/-- 'laws.FnExactTallyOf', WHERE WHAT IT READS IS OF BULK AT MOST 1048576: true; the input reads as it did. -/
def fnExactTallyOfUptoRow : OpenClaim := { program := "ytjblmapbompclaagreat", sum := "a92649f84a50b26808350eacda532e9e96ae2bc343fbd1cf7be396c7dda29a67", func := "loop.example/g00737/laws.FnExactTallyOf", spec := "fnExactTallyOf", inPlace := ["internal/bytealg.abigen_runtime_cmpstring", "slices.overlaps[loop.example/g00737/impl.Entry]"], unfollowed := true, recurses := true, apart := false, narrowed := true }
def FnExactTallyOfUptoSaid : Prop := fnExactTallyOfUptoRow.holds Tryz.pinned (OpenSpec.upto fnExactTallyOfSpec)

end Rows
end Go.Proofs.YtjblmapbompclaaGreat
