/-
  No cell of these rows narrows 'for every input' (looked for: loops, veiled, ifaces, maps, wideKeys, modest, calm, conditions, laid).
  DERIVED. THE GIVEN ROWS OF THIS SEAT. 4 by the template 'for every input the law returns true; each argument reads behind the call as it read before'; 0 by the template 'total and deterministic' (their statements: YtpfkncmaeamacaaTotals.lean).
  GIVEN WITH THE SEED: the statements are not yours to turn. If you find one false, say at which input.
  Laid BY PROGRAM, IN A SANDBOX (cutbox-rows.mjs): the forced cells as the released guide's own fill.sh prints them over the translation d215d0f7bd08164b… (all of the seat's roots in one cut). By AI agents, Wed Nov 11 2026. No macro, syntax, notation, axiom, sorry.
-/
import Derived.Test.YtpfkncmaeamacaaChecked
import GoSem.Claim
import GoSem.ClaimJoined
import GoSem.ClaimMapViews
import Derived.JoinedTies
import Derived.KernelRfl
namespace Go.Proofs.Ytpfkncmaeamacaa
/- THE CELL 'sum', in the pinned program and in every row, IS THE sha256 OF THE DUMP (.gsa) THAT YtpfkncmaeamacaaProg.lean LOADS. Nothing in Lean hashes anything: it is a label: what it is worth is what the hold of that sum in a sandbox is worth. -/
noncomputable def Try.pinned : Pinned := { name := "ytpfkncmaeamacaa", sum := "d215d0f7bd08164be611cd7511bf1833812812abc0e3d5bcfb4b13fcb820138e", checked := Try.checked }
namespace Rows
def none {H : Type} : Left H := { results := [], args := [] }

/-- 'laws.FnExactNextEvent': WHATEVER THE INPUT: true; the input reads as it did. -/
def fnExactNextEventSpec : ChangeSpec := { name := "fnExactNextEvent", fn := fun _ => fun
  | [d] => { results := [.lit (.bool true)], args := [d] }
  | _ => none }
def fnExactNextEventRow : OpenClaim := { program := "ytpfkncmaeamacaa", sum := "d215d0f7bd08164be611cd7511bf1833812812abc0e3d5bcfb4b13fcb820138e", func := "loop.example/g00737/laws.FnExactNextEvent", spec := "fnExactNextEvent", unfollowed := true, recurses := true, apart := false }
def FnExactNextEventSaid : Prop := fnExactNextEventRow.holds Try.pinned (OpenSpec.ofChange fnExactNextEventSpec)

/-- ITS FALSE NEIGHBOUR: 'it returns false'. Refute it at one input. -/
def fnExactNextEventWrong : ChangeSpec := { name := "fnExactNextEvent", fn := fun _ => fun
  | [d] => { results := [.lit (.bool false)], args := [d] }
  | _ => none }
def FnExactNextEventWrongFalsely : Prop := fnExactNextEventRow.holds Try.pinned (OpenSpec.ofChange fnExactNextEventWrong)

/-- 'laws.FnExactNoteRef': WHATEVER THE INPUT: true; the input reads as it did. -/
def fnExactNoteRefSpec : ChangeSpec := { name := "fnExactNoteRef", fn := fun _ => fun
  | [d1, d2] => { results := [.lit (.bool true)], args := [d1, d2] }
  | _ => none }
def fnExactNoteRefRow : OpenClaim := { program := "ytpfkncmaeamacaa", sum := "d215d0f7bd08164be611cd7511bf1833812812abc0e3d5bcfb4b13fcb820138e", func := "loop.example/g00737/laws.FnExactNoteRef", spec := "fnExactNoteRef", unfollowed := true, recurses := true, apart := false }
def FnExactNoteRefSaid : Prop := fnExactNoteRefRow.holds Try.pinned (OpenSpec.ofChange fnExactNoteRefSpec)

/-- ITS FALSE NEIGHBOUR: 'it returns false'. Refute it at one input. -/
def fnExactNoteRefWrong : ChangeSpec := { name := "fnExactNoteRef", fn := fun _ => fun
  | [d1, d2] => { results := [.lit (.bool false)], args := [d1, d2] }
  | _ => none }
def FnExactNoteRefWrongFalsely : Prop := fnExactNoteRefRow.holds Try.pinned (OpenSpec.ofChange fnExactNoteRefWrong)

/-- 'laws.FnWatch': WHATEVER THE INPUT: true; the input reads as it did. -/
def fnWatchSpec : ChangeSpec := { name := "fnWatch", fn := fun _ => fun
  | [d1, d2] => { results := [.lit (.bool true)], args := [d1, d2] }
  | _ => none }
def fnWatchRow : OpenClaim := { program := "ytpfkncmaeamacaa", sum := "d215d0f7bd08164be611cd7511bf1833812812abc0e3d5bcfb4b13fcb820138e", func := "loop.example/g00737/laws.FnWatch", spec := "fnWatch", unfollowed := true, recurses := true, apart := false }
def FnWatchSaid : Prop := fnWatchRow.holds Try.pinned (OpenSpec.ofChange fnWatchSpec)

/-- ITS FALSE NEIGHBOUR: 'it returns false'. Refute it at one input. -/
def fnWatchWrong : ChangeSpec := { name := "fnWatch", fn := fun _ => fun
  | [d1, d2] => { results := [.lit (.bool false)], args := [d1, d2] }
  | _ => none }
def FnWatchWrongFalsely : Prop := fnWatchRow.holds Try.pinned (OpenSpec.ofChange fnWatchWrong)

/-- 'laws.FnExactAddCommit': WHATEVER THE INPUT: true; the input reads as it did. -/
def fnExactAddCommitSpec : ChangeSpec := { name := "fnExactAddCommit", fn := fun _ => fun
  | [d1, d2] => { results := [.lit (.bool true)], args := [d1, d2] }
  | _ => none }
def fnExactAddCommitRow : OpenClaim := { program := "ytpfkncmaeamacaa", sum := "d215d0f7bd08164be611cd7511bf1833812812abc0e3d5bcfb4b13fcb820138e", func := "loop.example/g00737/laws.FnExactAddCommit", spec := "fnExactAddCommit", unfollowed := true, recurses := true, apart := false }
def FnExactAddCommitSaid : Prop := fnExactAddCommitRow.holds Try.pinned (OpenSpec.ofChange fnExactAddCommitSpec)

/-- ITS FALSE NEIGHBOUR: 'it returns false'. Refute it at one input. -/
def fnExactAddCommitWrong : ChangeSpec := { name := "fnExactAddCommit", fn := fun _ => fun
  | [d1, d2] => { results := [.lit (.bool false)], args := [d1, d2] }
  | _ => none }
def FnExactAddCommitWrongFalsely : Prop := fnExactAddCommitRow.holds Try.pinned (OpenSpec.ofChange fnExactAddCommitWrong)

/- THE SECOND FORM. 'bulk': how many values and letters a reading holds, each counted each time it is reached (what is shared counts as often as it is met; a slice's spare places count too). A statement '..UptoSaid' is the law's where the arguments, and the package variables that the reading takes, are together of bulk at most 1048576: NARROWER than '..Said'. Prove '..Said' where nothing that the law and all that it calls make is longer than what came in: it says more and counts as full. Else prove '..UptoSaid'. A law counts once. -/
mutual
def uptoBulk {H : Type} : DataW H → Nat
  | .lit (.string bytes) => bytes.length + 1
  | .lit _ => 1
  | .nil => 1
  | .ptr d => uptoBulk d + 1
  | .slice elems spare => uptoBulkAll elems + uptoBulkAll spare + 1
  | .agg parts => uptoBulkAll parts + 1
  | .iface _ d => uptoBulk d + 1
  | .map entries => uptoBulkEntries entries + 1
  | .held _ => 1
def uptoBulkAll {H : Type} : List (DataW H) → Nat
  | [] => 0
  | d :: r => uptoBulk d + uptoBulkAll r
def uptoBulkEntries {H : Type} : List (Lit × DataW H) → Nat
  | [] => 0
  | x :: r => uptoBulkEntry x + uptoBulkEntries r
def uptoBulkEntry {H : Type} : Lit × DataW H → Nat
  | (.string bytes, d) => bytes.length + uptoBulk d + 1
  | (_, d) => uptoBulk d + 1
 end
def uptoSmall : (H : Type) → List (DataW H) → Bool := fun _ ds => decide (uptoBulkAll ds ≤ 1048576)
def OpenSpec.upto (s : _root_.Go.ChangeSpec) : _root_.Go.OpenSpec := { _root_.Go.OpenSpec.ofChange s with cond := some uptoSmall }

/-- 'laws.FnExactNextEvent', WHERE WHAT IT READS IS OF BULK AT MOST 1048576: true; the input reads as it did. -/
def fnExactNextEventUptoRow : OpenClaim := { program := "ytpfkncmaeamacaa", sum := "d215d0f7bd08164be611cd7511bf1833812812abc0e3d5bcfb4b13fcb820138e", func := "loop.example/g00737/laws.FnExactNextEvent", spec := "fnExactNextEvent", unfollowed := true, recurses := true, apart := false, narrowed := true }
def FnExactNextEventUptoSaid : Prop := fnExactNextEventUptoRow.holds Try.pinned (OpenSpec.upto fnExactNextEventSpec)

/-- 'laws.FnExactNoteRef', WHERE WHAT IT READS IS OF BULK AT MOST 1048576: true; the input reads as it did. -/
def fnExactNoteRefUptoRow : OpenClaim := { program := "ytpfkncmaeamacaa", sum := "d215d0f7bd08164be611cd7511bf1833812812abc0e3d5bcfb4b13fcb820138e", func := "loop.example/g00737/laws.FnExactNoteRef", spec := "fnExactNoteRef", unfollowed := true, recurses := true, apart := false, narrowed := true }
def FnExactNoteRefUptoSaid : Prop := fnExactNoteRefUptoRow.holds Try.pinned (OpenSpec.upto fnExactNoteRefSpec)

/-- 'laws.FnWatch', WHERE WHAT IT READS IS OF BULK AT MOST 1048576: true; the input reads as it did. -/
def fnWatchUptoRow : OpenClaim := { program := "ytpfkncmaeamacaa", sum := "d215d0f7bd08164be611cd7511bf1833812812abc0e3d5bcfb4b13fcb820138e", func := "loop.example/g00737/laws.FnWatch", spec := "fnWatch", unfollowed := true, recurses := true, apart := false, narrowed := true }
def FnWatchUptoSaid : Prop := fnWatchUptoRow.holds Try.pinned (OpenSpec.upto fnWatchSpec)

/-- 'laws.FnExactAddCommit', WHERE WHAT IT READS IS OF BULK AT MOST 1048576: true; the input reads as it did. -/
def fnExactAddCommitUptoRow : OpenClaim := { program := "ytpfkncmaeamacaa", sum := "d215d0f7bd08164be611cd7511bf1833812812abc0e3d5bcfb4b13fcb820138e", func := "loop.example/g00737/laws.FnExactAddCommit", spec := "fnExactAddCommit", unfollowed := true, recurses := true, apart := false, narrowed := true }
def FnExactAddCommitUptoSaid : Prop := fnExactAddCommitUptoRow.holds Try.pinned (OpenSpec.upto fnExactAddCommitSpec)

end Rows
end Go.Proofs.Ytpfkncmaeamacaa
