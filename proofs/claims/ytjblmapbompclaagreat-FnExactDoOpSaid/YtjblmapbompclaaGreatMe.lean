/- slices.SortFunc at edits by their keys: the walk of the closure. -/
import Derived.Test.YtjblmapbompclaaGreatFwMe
import Derived.Test.YtjblmapbompclaaGreatShelf
import Derived.WalkKit
import Derived.Shelf.SlSortCmp.NoneTotal
namespace Go.Proofs
open Go Go.RowKit Go.Sort Fw
set_option linter.all false
abbrev edT : Ty := .pair .str (.pair (.int .i64) .bool)
set_option maxHeartbeats 1000000 in
theorem Tryz.cmpClosure (x y : edT.den) (W : World) : Calls Tryz.prog 317 #[.agg (encT edT x).toArray, .agg (encT edT y).toArray] W fun e w' => e = .returned (.int .i64 (keyCmp x y)) ∧ ∃ q os', w' = grow (W.drewN q) os' := by
  have hcon := fun W' => Tryz.strings_Compare ⟨x.1.toArray⟩ ⟨y.1.toArray⟩ W'
  obtain ⟨x1, x2, x3⟩ := x
  obtain ⟨y1, y2, y3⟩ := y
  have e1 : (encT edT (x1, x2, x3)).toArray = #[.string ⟨x1.toArray⟩, .int .i64 x2, .bool x3] := rfl
  have e2 : (encT edT (y1, y2, y3)).toArray = #[.string ⟨y1.toArray⟩, .int .i64 y2, .bool y3] := rfl
  rw [e1, e2]
  unfold keyCmp
  simp only at hcon ⊢
  have mixed : Tryz.prog.follows .mixedOrders = true := by kernel_rfl
  generalize Lib.compareBytes x1 y1 = r at hcon ⊢
  go_enter Tryz.func317, Tryz.ntmps317
  go_wp2_with (go_at_call 254; refine (hcon _).mono ?_; rintro e w' ⟨rfl, rfl⟩)
  go_ret
  exact ⟨rfl, 0, _, by rw [alloc_eq_grow, alloc_eq_grow, grow_grow]; rfl⟩
theorem Tryz.sort_raw : SortRaw Tryz.prog 316 317 edT keyCmp := fun blk off cap d w hH hblk hsz => by
  have eg : ∀ args w, (callFunc 317 args).run Tryz.prog w = .ok (.enter 317 args) w := enters_of Tryz.func317 (by kernel_rfl) rfl
  have := AnyQ.slices_SortFunc_eq Tryz.laysSort 3 Tryz.isAgg226 Tryz.sizeOf226 (encT edT) (fun x => encT_len edT x rfl w) (fun x v hv => Rd.one edT (rd_encT (w := w) edT x rfl) v hv) keyCmp keyCmp_swo 317 #[] blk off cap d w eg (fun _ _ _ _ x y => Tryz.cmpClosure x y _) hH hblk hsz
  exact this
theorem Tryz.sort_nil (w : World) : Calls Tryz.prog 316 #[.slice none 0 0, .func (.func 317) #[] #[]] w fun e w' => e = .returned (.tuple #[]) ∧ w' = w := AnyF.slices_SortFunc_none Tryz.laysSort none 0 _ w
end Go.Proofs
