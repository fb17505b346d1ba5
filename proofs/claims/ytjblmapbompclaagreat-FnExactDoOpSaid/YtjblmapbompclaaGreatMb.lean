/- slices.Delete and slices.Insert at rows of entries: the walks. -/
import Derived.Test.YtjblmapbompclaaGreatFwMa
import Derived.Test.YtjblmapbompclaaGreatProg
import Derived.WalkKit
import Derived.WalkSpells
import Derived.OwnWalk
import Derived.Deep.RegionLaw
import Derived.Lib.AppendZerosOnto
import Derived.Shelf.RegionOpenPlain
namespace Go.Proofs
open Go Go.RowKit Fw
set_option linter.all false
theorem Tryz.infoEntry : (Tryz.prog.info? 205).map (fun i => (i.zero, i.size, i.bytes)) = some (some (.agg #[.string ByteArray.empty, .int .i64 0]), 2, 24) := by kernel_rfl
theorem Seg.get? {w : World} {b off : Nat} {cs : List Value} (h : Seg w b off cs) (j : Nat) (v : Value) (e : cs[j]? = some v) : w.cell? ⟨b, off + j, none⟩ = some v := by
  obtain ⟨hlt, rfl⟩ := List.getElem?_eq_some_iff.1 e
  exact h j hlt
set_option maxHeartbeats 2000000 in
set_option maxRecDepth 100000 in
theorem Tryz.del_raw [GInv] : DelRaw Tryz.prog 310 2 := fun b off cap n i c1 ci c2 w hin hcap l1 l2 l3 hs h1 hsp hfz => by
  obtain ⟨i0, hi0, hz0, hz1, hz2⟩ := info_parts Tryz.infoEntry
  have z205 := Tryz.sizeOf205
  have t39 := Tryz.underlying39
  have a205 := Tryz.isAgg205
  have mixed : Tryz.prog.follows .mixedOrders = true := by kernel_rfl
  obtain ⟨j, hj⟩ : ∃ j : Nat, j = i + 1 := ⟨_, rfl⟩
  rw [show ((i : Int) + 1) = (j : Int) by omega]
  rw [← hj] at l3
  have hs2 : Seg w b (off + j * 2) c2 := by
    have := hs.right.right
    rw [l1, l2, show off + i * 2 + 2 = off + j * 2 by omega] at this
    exact this
  have hsrc : ∃ A : Addr, (if cap = j then some (⟨b, off, none⟩ : Addr) else some ⟨b, off + j * 2, none⟩) = some A ∧ Hid (∀ t u, c2[t]? = some u → w.drew.cell? (A.add t) = some u) := by
    by_cases h : cap = j
    · refine ⟨⟨b, off, none⟩, by simp [h], fun t u hu => ?_⟩
      have : c2.length = 0 := by omega
      rw [List.length_eq_zero_iff.1 this] at hu
      simp at hu
    · refine ⟨⟨b, off + j * 2, none⟩, by simp [h], fun t u hu => ?_⟩
      rw [Addr.add_lit]
      exact Seg.get? hs2 t u hu
  obtain ⟨A, hA, hsrc⟩ := hsrc
  obtain ⟨W1, hW1⟩ : ∃ W1, W1 = w.drew.setCells b (off + i * 2) c2 := ⟨_, rfl⟩
  have z1 : (Builtin.zeroCells (Value.agg #[.string ⟨#[]⟩, .int .i64 0]).cells (n - (n - 1))).toList = [.string ⟨#[]⟩, .int .i64 0] := by
    rw [show n - (n - 1) = 1 by omega]; simp [Builtin.zeroCells, Value.cells, Array.range, Array.ofFn]
    try rfl
  have hlt : ∀ j, j < cap * 2 → (W1.cell? ⟨b, off + j, none⟩).isSome = true := fun j hj => by
    rw [hW1]
    by_cases hin : i * 2 ≤ j ∧ j < i * 2 + c2.length
    · have := World.cell?_setCells_in b c2 (off + i * 2) w.drew (fun q hq => by rw [Nat.add_assoc]; exact hsp _ (by omega)) (j - i * 2) (by omega)
      rw [show off + j = off + i * 2 + (j - i * 2) by omega, this]; rfl
    · rw [World.cell?_setCells_out b c2 _ w.drew _ (fun _ _ => by simp only; omega)]; exact hsp j hj
  have hft : ∀ j, W1.frozen? ⟨b, j, none⟩ = false := fun j => by rw [hW1, World.frozen?_setCells]; exact (hfz.2 (by omega)).1 j
  have s1 : Hid (c2.length = (n - j) * 2) := l3
  have s2 : Hid (∀ u ∈ c2, u.oneCell' = true) := fun u hu => h1 u (by simp [hu])
  have s3 : Hid (∀ t, t < c2.length → (w.drew.cell? ⟨b, off + i * 2 + t, none⟩).isSome = true ∧ w.drew.frozen? ⟨b, off + i * 2 + t, none⟩ = false) := fun t ht => ⟨by rw [Nat.add_assoc]; exact hsp _ (by omega), (hfz.2 (by omega)).1 _⟩
  have hcl : ∀ ty, (Builtin.clear_ #[39] ty #[.slice (some ⟨b, off + (i + (n - j)) * 2, none⟩) (n - (i + (n - j))) (cap - (i + (n - j)))]).run Tryz.prog W1 = .ok (.tuple #[]) (W1.setCells b (off + (n - 1) * 2) [.string ⟨#[]⟩, .int .i64 0]) := fun ty => by
    have := run_clearK W1 39 205 ty _ Tryz.underlying39 Tryz.zeroValue205 b (off + (n - 1) * 2) (n - (n - 1)) (cap - (n - 1)) (by omega) (fun j hj => by rw [z1] at hj; simp at hj; rw [Nat.add_assoc]; exact hlt _ (by omega)) (fun j hj => hft _) (fun v hv => by rw [z1] at hv; simp at hv; rcases hv with rfl | rfl <;> rfl)
    rw [z1] at this
    rw [show i + (n - j) = n - 1 by omega]
    exact this
  have hic : i ≤ cap := by omega
  have hij : i < j := by omega
  have hjn : j ≤ n := by omega
  have hjc : j ≤ cap := by omega
  have hm := (hfz.2 (by omega)).2
  have X : Hid (∀ w', w' = (W1.setCells b (off + (n - 1) * 2) [.string ⟨#[]⟩, .int .i64 0]) → Kept (fun c => c = b) w w' ∧ w'.heap.size = w.heap.size ∧ (∀ j, j < cap * 2 → (w'.cell? ⟨b, off + j, none⟩).isSome = true) ∧ NFr w' b off cap 2 ∧ Seg w' b off (c1 ++ c2)) := by
    rintro w' rfl
    have hc2 : ∀ q (hq : q < c2.length), W1.cell? ⟨b, off + i * 2 + q, none⟩ = some c2[q] := fun q hq => by
      rw [hW1]
      have := World.cell?_setCells_in b c2 (off + i * 2) w.drew (fun q hq => by rw [Nat.add_assoc]; exact hsp _ (by omega)) q hq
      rw [this]
    have hc1 : ∀ q (hq : q < c1.length), W1.cell? ⟨b, off + q, none⟩ = some c1[q] := fun q hq => by
      rw [hW1, World.cell?_setCells_out b c2 _ w.drew _ (fun _ _ => by simp only; omega)]
      exact hs.left q hq
    have out : ∀ q, q < (n - 1) * 2 → (W1.setCells b (off + (n - 1) * 2) [.string ⟨#[]⟩, .int .i64 0]).cell? ⟨b, off + q, none⟩ = W1.cell? ⟨b, off + q, none⟩ := fun q hq => World.cell?_setCells_out b _ _ W1 _ (fun _ _ => by simp only; omega)
    refine ⟨?_, ?_, fun q hq => ?_, ?_, ?_⟩
    · refine Kept.trans (b := W1) ?_ (setCells_kept (M := fun c => c = b) b rfl _ _ _)
      rw [hW1]
      refine Kept.trans (b := w.drew) ⟨rfl, rfl, rfl, Nat.le_refl _, fun _ _ _ => rfl⟩ (setCells_kept (M := fun c => c = b) b rfl _ _ _)
    · rw [setCells_size, hW1, setCells_size]; rfl
    · by_cases hin : (n - 1) * 2 ≤ q ∧ q < (n - 1) * 2 + 2
      · have := World.cell?_setCells_in b [.string ⟨#[]⟩, .int .i64 0] (off + (n - 1) * 2) W1 (fun q hq => by simp at hq; rw [Nat.add_assoc]; exact hlt _ (by omega)) (q - (n - 1) * 2) (by simp; omega)
        rw [show off + q = off + (n - 1) * 2 + (q - (n - 1) * 2) by omega, this]; rfl
      · rw [World.cell?_setCells_out b _ _ W1 _ (fun _ _ => by simp only [List.length_cons, List.length_nil]; omega)]; exact hlt q hq
    · refine hfz.of fun q => ?_
      rw [World.frozen?_setCells, hW1, World.frozen?_setCells]
      rfl
    · refine Seg.append (fun q hq => ?_) (fun q hq => ?_)
      · rw [out q (by omega)]; exact hc1 q hq
      · rw [l1, Nat.add_assoc, out _ (by omega), ← Nat.add_assoc]; exact hc2 q hq
  have hW : Hid (W1 = w.drew.setCells b (off + i * 2) c2) := hW1
  have hj' : Hid (j = i + 1) := hj
  clear hj
  clear hW1 hs hs2 h1 hsp hfz hlt hft z1 l3
  go_enter Tryz.func310, Tryz.ntmps310
  go_wp2_with fail
  go_region_law_o (refine step_append_room rfl (.tmp 22) (.tmp 25) 39 rfl 205 i0 2 Tryz.underlying39 hi0 hz1 b off i cap (by simp [Act.eval, Act.put]) A (n - j) (cap - j) c2 (by simp [Act.eval, Act.put, hA]) s1.out hsrc.out s2.out (by omega) s3.out ?_; rw [← hW.out])

  go_wp2
  all_goals go_ret
  all_goals exact ⟨by rw [show n - 1 = i + (n - j) by have := hj'.out; omega]; rfl, X.out _ rfl⟩

end Go.Proofs
