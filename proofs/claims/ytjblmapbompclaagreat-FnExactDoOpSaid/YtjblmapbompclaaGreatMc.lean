/- slices.Insert at rows of entries: the walks. -/
import Derived.Test.YtjblmapbompclaaGreatMb
import Derived.WalkKit
import Derived.Lib.AppendZerosOnto
namespace Go.Proofs
open Go Go.RowKit Fw
set_option linter.all false
theorem wpList_append_run0 {P : Program} (w : World) {ops : Array Oper} {rest : List Oper} {o : Oper} {a : Act} {Q : Exit → Act → World → Prop} (hgd : o.guard = none) (d s : Operand) (t t' : TypeId)
    (ho : o.op = .call { callee := .builtin .append, args := #[d, s], argTypes := #[t, t'] }) (v u : Value) (hd : a.eval d = v) (hs : a.eval s = u) {v' : Value} {w' : World}
    (hr : (Builtin.append_ #[t, t'] o.type #[v, u]).run P w = .ok v' w') (h : wpList P ops Q rest (a.put o.dst v') w') : wpList P ops Q (o :: rest) a w :=
  wpList_plain hgd fun _ hK => by
    unfold Oper.wp execOp
    simp only [ho, resolve, invoke, builtin, Sem.run_bind, Sem.run_pure, Result.andThen_ok, List.map_toArray, List.map_cons, List.map_nil, hd, hs, hr]
    exact hK _ _ h
theorem wpList_copy_run0 {P : Program} (w : World) {ops : Array Oper} {rest : List Oper} {o : Oper} {a : Act} {Q : Exit → Act → World → Prop} (hgd : o.guard = none) (d s : Operand) (t t' : TypeId)
    (ho : o.op = .call { callee := .builtin .copy, args := #[d, s], argTypes := #[t, t'] }) (v u : Value) (hd : a.eval d = v) (hs : a.eval s = u) {v' : Value} {w' : World}
    (hr : (Builtin.copy_ #[t, t'] o.type #[v, u]).run P w = .ok v' w') (h : wpList P ops Q rest (a.put o.dst v') w') : wpList P ops Q (o :: rest) a w :=
  wpList_plain hgd fun _ hK => by
    unfold Oper.wp execOp
    simp only [ho, resolve, invoke, builtin, Sem.run_bind, Sem.run_pure, Result.andThen_ok, List.map_toArray, List.map_cons, List.map_nil, hd, hs, hr]
    exact hK _ _ h
theorem Tryz.grown [GInv] (w : World) (base : Option Addr) (n cap : Nat) (olds cv : List Value) (hol : olds.length = n * 2) (hcv : cv.length = 2) (g : Nat) (hg : n + 1 ≤ g) (hgm : g ≤ 9223372036854775807) :
    ∀ w', w' = w.drew.alloc (.cells ((olds ++ cv).toArray ++ Builtin.zeroCells (Value.agg #[.string ⟨#[]⟩, .int .i64 0]).cells (g - (n + 1))) 205) →
      w.heap.size < w'.heap.size ∧ Kept (fun c => w.heap.size ≤ c) w w' ∧ (∀ j, j < g * 2 → (w'.cell? ⟨w.heap.size, 0 + j, none⟩).isSome = true) ∧ NFr w' w.heap.size 0 g 2 ∧ Seg w' w.heap.size 0 (olds ++ cv) := by
  rintro w' rfl
  have hw' : w.drew.alloc (.cells ((olds ++ cv).toArray ++ Builtin.zeroCells (Value.agg #[.string ⟨#[]⟩, .int .i64 0]).cells (g - (n + 1))) 205) = mkW w.drew (.cells ((olds ++ cv).toArray ++ Builtin.zeroCells (Value.agg #[.string ⟨#[]⟩, .int .i64 0]).cells (g - (n + 1))) 205) := rfl
  rw [hw']
  have hsz : ((olds ++ cv).toArray ++ Builtin.zeroCells (Value.agg #[.string ⟨#[]⟩, .int .i64 0]).cells (g - (n + 1))).size = g * 2 := by
    simp [Builtin.zeroCells, Value.cells, hol, hcv]; omega
  have hcell : ∀ i, (mkW w.drew (.cells ((olds ++ cv).toArray ++ Builtin.zeroCells (Value.agg #[.string ⟨#[]⟩, .int .i64 0]).cells (g - (n + 1))) 205)).cell? ⟨w.heap.size, i, none⟩ = ((olds ++ cv).toArray ++ Builtin.zeroCells (Value.agg #[.string ⟨#[]⟩, .int .i64 0]).cells (g - (n + 1)))[i]? := fun i => mkW_cell w.drew _ 205 (0, 0) i
  have hfz : ∀ i, (mkW w.drew (.cells ((olds ++ cv).toArray ++ Builtin.zeroCells (Value.agg #[.string ⟨#[]⟩, .int .i64 0]).cells (g - (n + 1))) 205)).frozen? ⟨w.heap.size, i, none⟩ = false := fun i => mkW_frozen w.drew _ 205 (0, 0) i (by simp)
  refine ⟨by rw [mkW_size]; exact Nat.lt_succ_self _, ⟨rfl, rfl, rfl, by rw [mkW_size]; exact Nat.le_succ _, fun b hb _ => mkW_old w.drew _ b hb⟩, fun j hj => ?_, ⟨fun i _ => hfz _, fun _ => ⟨hfz, hgm⟩⟩, fun i hi => ?_⟩
  · rw [hcell, Array.getElem?_eq_getElem (by rw [hsz]; omega)]; rfl
  · rw [hcell, Nat.zero_add, Array.getElem?_append_left (by simpa using hi)]
    simp
set_option maxHeartbeats 2000000 in
set_option maxRecDepth 100000 in
theorem Tryz.ins_nil [GInv] : InsNil Tryz.prog 311 2 := fun vb vo vc cv w lv hvb hs h1 hvc => by
  obtain ⟨i0, hi0, hz0, hz1, hz2⟩ := info_parts Tryz.infoEntry
  have z205 := Tryz.sizeOf205
  have t39 := Tryz.underlying39
  have a205 := Tryz.isAgg205
  have mixed : Tryz.prog.follows .mixedOrders = true := by kernel_rfl
  have hap : ∀ ty, (Builtin.append_ #[39, 39] ty #[.slice none 0 0, .slice (some ⟨vb, vo, none⟩) 1 vc]).run Tryz.prog w = .ok (.slice (some ⟨w.heap.size, 0, none⟩) 1 (grownCap w 1 0 205)) (w.drew.alloc (.cells (([] ++ cv).toArray ++ Builtin.zeroCells (Value.agg #[.string ⟨#[]⟩, .int .i64 0]).cells (grownCap w 1 0 205 - (0 + 1))) 205)) := fun ty => by
    have := run_append_grow_src (P := Tryz.prog) w 39 39 ty 205 i0 _ t39 hi0 hz0 none 0 0 [] (by simp [Builtin.firstCells]) (.slice (some ⟨vb, vo, none⟩) 1 vc) 1 cv (Src.ofSlice w t39 ⟨vb, vo, none⟩ 1 vc cv (by rw [hz1, lv]) (fun j u hj => by rw [Addr.add_lit]; exact Seg.get? hs j u hj) h1) (by omega) (by omega) (by rw [hz2]; decide)
    exact this
  have hge := grownCap_ge w 1 0 205
  have hgm := grownCap_le_maxLen w 1 0 205 (by decide)
  generalize grownCap w 1 0 205 = g at hap hge hgm
  have X := Tryz.grown w none 0 0 [] cv rfl lv g hge (by unfold maxLen at hgm; omega)
  have X : Hid _ := X
  clear hs h1
  go_enter Tryz.func311, Tryz.ntmps311
  go_wp2_with (at_builtin; refine wpList_append_run0 _ rfl _ _ 39 39 rfl _ _ rfl rfl (hap _) ?_)
  go_ret
  obtain ⟨q1, q2, q3, q4, q5⟩ := X.out _ rfl
  exact ⟨w.heap.size, 0, g, rfl, Nat.le_refl _, q1, hge, q2, q3, q4, q5⟩
set_option maxHeartbeats 2000000 in
set_option maxRecDepth 100000 in
theorem Tryz.ins_end [GInv] (b off cap n vb vo vc : Nat) (cs cv : List Value) (w : World) (hcap : n ≤ cap) (hn : n + 1 ≤ 268435456) (lc : cs.length = n * 2) (lv : cv.length = 2) (hne : vb ≠ b) (hb : b < w.heap.size) (hvb : vb < w.heap.size)
    (hs : Seg w b off cs) (hv : Seg w vb vo cv) (h1 : ∀ v ∈ cs, v.oneCell' = true) (h2 : ∀ v ∈ cv, v.oneCell' = true) (hsp : ∀ j, j < cap * 2 → (w.cell? ⟨b, off + j, none⟩).isSome = true) (hfz : NFr w b off cap 2) (hvc : 1 ≤ vc) :
    Calls Tryz.prog 311 #[.slice (some ⟨b, off, none⟩) n cap, .int .i64 n, .slice (some ⟨vb, vo, none⟩) 1 vc] w fun e w' => ∃ b' off' cap', e = .returned (.slice (some ⟨b', off', none⟩) (n + 1) cap') ∧ (b' = b ∨ w.heap.size ≤ b') ∧ b' < w'.heap.size ∧ n + 1 ≤ cap' ∧ Kept (fun c => w.heap.size ≤ c ∨ c = b) w w' ∧
      (∀ j, j < cap' * 2 → (w'.cell? ⟨b', off' + j, none⟩).isSome = true) ∧ NFr w' b' off' cap' 2 ∧ Seg w' b' off' (cs ++ cv) := by
  obtain ⟨i0, hi0, hz0, hz1, hz2⟩ := info_parts Tryz.infoEntry
  have z205 := Tryz.sizeOf205
  have t39 := Tryz.underlying39
  have a205 := Tryz.isAgg205
  have mixed : Tryz.prog.follows .mixedOrders = true := by kernel_rfl
  have hm := (hfz.2 (by omega)).2
  have hsrc : Src Tryz.prog i0.size 39 (.slice (some ⟨vb, vo, none⟩) 1 vc) 1 cv w := Src.ofSlice w t39 ⟨vb, vo, none⟩ 1 vc cv (by rw [hz1, lv]) (fun j u hj => by rw [Addr.add_lit]; exact Seg.get? hv j u hj) h2
  obtain ⟨b', off', cap', w2, hap, X⟩ : ∃ b' off' cap' w2, (∀ ty, (Builtin.append_ #[39, 39] ty #[.slice (some ⟨b, off, none⟩) n cap, .slice (some ⟨vb, vo, none⟩) 1 vc]).run Tryz.prog w = .ok (.slice (some ⟨b', off', none⟩) (n + 1) cap') w2) ∧
      Hid ((b' = b ∨ w.heap.size ≤ b') ∧ b' < w2.heap.size ∧ n + 1 ≤ cap' ∧ Kept (fun c => w.heap.size ≤ c ∨ c = b) w w2 ∧ (∀ j, j < cap' * 2 → (w2.cell? ⟨b', off' + j, none⟩).isSome = true) ∧ NFr w2 b' off' cap' 2 ∧ Seg w2 b' off' (cs ++ cv)) := by
    by_cases hroom : n + 1 ≤ cap
    · have run := fun ty => run_append_room_src (P := Tryz.prog) (w := w) 39 39 ty 205 i0 t39 hi0 b off n cap (.slice (some ⟨vb, vo, none⟩) 1 vc) 1 cv hsrc hroom
        (fun j hj => by rw [hz1, Nat.add_assoc]; exact hsp _ (by omega)) (fun j hj => (hfz.2 (by omega)).1 _)
      rw [hz1] at run
      refine ⟨b, off, cap, _, run, .inl rfl, by rw [setCells_size]; exact hb, hroom, setCells_kept (M := fun c => w.heap.size ≤ c ∨ c = b) b (.inr rfl) _ _ _, fun j hj => ?_, hfz.of fun q => World.frozen?_setCells _ _ _ _ _, ?_⟩
      · by_cases hin : n * 2 ≤ j ∧ j < n * 2 + cv.length
        · have := World.cell?_setCells_in b cv (off + n * 2) w (fun q hq => by rw [Nat.add_assoc]; exact hsp _ (by omega)) (j - n * 2) (by omega)
          rw [show off + j = off + n * 2 + (j - n * 2) by omega, this]; rfl
        · rw [World.cell?_setCells_out b cv _ w _ (fun _ _ => by simp only; omega)]; exact hsp j hj
      · refine Seg.append (fun q hq => ?_) (fun q hq => ?_)
        · rw [World.cell?_setCells_out b cv _ w _ (fun _ _ => by simp only; omega)]; exact hs q hq
        · rw [lc]; exact World.cell?_setCells_in b cv (off + n * 2) w (fun q hq => by rw [Nat.add_assoc]; exact hsp _ (by omega)) q hq
    · have run := fun ty => run_append_grow_src (P := Tryz.prog) (w := w) 39 39 ty 205 i0 _ t39 hi0 hz0 (some ⟨b, off, none⟩) n cap cs
        (by rw [hz1]; exact run_firstCells_some w.drew 2 n ⟨b, off, none⟩ n cap cs lc (fun j u hj => by rw [Addr.add_lit]; exact Seg.get? (w := w) hs j u hj)) (.slice (some ⟨vb, vo, none⟩) 1 vc) 1 cv hsrc (by omega) (by omega)
        (growslice_fits (by omega) (by rw [hz2]; omega))
      have hge := grownCap_ge w (n + 1) cap 205
      have hgm := grownCap_le_maxLen w (n + 1) cap 205 (by unfold maxLen; omega)
      generalize grownCap w (n + 1) cap 205 = g at run hge hgm
      obtain ⟨q1, q2, q3, q4, q5⟩ := Tryz.grown w none n cap cs cv lc lv g hge (by unfold maxLen at hgm; omega) _ rfl
      exact ⟨w.heap.size, 0, g, _, run, .inr (Nat.le_refl _), q1, hge, ⟨q2.os, q2.tape, q2.output, q2.size, fun c hc hM => q2.block c hc fun e => hM (.inl e)⟩, q3, q4, q5⟩
  have hn0 : (0 : Int) ≤ (n : Int) := by omega
  clear hs h1 h2 hv hsp hfz hsrc lc lv
  go_enter Tryz.func311, Tryz.ntmps311
  go_wp2_with (at_builtin; refine wpList_append_run0 _ rfl _ _ 39 39 rfl _ _ rfl rfl (hap _) ?_)
  all_goals go_ret
  all_goals exact ⟨b', off', cap', rfl, X.out⟩

end Go.Proofs
