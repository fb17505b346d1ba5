/- slices.Insert at rows of entries, in the middle. -/
import Derived.Test.YtjblmapbompclaaGreatMc
namespace Go.Proofs
open Go Go.RowKit Fw
set_option linter.all false
theorem Tryz.cells_put [GInv] {b off cap k : Nat} {cs : List Value} {w : World} (h : ∀ j, j < cap → (w.cell? ⟨b, off + j, none⟩).isSome = true) (hk : k + cs.length ≤ cap) : ∀ j, j < cap → ((w.setCells b (off + k) cs).cell? ⟨b, off + j, none⟩).isSome = true := fun j hj => by
  by_cases hin : k ≤ j ∧ j < k + cs.length
  · have := World.cell?_setCells_in b cs (off + k) w (fun q hq => by rw [Nat.add_assoc]; exact h _ (by omega)) (j - k) (by omega)
    rw [show off + j = off + k + (j - k) by omega, this]; rfl
  · rw [World.cell?_setCells_out b cs _ w _ (fun _ _ => by simp only; omega)]; exact h j hj
theorem step_copy_run0 {P : Program} {ops : Array Oper} {o : Oper} {a : Act} {w : World} {K : Act → World → Prop} {Q : Exit → Act → World → Prop} {E : Prop}
    (hg : o.guard = none) (d x : Operand) (dT sT : TypeId) (hop : o.op = Op.call { callee := Callee.builtin Builtin.copy, args := #[d, x], argTypes := #[dT, sT] })
    (v u : Value) (hd : a.eval d = v) (hx : a.eval x = u) {v' : Value} {w' : World} (hr : (Builtin.copy_ #[dT, sT] o.type #[v, u]).run P w = .ok v' w') (hK : K (a.put o.dst v') w') :
    if Region.wanted o (yielded ops a.tmps) = true then Oper.wp P o a w K Q else E := by
  have hw : Region.wanted o (yielded ops a.tmps) = true := by simp [Region.wanted, hg]
  rw [if_pos hw]
  unfold Oper.wp
  simp [execOp, hop, resolve, invoke, builtin, hd, hx, hr, Result.andThen]
  exact hK
set_option maxHeartbeats 4000000 in
set_option maxRecDepth 100000 in
theorem Tryz.ins_shift [GInv] (b off cap n i vb vo vc : Nat) (c1 c2 cv : List Value) (w : World) (hin : i < n) (hroom : n + 1 ≤ cap) (l1 : c1.length = i * 2) (l2 : c2.length = (n - i) * 2) (lv : cv.length = 2) (hne : vb ≠ b) (hb : b < w.heap.size)
    (hs : Seg w b off (c1 ++ c2)) (hv : Seg w vb vo cv) (h1 : ∀ v ∈ c1 ++ c2, v.oneCell' = true) (h2 : ∀ v ∈ cv, v.oneCell' = true) (hsp : ∀ j, j < cap * 2 → (w.cell? ⟨b, off + j, none⟩).isSome = true) (hfz : NFr w b off cap 2) (hvc : 1 ≤ vc) :
    Calls Tryz.prog 311 #[.slice (some ⟨b, off, none⟩) n cap, .int .i64 i, .slice (some ⟨vb, vo, none⟩) 1 vc] w fun e w' => ∃ b' off' cap', e = .returned (.slice (some ⟨b', off', none⟩) (n + 1) cap') ∧ (b' = b ∨ w.heap.size ≤ b') ∧ b' < w'.heap.size ∧ n + 1 ≤ cap' ∧ Kept (fun c => w.heap.size ≤ c ∨ c = b) w w' ∧
      (∀ j, j < cap' * 2 → (w'.cell? ⟨b', off' + j, none⟩).isSome = true) ∧ NFr w' b' off' cap' 2 ∧ Seg w' b' off' (c1 ++ (cv ++ c2)) := by
  obtain ⟨i0, hi0, hz0, hz1, hz2⟩ := info_parts Tryz.infoEntry
  have z205 := Tryz.sizeOf205
  have t39 := Tryz.underlying39
  have a205 := Tryz.isAgg205
  have mixed : Tryz.prog.follows .mixedOrders = true := by kernel_rfl
  have hm := (hfz.2 (by omega)).2
  have hsz : (Tryz.prog.info? 205).map (·.size) = some 2 := by rw [hi0]; simp [hz1]
  have hfb := (hfz.2 (by omega)).1
  have hov : ∀ lb cb, (callFunc 314 #[.slice (some ⟨vb, vo, none⟩) 1 vc, .slice (some ⟨b, off + (i + 1) * 2, none⟩) lb cb]).run Tryz.prog w = .ok (.value (.bool false)) w := fun lb cb => by
    rw [run_callFunc_extern Tryz.func314 (by kernel_rfl) (by kernel_rfl) (by kernel_rfl) (e := Extern.SlicesOverlaps.overlaps #[39, 39] #[4]) (by kernel_rfl),
      run_overlaps_own w 39 4 205 t39 2 z205 vb vo b (off + (i + 1) * 2) 1 vc lb cb hne (by have := hv 0 (by omega); rw [Nat.add_zero] at this; rw [this]; rfl) (by rw [show off + (i + 1) * 2 = off + (i + 1) * 2 from rfl]; exact hsp _ (by omega)) hfb]
    rfl
  have hcp1 : ∀ ty dc sc, (Builtin.copy_ #[39, 39] ty #[.slice (some ⟨b, off + (i + 1) * 2, none⟩) (n - i) dc, .slice (some ⟨b, off + i * 2, none⟩) (n + 1 - i) sc]).run Tryz.prog w.drew = .ok (goInt (n - i : Nat)) (w.drew.setCells b (off + (i + 1) * 2) c2) := fun ty dc sc =>
    run_copyK w.drew 39 39 ty 205 2 b (off + (i + 1) * 2) _ dc ⟨b, off + i * 2, none⟩ _ sc (n - i) c2 t39 hsz (by simp only [Nat.min_def]; split <;> omega) l2
      (fun j v hj => by rw [Addr.add_lit]; have := hs.right; rw [l1] at this; exact Seg.get? this j v hj)
      (fun j hj => by rw [Nat.add_assoc]; exact hsp _ (by omega)) (fun j hj => hfb _) (fun v hv => h1 v (by simp [hv]))
  obtain ⟨W1, hW1⟩ : ∃ W1, W1 = w.drew.setCells b (off + (i + 1) * 2) c2 := ⟨_, rfl⟩
  have hsp1 : ∀ k, k < cap * 2 → (W1.cell? ⟨b, off + k, none⟩).isSome = true := by rw [hW1]; exact Tryz.cells_put (w := w.drew) hsp (by omega)
  have hfb1 : ∀ k, W1.frozen? ⟨b, k, none⟩ = false := fun k => by rw [hW1, World.frozen?_setCells]; exact hfb k
  have hcp2 : ∀ (W : World), (∀ x, W.cell? x = W1.cell? x) → (∀ x, W.frozen? x = W1.frozen? x) → ∀ ty dc, (Builtin.copy_ #[39, 39] ty #[.slice (some ⟨b, off + i * 2, none⟩) (n + 1 - i) dc, .slice (some ⟨vb, vo, none⟩) 1 vc]).run Tryz.prog W = .ok (goInt (1 : Nat)) (W.setCells b (off + i * 2) cv) := fun W hWc hWf ty dc =>
    run_copyK W 39 39 ty 205 2 b (off + i * 2) _ dc ⟨vb, vo, none⟩ 1 vc 1 cv t39 hsz (by simp only [Nat.min_def]; split <;> omega) (by omega)
      (fun j v hj => by rw [Addr.add_lit, hWc, hW1, World.cell?_setCells_out b _ _ _ _ (fun h _ => absurd h hne)]; exact Seg.get? hv j v hj)
      (fun j hj => by rw [hWc, Nat.add_assoc]; exact hsp1 _ (by omega)) (fun j hj => by rw [hWf]; exact hfb1 _) h2
  have X : Hid (∀ W : World, (∀ x, W.cell? x = W1.cell? x) → (∀ x, W.frozen? x = W1.frozen? x) → W.heap = W1.heap → W.os = W1.os → W.tape = W1.tape → W.output = W1.output → b < (W.setCells b (off + i * 2) cv).heap.size ∧ n + 1 ≤ cap ∧ Kept (fun c => w.heap.size ≤ c ∨ c = b) w (W.setCells b (off + i * 2) cv) ∧
      (∀ j, j < cap * 2 → ((W.setCells b (off + i * 2) cv).cell? ⟨b, off + j, none⟩).isSome = true) ∧ NFr (W.setCells b (off + i * 2) cv) b off cap 2 ∧ Seg (W.setCells b (off + i * 2) cv) b off (c1 ++ (cv ++ c2))) := fun W hWc hWf hWh hWo hWt hWu => by
    have hspW : ∀ k, k < cap * 2 → (W.cell? ⟨b, off + k, none⟩).isSome = true := fun k hk => by rw [hWc]; exact hsp1 k hk
    have hc2 : ∀ q (hq : q < c2.length), W1.cell? ⟨b, off + (i + 1) * 2 + q, none⟩ = some c2[q] := fun q hq => by
      rw [hW1]; exact World.cell?_setCells_in b c2 (off + (i + 1) * 2) w.drew (fun q hq => by rw [Nat.add_assoc]; exact hsp _ (by omega)) q hq
    have hc1 : ∀ q (hq : q < c1.length), W1.cell? ⟨b, off + q, none⟩ = some c1[q] := fun q hq => by
      rw [hW1, World.cell?_setCells_out b c2 _ w.drew _ (fun _ _ => by simp only; omega)]; exact hs.left q hq
    refine ⟨?_, hroom, ?_, Tryz.cells_put hspW (by omega), hfz.of fun q => ?_, ?_⟩
    · rw [setCells_size, hWh, hW1, setCells_size]; exact hb
    · refine Kept.trans (b := W) ?_ (setCells_kept (M := fun c => w.heap.size ≤ c ∨ c = b) b (.inr rfl) _ _ _)
      have k1 : Kept (fun c => w.heap.size ≤ c ∨ c = b) w.drew W1 := by rw [hW1]; exact setCells_kept b (.inr rfl) _ _ _
      exact ⟨by rw [hWo]; exact k1.os, by rw [hWt]; exact k1.tape, by rw [hWu]; exact k1.output, by rw [hWh]; exact k1.size, fun c hc hM => by rw [hWh]; exact k1.block c hc hM⟩
    · rw [World.frozen?_setCells, hWf, hW1, World.frozen?_setCells]; rfl
    · refine Seg.append (fun q hq => ?_) (Seg.append (fun q hq => ?_) (fun q hq => ?_))
      · rw [World.cell?_setCells_out b cv _ W _ (fun _ _ => by simp only; omega), hWc]; exact hc1 q hq
      · rw [l1]; exact World.cell?_setCells_in b cv (off + i * 2) W (fun q hq => by rw [Nat.add_assoc]; exact hspW _ (by omega)) q hq
      · rw [World.cell?_setCells_out b cv _ W _ (fun _ _ => by simp only; omega), hWc, l1, lv, show off + i * 2 + 2 + q = off + (i + 1) * 2 + q by omega]; exact hc2 q hq
  rw [← hW1] at hcp1
  have hz2 : ¬ ((i : Int) = (n : Int)) := by omega
  have hw1 : IntKind.i64.wrap ((i : Int) + 1) = (i : Int) + 1 := by rw [IntKind.wrap_i64]; omega
  have hw2 : IntKind.i64.wrap ((n : Int) + 1) = (n : Int) + 1 := by rw [IntKind.wrap_i64]; omega
  have hb1 : (0 : Int) ≤ (i : Int) + 1 := by omega
  have hle : i ≤ n := by omega
  have hln : n ≤ cap := by omega
  have htn : ((i : Int) + 1).toNat = i + 1 := by omega
  have htm : ((n : Int) + 1).toNat = n + 1 := by omega
  have hb2 : ¬ (cap = i + 1) := by omega
  have hb3 : (i : Int) ≤ (n : Int) + 1 := by omega
  have hb4 : ¬ (cap = i) := by omega
  clear hs hv h1 h2 hsp hfz hfb hsp1 hfb1
  go_enter Tryz.func311, Tryz.ntmps311
  go_wp2_with (simp only [hov])
  go_region_law_o (refine step_copy_run0 rfl _ _ 39 39 rfl _ _ (by simp [Act.eval, Act.put]) (by simp [Act.eval, Act.put]) (hcp1 _ _ _) ?_)
  go_wp2_with (at_builtin; refine wpList_copy_run0 _ rfl _ _ 39 39 rfl _ _ rfl rfl (hcp2 _ (fun _ => rfl) (fun _ => rfl) _ _) ?_)
  all_goals go_ret
  all_goals exact ⟨b, off, cap, rfl, .inl rfl, by have := X.out _ (fun _ => rfl) (fun _ => rfl) rfl rfl rfl rfl; rw [hW1] at this; exact this⟩
set_option maxHeartbeats 4000000 in
set_option maxRecDepth 100000 in
theorem Tryz.ins_grow [GInv] (b off cap n i vb vo vc : Nat) (c1 c2 cv : List Value) (w : World) (hin : i < n) (hcap : n ≤ cap) (hroom : cap < n + 1) (hn : n + 1 ≤ 268435456) (l1 : c1.length = i * 2) (l2 : c2.length = (n - i) * 2) (lv : cv.length = 2) (hne : vb ≠ b) (hb : b < w.heap.size) (hvb : vb < w.heap.size)
    (hs : Seg w b off (c1 ++ c2)) (hv : Seg w vb vo cv) (h1 : ∀ v ∈ c1 ++ c2, v.oneCell' = true) (h2 : ∀ v ∈ cv, v.oneCell' = true) (hvc : 1 ≤ vc) :
    Calls Tryz.prog 311 #[.slice (some ⟨b, off, none⟩) n cap, .int .i64 i, .slice (some ⟨vb, vo, none⟩) 1 vc] w fun e w' => ∃ b' off' cap', e = .returned (.slice (some ⟨b', off', none⟩) (n + 1) cap') ∧ (b' = b ∨ w.heap.size ≤ b') ∧ b' < w'.heap.size ∧ n + 1 ≤ cap' ∧ Kept (fun c => w.heap.size ≤ c ∨ c = b) w w' ∧
      (∀ j, j < cap' * 2 → (w'.cell? ⟨b', off' + j, none⟩).isSome = true) ∧ NFr w' b' off' cap' 2 ∧ Seg w' b' off' (c1 ++ (cv ++ c2)) := by
  obtain ⟨i0, hi0, hz0, hz1, hz2⟩ := info_parts Tryz.infoEntry
  have z205 := Tryz.sizeOf205
  have t39 := Tryz.underlying39
  have a205 := Tryz.isAgg205
  have mixed : Tryz.prog.follows .mixedOrders = true := by kernel_rfl
  have hsz : (Tryz.prog.info? 205).map (·.size) = some 2 := by rw [hi0]; simp [hz1]
  have hs2 : Seg w b (off + i * 2) c2 := by have := hs.right; rwa [l1] at this
  have hkk : (n : Int) + 1 - (i : Int) = ((n + 1 - i : Nat) : Int) := by omega
  have hik : i + (n + 1 - i) = n + 1 := by omega
  have hold : (Builtin.firstCells i0.size i (.slice (some ⟨b, off, none⟩) i cap)).run Tryz.prog w.drew = .ok c1.toArray w.drew := by
    rw [hz1]
    exact run_firstCells_some w.drew 2 i ⟨b, off, none⟩ i cap c1 l1 (fun j u hj => by rw [Addr.add_lit]; exact Seg.get? (w := w) hs.left j u hj)
  have hrz : ∀ ty, (Builtin.append_ #[39, 3] ty #[.slice (some ⟨b, off, none⟩) i cap, .int .i64 ((n : Int) + 1 - (i : Int))]).run Tryz.prog w =
      .ok (.slice (some ⟨w.heap.size, 0, none⟩) (n + 1) (grownCap w (n + 1) cap 205)) (w.drew.alloc (.cells (c1.toArray ++ Builtin.zeroCells (Value.agg #[.string ⟨#[]⟩, .int .i64 0]).cells (n + 1 - i) ++ Builtin.zeroCells (Value.agg #[.string ⟨#[]⟩, .int .i64 0]).cells (grownCap w (n + 1) cap 205 - (n + 1))) 205)) := fun ty => by
    have h := Lib.run_append_grow_zeros (P := Tryz.prog) w 39 3 ty 205 i0 _ .i64 .i64 t39 Tryz.underlying3 hi0 hz0 (some ⟨b, off, none⟩) i cap c1 hold (n + 1 - i) (by omega) (by omega) (by omega) (by omega) (by rw [hz2]; omega) (by rw [hz2, hik]; exact growslice_fits hroom (by omega))
    rw [hik] at h
    rw [hkk]
    exact h
  have hge := grownCap_ge w (n + 1) cap 205
  have hgm := grownCap_le_maxLen w (n + 1) cap 205 (by unfold maxLen; omega)
  generalize grownCap w (n + 1) cap 205 = G at hrz hge hgm
  have hG63 : G ≤ 9223372036854775807 := by unfold maxLen at hgm; omega
  obtain ⟨ROW, hROW⟩ : ∃ ROW : Array Value, ROW = c1.toArray ++ Builtin.zeroCells (Value.agg #[.string ⟨#[]⟩, .int .i64 0]).cells (n + 1 - i) ++ Builtin.zeroCells (Value.agg #[.string ⟨#[]⟩, .int .i64 0]).cells (G - (n + 1)) := ⟨_, rfl⟩
  rw [← hROW] at hrz
  have hRl : ROW.size = G * 2 := by
    rw [hROW]
    simp [Builtin.zeroCells, Value.cells, l1]
    omega
  have hRc : ∀ q (hq : q < c1.length), ROW[q]? = some c1[q] := fun q hq => by
    rw [hROW, Array.append_assoc, Array.getElem?_append_left (by simpa using hq)]
    simp [hq]
  obtain ⟨W1, hW1⟩ : ∃ W1, W1 = w.drew.alloc (.cells ROW 205) := ⟨_, rfl⟩
  have e1 : W1 = mkW w.drew (.cells ROW 205) := hW1
  rw [← hW1] at hrz
  have hN0 : ∀ i, W1.cell? ⟨w.heap.size, i, none⟩ = ROW[i]? := fun i => by rw [e1]; exact mkW_cell w.drew _ 205 (0, 0) i
  have hN : ∀ j, j < G * 2 → (W1.cell? ⟨w.heap.size, 0 + j, none⟩).isSome = true := fun j hj => by rw [hN0, Array.getElem?_eq_getElem (by omega)]; rfl
  have hNf : ∀ j, W1.frozen? ⟨w.heap.size, j, none⟩ = false := fun j => by rw [e1]; exact mkW_frozen w.drew _ 205 (0, 0) j (by simp)
  have hO : ∀ c, c < w.heap.size → W1.heap[c]? = w.heap[c]? := fun c hc => by rw [e1]; exact mkW_old w.drew _ c hc
  have hk1 : Kept (fun c => w.heap.size ≤ c ∨ c = b) w W1 := ⟨by rw [e1]; rfl, by rw [e1]; rfl, by rw [e1]; rfl, by rw [e1, mkW_size]; exact Nat.le_succ _, fun c hc _ => hO c hc⟩
  have hsW : W1.heap.size = w.heap.size + 1 := by rw [e1]; exact mkW_size w.drew _
  have hs2' : Seg W1 b (off + i * 2) c2 := hs2.mono (hO b hb)
  have hv' : Seg W1 vb vo cv := hv.mono (hO vb hvb)
  have hbN : b ≠ w.heap.size := by omega
  have hvN : vb ≠ w.heap.size := by omega
  have hcpA : ∀ (W : World), (∀ x, W.cell? x = W1.cell? x) → (∀ x, W.frozen? x = W1.frozen? x) → ∀ ty dc, (Builtin.copy_ #[39, 39] ty #[.slice (some ⟨w.heap.size, i * 2, none⟩) (n + 1 - i) dc, .slice (some ⟨vb, vo, none⟩) 1 vc]).run Tryz.prog W = .ok (goInt (1 : Nat)) (W.setCells w.heap.size (i * 2) cv) := fun W hWc hWf ty dc =>
    run_copyK W 39 39 ty 205 2 w.heap.size (i * 2) _ dc ⟨vb, vo, none⟩ 1 vc 1 cv t39 hsz (by simp only [Nat.min_def]; split <;> omega) (by omega)
      (fun j v hj => by rw [Addr.add_lit, hWc]; exact Seg.get? hv' j v hj)
      (fun j hj => by rw [hWc]; have := hN (i * 2 + j) (by omega); rwa [Nat.zero_add] at this) (fun j hj => by rw [hWf]; exact hNf _) h2
  obtain ⟨W2, hW2⟩ : ∃ W2, W2 = W1.setCells w.heap.size (i * 2) cv := ⟨_, rfl⟩
  have hN2 : ∀ j, j < G * 2 → (W2.cell? ⟨w.heap.size, 0 + j, none⟩).isSome = true := by
    rw [hW2]
    have := Tryz.cells_put (k := i * 2) (cs := cv) hN (by omega)
    rwa [Nat.zero_add] at this
  have hcpB : ∀ (W : World), (∀ x, W.cell? x = W2.cell? x) → (∀ x, W.frozen? x = W2.frozen? x) → ∀ ty dc sc, (Builtin.copy_ #[39, 39] ty #[.slice (some ⟨w.heap.size, (i + 1) * 2, none⟩) (n - i) dc, .slice (some ⟨b, off + i * 2, none⟩) (n - i) sc]).run Tryz.prog W = .ok (goInt (n - i : Nat)) (W.setCells w.heap.size ((i + 1) * 2) c2) := fun W hWc hWf ty dc sc =>
    run_copyK W 39 39 ty 205 2 w.heap.size ((i + 1) * 2) _ dc ⟨b, off + i * 2, none⟩ _ sc (n - i) c2 t39 hsz (by simp only [Nat.min_def]; split <;> omega) l2
      (fun j v hj => by rw [Addr.add_lit, hWc, hW2, World.cell?_setCells_out _ _ _ _ _ (fun h _ => absurd h hbN)]; exact Seg.get? hs2' j v hj)
      (fun j hj => by rw [hWc]; have := hN2 ((i + 1) * 2 + j) (by omega); rwa [Nat.zero_add] at this) (fun j hj => by rw [hWf, hW2, World.frozen?_setCells]; exact hNf _) (fun v hv => h1 v (by simp [hv]))
  have X : Hid (∀ W : World, (∀ x, W.cell? x = W2.cell? x) → (∀ x, W.frozen? x = W2.frozen? x) → W.heap = W2.heap → W.os = W2.os → W.tape = W2.tape → W.output = W2.output →
      w.heap.size < (W.setCells w.heap.size ((i + 1) * 2) c2).heap.size ∧ n + 1 ≤ G ∧ Kept (fun c => w.heap.size ≤ c ∨ c = b) w (W.setCells w.heap.size ((i + 1) * 2) c2) ∧
      (∀ j, j < G * 2 → ((W.setCells w.heap.size ((i + 1) * 2) c2).cell? ⟨w.heap.size, 0 + j, none⟩).isSome = true) ∧ NFr (W.setCells w.heap.size ((i + 1) * 2) c2) w.heap.size 0 G 2 ∧ Seg (W.setCells w.heap.size ((i + 1) * 2) c2) w.heap.size 0 (c1 ++ (cv ++ c2))) := fun W hWc hWf hWh hWo hWt hWu => by
    have hNW : ∀ j, j < G * 2 → (W.cell? ⟨w.heap.size, 0 + j, none⟩).isSome = true := fun j hj => by rw [hWc]; exact hN2 j hj
    have k2 : Kept (fun c => w.heap.size ≤ c ∨ c = b) w W2 := by rw [hW2]; exact Kept.trans hk1 (setCells_kept _ (.inl (Nat.le_refl _)) _ _ _)
    refine ⟨?_, hge, ?_, ?_, ⟨fun q _ => ?_, fun _ => ⟨fun q => ?_, hG63⟩⟩, ?_⟩
    · rw [setCells_size, hWh, hW2, setCells_size, hsW]; omega
    · refine Kept.trans (b := W) ?_ (setCells_kept (M := fun c => w.heap.size ≤ c ∨ c = b) _ (.inl (Nat.le_refl _)) _ _ _)
      exact ⟨by rw [hWo]; exact k2.os, by rw [hWt]; exact k2.tape, by rw [hWu]; exact k2.output, by rw [hWh]; exact k2.size, fun c hc hM => by rw [hWh]; exact k2.block c hc hM⟩
    · have := Tryz.cells_put (k := (i + 1) * 2) (cs := c2) hNW (by omega)
      rwa [Nat.zero_add] at this
    · rw [World.frozen?_setCells, hWf, hW2, World.frozen?_setCells]; exact hNf _
    · rw [World.frozen?_setCells, hWf, hW2, World.frozen?_setCells]; exact hNf _
    · refine Seg.append (fun q hq => ?_) (Seg.append (fun q hq => ?_) (fun q hq => ?_))
      · rw [Nat.zero_add, World.cell?_setCells_out _ c2 _ W _ (fun _ _ => by simp only; omega), hWc, hW2, World.cell?_setCells_out _ cv _ W1 _ (fun _ _ => by simp only; omega), hN0]; exact hRc q hq
      · rw [l1, Nat.zero_add, World.cell?_setCells_out _ c2 _ W _ (fun _ _ => by simp only; omega), hWc, hW2]
        exact World.cell?_setCells_in _ cv (i * 2) W1 (fun q hq => by have := hN (i * 2 + q) (by omega); rwa [Nat.zero_add] at this) q hq
      · rw [l1, lv, show 0 + i * 2 + 2 + q = (i + 1) * 2 + q by omega]
        exact World.cell?_setCells_in _ c2 ((i + 1) * 2) W (fun q hq => by have := hNW ((i + 1) * 2 + q) (by omega); rwa [Nat.zero_add] at this) q hq
  have hz3 : ¬ ((i : Int) = (n : Int)) := by omega
  have hz4 : (cap : Int) < (n : Int) + 1 := by omega
  have hw1 : IntKind.i64.wrap ((i : Int) + 1) = (i : Int) + 1 := by rw [IntKind.wrap_i64]; omega
  have hw2 : IntKind.i64.wrap ((n : Int) + 1) = (n : Int) + 1 := by rw [IntKind.wrap_i64]; omega
  have hw3 : IntKind.i64.wrap ((n : Int) + 1 - (i : Int)) = (n : Int) + 1 - (i : Int) := by rw [IntKind.wrap_i64]; omega
  have hb1 : (0 : Int) ≤ (i : Int) + 1 := by omega
  have hle : i ≤ n := by omega
  have htn : ((i : Int) + 1).toNat = i + 1 := by omega
  have hGi : ¬ (G = i) := by omega
  have hGim : ¬ (G = i + 1) := by omega
  have hci : ¬ (cap = i) := by omega
  have hin2 : (i : Int) ≤ (n : Int) + 1 := by omega
  have hic : i ≤ cap := by omega
  have hA := hcpA ((w.alloc (.cells ROW 205)).drew) (fun _ => by rw [hW1]; rfl) (fun _ => by rw [hW1]; rfl)
  have hB1 := hcpB (((w.alloc (.cells ROW 205)).drew.setCells w.heap.size (i * 2) cv).drew) (fun _ => by rw [hW2, hW1]; rfl) (fun _ => by rw [hW2, hW1]; rfl)
  have hB2 := hcpB ((w.alloc (.cells ROW 205)).drew.setCells w.heap.size (i * 2) cv) (fun _ => by rw [hW2, hW1]; rfl) (fun _ => by rw [hW2, hW1]; rfl)
  have X1 := X (((w.alloc (.cells ROW 205)).drew.setCells w.heap.size (i * 2) cv).drew) (fun _ => by rw [hW2, hW1]; rfl) (fun _ => by rw [hW2, hW1]; rfl) (by rw [hW2, hW1]; rfl) (by rw [hW2, hW1]; rfl) (by rw [hW2, hW1]; rfl) (by rw [hW2, hW1]; rfl)
  have X2 := X ((w.alloc (.cells ROW 205)).drew.setCells w.heap.size (i * 2) cv) (fun _ => by rw [hW2, hW1]; rfl) (fun _ => by rw [hW2, hW1]; rfl) (by rw [hW2, hW1]; rfl) (by rw [hW2, hW1]; rfl) (by rw [hW2, hW1]; rfl) (by rw [hW2, hW1]; rfl)
  have X1 : Hid _ := X1
  have X2 : Hid _ := X2
  clear X hcpA hcpB
  rw [hW1] at hrz
  clear hW2 hW1 e1
  clear hs hv h1 h2 hs2 hs2' hv' hold hN hN2 hNf hN0 hRc hRl hROW hO hk1 hsW hkk hik hgm
  go_enter Tryz.func311, Tryz.ntmps311
  go_wp2_with (first
    | (at_builtin; refine wpList_append_run0 _ rfl _ _ 39 3 rfl _ _ rfl rfl (hrz _) ?_))
  go_region_law_o (refine step_copy_run0 rfl _ _ 39 39 rfl _ _ (by simp [Act.eval, Act.put]) (by simp [Act.eval, Act.put]) (by first | exact hB1 _ _ _ | exact hB2 _ _ _) ?_)
  go_wp2
  all_goals go_ret
  all_goals first | exact ⟨w.heap.size, 0, G, rfl, .inr (Nat.le_refl _), X1.out⟩ | exact ⟨w.heap.size, 0, G, rfl, .inr (Nat.le_refl _), X2.out⟩
theorem Tryz.ins_raw [GInv] : InsRaw Tryz.prog 311 2 := fun b off cap n i vb vo vc c1 c2 cv w hin hcap hn l1 l2 lv hne hb hvb hs hv h1 h2 hsp hfz hvc => by
  by_cases hi : i = n
  · subst hi
    have : c2 = [] := List.length_eq_zero_iff.1 (by omega)
    subst this
    rw [List.append_nil] at hs h1 ⊢
    exact Tryz.ins_end b off cap i vb vo vc c1 cv w hcap hn l1 lv hne hb hvb hs hv h1 h2 hsp hfz hvc
  · by_cases hroom : n + 1 ≤ cap
    · exact Tryz.ins_shift b off cap n i vb vo vc c1 c2 cv w (by omega) hroom l1 l2 lv hne hb hs hv h1 h2 hsp hfz hvc
    · exact Tryz.ins_grow b off cap n i vb vo vc c1 c2 cv w (by omega) hcap (by omega) hn l1 l2 lv hne hb hvb hs hv h1 h2 hvc
end Go.Proofs
