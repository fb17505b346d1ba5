/- Plain lemmas on what the functions come to. -/
import Derived.Test.YtfcldjomdbepjaaP10laws
namespace Go.Proofs.Pure
open Go Fw
set_option linter.all false
set_option maxRecDepth 100000
variable {K : Nat}

def HIntS (K : Nat) (k : Int) (y : Int) (k' : Int) : Prop := ∀ (n i : Nat) (xs : List (Int)), i < xs.length → xs.length ≤ 9223372036854775807 → xs.getD i 0 = y → R.L_laws_heldIntS_0 K (n + 1) (xs, k, 0, (i : Nat), ()) = R.L_laws_heldIntS_0 K n (xs, k', 0, ((i + 1 : Nat) : Int), ())

theorem markIntS_ok (hK : 9223372036854775807 < K) (x : List (Int)) (hs : Sm (.sl (.int .i64)) x) (k : Int) (h0 : 0 ≤ k) (h1 : k + 1048576 ≤ 9223372036854775807) :
    ∃ k' y, R.laws_markIntS K x k = some ((k', ()), (y, ())) ∧ k ≤ k' ∧ k' ≤ k + 1048576 ∧ R.laws_heldIntS K y k = some ((k', ()), ()) := by
  have hl : x.length ≤ 1048576 := hs.1
  have ml := mark_loop (d := 0) (L := fun n i k xs => R.L_laws_markIntS_0 K n (k, 0, (i : Nat), xs, ())) (len := x.length) (fin := fun k ys => (Sum.inl (k, 0, ys, ()))) (c := 1) (B := 9223372036854775807) (H := HIntS K) (Good := Sm (.int .i64)) (by omega)
    (fun n k xs hx => by simp only [R.L_laws_markIntS_0, hx, idx_end, cond_false]) (fun n i k xs hi hx h0 h1 hs => by
      have hi' : i < xs.length := by omega
      generalize ee : xs.getD i 0 = e at hs
      have w1 : IntKind.i64.wrap (k + 1) = k + 1 := wrap_id (by omega) (by omega)
      refine ⟨k + 1, k, by omega, by omega, fun n j ys hj hy ey => ?_, ?_⟩
      · simp only [R.L_laws_heldIntS_0, idx_lt hj, idx_nn, Bool.and_self, Int.toNat_natCast, cond_true, cond_false, ey, w1, obind_some, wrap_succ hj hy, bne_self_eq_false, beq_self_eq_true, Bool.not_true, nbeq]
      · simp only [R.L_laws_markIntS_0, idx_lt hi', idx_nn, Bool.and_self, Int.toNat_natCast, cond_true, cond_false, ee, w1, obind_some, wrap_succ hi' (by omega : xs.length ≤ 9223372036854775807), List.length_set, List.set_set, getD_set hi', nbeq])
    x.length 0 K k x (by omega) (by omega) rfl h0 (by omega) (fun j _ hj => hs.2 _ (getD_mem _ hj))
  obtain ⟨k', ys, e, g1, g2, g3, _, g5⟩ := ml
  have e : R.L_laws_markIntS_0 K K (k, 0, 0, x, ()) = some (Sum.inl (k', 0, ys, ())) := e
  have hd := held_loop (d := 0) (ys := ys) (L := fun n i k => R.L_laws_heldIntS_0 K n (ys, k, 0, (i : Nat), ())) (len := x.length) (fin := fun k => (Sum.inl (k, 0, ()))) (H := HIntS K)
    (fun n k => by rw [← g3]; simp only [R.L_laws_heldIntS_0, idx_end, cond_false]) (fun n i k k' hi h => h n i ys (by omega) (by omega) rfl) x.length 0 K k k' (by omega) (by omega) g5
  have hd : R.L_laws_heldIntS_0 K K (ys, k, 0, 0, ()) = some (Sum.inl (k', 0, ())) := hd
  refine ⟨k', ys, ?_, g1, by omega, ?_⟩
  · simp only [R.laws_markIntS, e, obind_some]
  · simp only [R.laws_heldIntS, hd, obind_some]

-- key EntryS go

def HEntryS (K : Nat) (k : Int) (y : (List UInt8) × (Int)) (k' : Int) : Prop := ∀ (n i : Nat) (xs : List ((List UInt8) × (Int))), i < xs.length → xs.length ≤ 9223372036854775807 → xs.getD i ([], 0) = y → R.L_laws_heldEntryS_0 K (n + 1) (xs, k, 0, (i : Nat), ()) = R.L_laws_heldEntryS_0 K n (xs, k', 0, ((i + 1 : Nat) : Int), ())

theorem markEntryS_ok (hK : 9223372036854775807 < K) (x : List ((List UInt8) × (Int))) (hs : Sm (.sl (.pair .str (.int .i64))) x) (k : Int) (h0 : 0 ≤ k) (h1 : k + 2097152 ≤ 9223372036854775807) :
    ∃ k' y, R.laws_markEntryS K x k = some ((k', ()), (y, ())) ∧ k ≤ k' ∧ k' ≤ k + 2097152 ∧ R.laws_heldEntryS K y k = some ((k', ()), ()) := by
  have hl : x.length ≤ 1048576 := hs.1
  have ml := mark_loop (d := ([], 0)) (L := fun n i k xs => R.L_laws_markEntryS_0 K n (k, 0, (i : Nat), xs, ())) (len := x.length) (fin := fun k ys => (Sum.inl (k, 0, ys, ()))) (c := 2) (B := 9223372036854775807) (H := HEntryS K) (Good := Sm (.pair .str (.int .i64))) (by omega)
    (fun n k xs hx => by simp only [R.L_laws_markEntryS_0, hx, idx_end, cond_false]) (fun n i k xs hi hx h0 h1 hs => by
      have hi' : i < xs.length := by omega
      generalize ee : xs.getD i ([], 0) = e at hs
      obtain ⟨t1, e1⟩ := markText_ok hK (k) (by omega) (by omega)
      have w2 : IntKind.i64.wrap (k + 1) = k + 1 := wrap_id (by omega) (by omega)
      have w3 : IntKind.i64.wrap (k + 1 + 1) = k + 1 + 1 := wrap_id (by omega) (by omega)
      refine ⟨k + 1 + 1, (t1, k + 1), by omega, by omega, fun n j ys hj hy ey => ?_, ?_⟩
      · simp only [R.L_laws_heldEntryS_0, idx_lt hj, idx_nn, Bool.and_self, Int.toNat_natCast, cond_true, cond_false, ey, e1, w2, w3, obind_some, wrap_succ hj hy, bne_self_eq_false, beq_self_eq_true, Bool.not_true, nbeq]
      · simp only [R.L_laws_markEntryS_0, idx_lt hi', idx_nn, Bool.and_self, Int.toNat_natCast, cond_true, cond_false, ee, e1, w2, w3, obind_some, wrap_succ hi' (by omega : xs.length ≤ 9223372036854775807), List.length_set, List.set_set, getD_set hi', nbeq])
    x.length 0 K k x (by omega) (by omega) rfl h0 (by omega) (fun j _ hj => hs.2 _ (getD_mem _ hj))
  obtain ⟨k', ys, e, g1, g2, g3, _, g5⟩ := ml
  have e : R.L_laws_markEntryS_0 K K (k, 0, 0, x, ()) = some (Sum.inl (k', 0, ys, ())) := e
  have hd := held_loop (d := ([], 0)) (ys := ys) (L := fun n i k => R.L_laws_heldEntryS_0 K n (ys, k, 0, (i : Nat), ())) (len := x.length) (fin := fun k => (Sum.inl (k, 0, ()))) (H := HEntryS K)
    (fun n k => by rw [← g3]; simp only [R.L_laws_heldEntryS_0, idx_end, cond_false]) (fun n i k k' hi h => h n i ys (by omega) (by omega) rfl) x.length 0 K k k' (by omega) (by omega) g5
  have hd : R.L_laws_heldEntryS_0 K K (ys, k, 0, 0, ()) = some (Sum.inl (k', 0, ())) := hd
  refine ⟨k', ys, ?_, g1, by omega, ?_⟩
  · simp only [R.laws_markEntryS, e, obind_some]
  · simp only [R.laws_heldEntryS, hd, obind_some]

-- key CommitS go

def HCommitS (K : Nat) (k : Int) (y : (List (Int)) × (List ((List UInt8) × (Int)))) (k' : Int) : Prop := ∀ (n i : Nat) (xs : List ((List (Int)) × (List ((List UInt8) × (Int))))), i < xs.length → xs.length ≤ 9223372036854775807 → xs.getD i ([], []) = y → R.L_laws_heldCommitS_0 K (n + 1) (xs, k, 0, (i : Nat), ()) = R.L_laws_heldCommitS_0 K n (xs, k', 0, ((i + 1 : Nat) : Int), ())

theorem markCommitS_ok (hK : 9223372036854775807 < K) (x : List ((List (Int)) × (List ((List UInt8) × (Int))))) (hs : Sm (.sl (.pair (.sl (.int .i64)) (.sl (.pair .str (.int .i64))))) x) (k : Int) (h0 : 0 ≤ k) (h1 : k + 3298534883328 ≤ 9223372036854775807) :
    ∃ k' y, R.laws_markCommitS K x k = some ((k', ()), (y, ())) ∧ k ≤ k' ∧ k' ≤ k + 3298534883328 ∧ R.laws_heldCommitS K y k = some ((k', ()), ()) := by
  have hl : x.length ≤ 1048576 := hs.1
  have ml := mark_loop (d := ([], [])) (L := fun n i k xs => R.L_laws_markCommitS_0 K n (k, 0, (i : Nat), xs, ())) (len := x.length) (fin := fun k ys => (Sum.inl (k, 0, ys, ()))) (c := 3145728) (B := 9223372036854775807) (H := HCommitS K) (Good := Sm (.pair (.sl (.int .i64)) (.sl (.pair .str (.int .i64))))) (by omega)
    (fun n k xs hx => by simp only [R.L_laws_markCommitS_0, hx, idx_end, cond_false]) (fun n i k xs hi hx h0 h1 hs => by
      have hi' : i < xs.length := by omega
      generalize ee : xs.getD i ([], []) = e at hs
      obtain ⟨k1, y1, m1, a1, b1, u1⟩ := markIntS_ok hK e.1 hs.1 (k) (by omega) (by omega)
      have z1 := lt0 (show 0 ≤ k1 by omega)
      obtain ⟨k2, y2, m2, a2, b2, u2⟩ := markEntryS_ok hK e.2 hs.2 (k1) (by omega) (by omega)
      have z2 := lt0 (show 0 ≤ k2 by omega)
      refine ⟨k2, (y1, y2), by omega, by omega, fun n j ys hj hy ey => ?_, ?_⟩
      · simp only [R.L_laws_heldCommitS_0, idx_lt hj, idx_nn, Bool.and_self, Int.toNat_natCast, cond_true, cond_false, ey, m1, u1, z1, m2, u2, z2, obind_some, wrap_succ hj hy, bne_self_eq_false, beq_self_eq_true, Bool.not_true, nbeq]
      · simp only [R.L_laws_markCommitS_0, idx_lt hi', idx_nn, Bool.and_self, Int.toNat_natCast, cond_true, cond_false, ee, m1, u1, z1, m2, u2, z2, obind_some, wrap_succ hi' (by omega : xs.length ≤ 9223372036854775807), List.length_set, List.set_set, getD_set hi', nbeq])
    x.length 0 K k x (by omega) (by omega) rfl h0 (by omega) (fun j _ hj => hs.2 _ (getD_mem _ hj))
  obtain ⟨k', ys, e, g1, g2, g3, _, g5⟩ := ml
  have e : R.L_laws_markCommitS_0 K K (k, 0, 0, x, ()) = some (Sum.inl (k', 0, ys, ())) := e
  have hd := held_loop (d := ([], [])) (ys := ys) (L := fun n i k => R.L_laws_heldCommitS_0 K n (ys, k, 0, (i : Nat), ())) (len := x.length) (fin := fun k => (Sum.inl (k, 0, ()))) (H := HCommitS K)
    (fun n k => by rw [← g3]; simp only [R.L_laws_heldCommitS_0, idx_end, cond_false]) (fun n i k k' hi h => h n i ys (by omega) (by omega) rfl) x.length 0 K k k' (by omega) (by omega) g5
  have hd : R.L_laws_heldCommitS_0 K K (ys, k, 0, 0, ()) = some (Sum.inl (k', 0, ())) := hd
  refine ⟨k', ys, ?_, g1, by omega, ?_⟩
  · simp only [R.laws_markCommitS, e, obind_some]
  · simp only [R.laws_heldCommitS, hd, obind_some]

-- key RefS go

def HRefS (K : Nat) (k : Int) (y : (List UInt8) × ((Int) × ((Int) × (Bool)))) (k' : Int) : Prop := ∀ (n i : Nat) (xs : List ((List UInt8) × ((Int) × ((Int) × (Bool))))), i < xs.length → xs.length ≤ 9223372036854775807 → xs.getD i ([], (0, (0, false))) = y → R.L_laws_heldRefS_0 K (n + 1) (xs, k, 0, (i : Nat), ()) = R.L_laws_heldRefS_0 K n (xs, k', 0, ((i + 1 : Nat) : Int), ())

theorem markRefS_ok (hK : 9223372036854775807 < K) (x : List ((List UInt8) × ((Int) × ((Int) × (Bool))))) (hs : Sm (.sl (.pair .str (.pair (.int .i64) (.pair (.int .i64) .bool)))) x) (k : Int) (h0 : 0 ≤ k) (h1 : k + 4194304 ≤ 9223372036854775807) :
    ∃ k' y, R.laws_markRefS K x k = some ((k', ()), (y, ())) ∧ k ≤ k' ∧ k' ≤ k + 4194304 ∧ R.laws_heldRefS K y k = some ((k', ()), ()) := by
  have hl : x.length ≤ 1048576 := hs.1
  have ml := mark_loop (d := ([], (0, (0, false)))) (L := fun n i k xs => R.L_laws_markRefS_0 K n (k, 0, (i : Nat), xs, ())) (len := x.length) (fin := fun k ys => (Sum.inl (k, 0, ys, ()))) (c := 4) (B := 9223372036854775807) (H := HRefS K) (Good := Sm (.pair .str (.pair (.int .i64) (.pair (.int .i64) .bool)))) (by omega)
    (fun n k xs hx => by simp only [R.L_laws_markRefS_0, hx, idx_end, cond_false]) (fun n i k xs hi hx h0 h1 hs => by
      have hi' : i < xs.length := by omega
      generalize ee : xs.getD i ([], (0, (0, false))) = e at hs
      obtain ⟨t1, e1⟩ := markText_ok hK (k) (by omega) (by omega)
      have w2 : IntKind.i64.wrap (k + 1) = k + 1 := wrap_id (by omega) (by omega)
      have w3 : IntKind.i64.wrap (k + 1 + 1) = k + 1 + 1 := wrap_id (by omega) (by omega)
      have w4 : IntKind.i64.wrap (k + 1 + 1 + 1) = k + 1 + 1 + 1 := wrap_id (by omega) (by omega)
      have w5 : IntKind.i64.wrap (k + 1 + 1 + 1 + 1) = k + 1 + 1 + 1 + 1 := wrap_id (by omega) (by omega)
      refine ⟨k + 1 + 1 + 1 + 1, (t1, (k + 1, (k + 1 + 1, (Int.tmod (k + 1 + 1 + 1) 3 == 0)))), by omega, by omega, fun n j ys hj hy ey => ?_, ?_⟩
      · simp only [R.L_laws_heldRefS_0, idx_lt hj, idx_nn, Bool.and_self, Int.toNat_natCast, cond_true, cond_false, ey, e1, w2, w3, w4, w5, obind_some, wrap_succ hj hy, bne_self_eq_false, beq_self_eq_true, Bool.not_true, nbeq]
      · simp only [R.L_laws_markRefS_0, idx_lt hi', idx_nn, Bool.and_self, Int.toNat_natCast, cond_true, cond_false, ee, e1, w2, w3, w4, w5, obind_some, wrap_succ hi' (by omega : xs.length ≤ 9223372036854775807), List.length_set, List.set_set, getD_set hi', nbeq])
    x.length 0 K k x (by omega) (by omega) rfl h0 (by omega) (fun j _ hj => hs.2 _ (getD_mem _ hj))
  obtain ⟨k', ys, e, g1, g2, g3, _, g5⟩ := ml
  have e : R.L_laws_markRefS_0 K K (k, 0, 0, x, ()) = some (Sum.inl (k', 0, ys, ())) := e
  have hd := held_loop (d := ([], (0, (0, false)))) (ys := ys) (L := fun n i k => R.L_laws_heldRefS_0 K n (ys, k, 0, (i : Nat), ())) (len := x.length) (fin := fun k => (Sum.inl (k, 0, ()))) (H := HRefS K)
    (fun n k => by rw [← g3]; simp only [R.L_laws_heldRefS_0, idx_end, cond_false]) (fun n i k k' hi h => h n i ys (by omega) (by omega) rfl) x.length 0 K k k' (by omega) (by omega) g5
  have hd : R.L_laws_heldRefS_0 K K (ys, k, 0, 0, ()) = some (Sum.inl (k', 0, ())) := hd
  refine ⟨k', ys, ?_, g1, by omega, ?_⟩
  · simp only [R.laws_markRefS, e, obind_some]
  · simp only [R.laws_heldRefS, hd, obind_some]

-- key Base go

theorem markBase_ok (hK : 9223372036854775807 < K) (x : (List ((List (Int)) × (List ((List UInt8) × (Int))))) × (List ((List UInt8) × ((Int) × ((Int) × (Bool)))))) (hs : Sm (.pair (.sl (.pair (.sl (.int .i64)) (.sl (.pair .str (.int .i64))))) (.sl (.pair .str (.pair (.int .i64) (.pair (.int .i64) .bool))))) x) (k : Int) (h0 : 0 ≤ k) (h1 : k + 3298539077632 ≤ 9223372036854775807) :
    ∃ k' y, R.laws_markBase K x k = some ((k', ()), (y, ())) ∧ k ≤ k' ∧ k' ≤ k + 3298539077632 ∧ R.laws_heldBase K y k = some ((k', ()), ()) := by
  obtain ⟨k1, y1, m1, a1, b1, u1⟩ := markCommitS_ok hK x.1 hs.1 (k) (by omega) (by omega)
  have z1 := lt0 (show 0 ≤ k1 by omega)
  obtain ⟨k2, y2, m2, a2, b2, u2⟩ := markRefS_ok hK x.2 hs.2 (k1) (by omega) (by omega)
  have z2 := lt0 (show 0 ≤ k2 by omega)
  refine ⟨k2, (y1, y2), ?_, by omega, by omega, ?_⟩
  · simp only [R.laws_markBase, m1, u1, z1, m2, u2, z2, obind_some]
  · simp only [R.laws_heldBase, m1, u1, z1, m2, u2, z2, obind_some, cond_false]

-- key StringS go
end Go.Proofs.Pure
