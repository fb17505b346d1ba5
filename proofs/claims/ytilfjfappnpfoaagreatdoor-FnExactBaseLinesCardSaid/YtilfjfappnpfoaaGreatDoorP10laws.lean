/- Plain lemmas on what the functions come to. -/
import Derived.Test.YtilfjfappnpfoaaGreatDoorP09marks
namespace Go.Proofs.Pure
open Go Fw
set_option linter.all false
set_option maxRecDepth 100000
variable {K : Nat}

theorem szIntS_ok (hK : 9223372036854775807 < K) (x : List (Int)) (p : Int) (h0 : 0 ≤ p) (h1 : p ≤ 1048576) (hw : Wd (.sl (.int .i64)) x) : ∃ z, R.laws_szIntS K x p = some ((z, ()), ()) ∧ z ≤ p ∧ (0 ≤ z → Sm (.sl (.int .i64)) x) := by
  have hl : x.length ≤ 9223372036854775807 := hw.1
  have e0 : IntKind.i64.wrap (p - (x.length : Int)) = p - x.length := wrap_id (by omega) (by omega)
  unfold R.laws_szIntS
  simp only [e0]
  by_cases c0 : p - (x.length : Int) < 0
  · simp only [c0, decide_true, cond_true]
    exact ⟨-1, rfl, by omega, fun h => by omega⟩
  · simp only [c0, decide_false, cond_false]
    exact ⟨_, rfl, by omega, fun h => ⟨by omega, fun _ _ => trivial⟩⟩

theorem szEntry_ok (hK : 9223372036854775807 < K) (x : (List UInt8) × (Int)) (p : Int) (h0 : 0 ≤ p) (h1 : p ≤ 1048576) (hw : Wd (.pair .str (.int .i64)) x) : ∃ z, R.laws_szEntry K x p = some ((z, ()), ()) ∧ z ≤ p ∧ (0 ≤ z → Sm (.pair .str (.int .i64)) x) := by
  unfold R.laws_szEntry
  have b1 : x.1.length ≤ 9223372036854775807 := hw.1
  have e1 : IntKind.i64.wrap (p - (x.1.length : Int)) = p - (x.1.length : Int) := wrap_id (by omega) (by omega)
  simp only [e1]
  by_cases c1 : p - (x.1.length : Int) < 0
  · simp only [c1, decide_true, cond_true]
    exact ⟨-1, rfl, by omega, fun h => by omega⟩
  simp only [c1, decide_false, cond_false]
  exact ⟨_, rfl, by omega, fun h => ⟨(show x.1.length ≤ 1048576 by omega), trivial⟩⟩

theorem szEntryS_ok (hK : 9223372036854775807 < K) (x : List ((List UInt8) × (Int))) (p : Int) (h0 : 0 ≤ p) (h1 : p ≤ 1048576) (hw : Wd (.sl (.pair .str (.int .i64))) x) : ∃ z, R.laws_szEntryS K x p = some ((z, ()), ()) ∧ z ≤ p ∧ (0 ≤ z → Sm (.sl (.pair .str (.int .i64))) x) := by
  have hl : x.length ≤ 9223372036854775807 := hw.1
  have e0 : IntKind.i64.wrap (p - (x.length : Int)) = p - x.length := wrap_id (by omega) (by omega)
  unfold R.laws_szEntryS
  simp only [e0]
  by_cases c0 : p - (x.length : Int) < 0
  · simp only [c0, decide_true, cond_true]
    exact ⟨-1, rfl, by omega, fun h => by omega⟩
  · simp only [c0, decide_false, cond_false]
    have := sz_loop (L := fun n i p => R.L_laws_szEntryS_0 K n (x, p, 0, (i : Nat), ())) (len := x.length) (S := fun i => Sm (.pair .str (.int .i64)) (x.getD i ([], 0))) (fun n p => by simp only [R.L_laws_szEntryS_0, idx_end, cond_false]) (fun n i p hi hp hp' => by
      obtain ⟨z, e, l, s⟩ := szEntry_ok hK (x.getD i ([], 0)) p hp hp' (hw.2 _ (getD_mem _ hi))
      refine ⟨z, l, s, ?_⟩
      simp only [R.L_laws_szEntryS_0, idx_lt hi, idx_nn, Bool.and_self, wrap_succ hi hl, Int.toNat_natCast, e, obind_some, cond_true]) x.length 0 K (p - x.length) (by omega) (by omega) (by omega) (by omega)
    have this : (∃ z, R.L_laws_szEntryS_0 K K (x, p - x.length, 0, 0, ()) = some (.inl (z, 0, ())) ∧ _) ∨ R.L_laws_szEntryS_0 K K (x, p - x.length, 0, 0, ()) = _ := this
    rcases this with ⟨z, e, g1, g2, g3⟩ | e
    · refine ⟨z, by simp only [e, obind_some], by omega, fun _ => ⟨by omega, fun y hy => ?_⟩⟩
      obtain ⟨j, hj, rfl⟩ := List.mem_iff_getElem.1 hy
      have := g3 j (by omega) hj
      rw [List.getD_eq_getElem?_getD, List.getElem?_eq_getElem hj] at this
      exact this
    · exact ⟨-1, by simp only [e, obind_some], by omega, fun h => by omega⟩

theorem szCommit_ok (hK : 9223372036854775807 < K) (x : (List (Int)) × (List ((List UInt8) × (Int)))) (p : Int) (h0 : 0 ≤ p) (h1 : p ≤ 1048576) (hw : Wd (.pair (.sl (.int .i64)) (.sl (.pair .str (.int .i64)))) x) : ∃ z, R.laws_szCommit K x p = some ((z, ()), ()) ∧ z ≤ p ∧ (0 ≤ z → Sm (.pair (.sl (.int .i64)) (.sl (.pair .str (.int .i64)))) x) := by
  unfold R.laws_szCommit
  obtain ⟨z1, e1, l1, s1⟩ := szIntS_ok hK x.1 p (by omega) (by omega) hw.1
  simp only [e1, obind_some, pair_eta]
  by_cases c1 : z1 < 0
  · simp only [c1, decide_true, cond_true]
    exact ⟨-1, rfl, by omega, fun h => by omega⟩
  simp only [c1, decide_false, cond_false]
  obtain ⟨z2, e2, l2, s2⟩ := szEntryS_ok hK x.2 (z1) (by omega) (by omega) hw.2
  simp only [e2, obind_some, pair_eta]
  by_cases c2 : z2 < 0
  · simp only [c2, decide_true, cond_true]
    exact ⟨-1, rfl, by omega, fun h => by omega⟩
  simp only [c2, decide_false, cond_false]
  exact ⟨_, rfl, by omega, fun h => ⟨(s1 (by omega)), (s2 (by omega))⟩⟩

theorem szCommitS_ok (hK : 9223372036854775807 < K) (x : List ((List (Int)) × (List ((List UInt8) × (Int))))) (p : Int) (h0 : 0 ≤ p) (h1 : p ≤ 1048576) (hw : Wd (.sl (.pair (.sl (.int .i64)) (.sl (.pair .str (.int .i64))))) x) : ∃ z, R.laws_szCommitS K x p = some ((z, ()), ()) ∧ z ≤ p ∧ (0 ≤ z → Sm (.sl (.pair (.sl (.int .i64)) (.sl (.pair .str (.int .i64))))) x) := by
  have hl : x.length ≤ 9223372036854775807 := hw.1
  have e0 : IntKind.i64.wrap (p - (x.length : Int)) = p - x.length := wrap_id (by omega) (by omega)
  unfold R.laws_szCommitS
  simp only [e0]
  by_cases c0 : p - (x.length : Int) < 0
  · simp only [c0, decide_true, cond_true]
    exact ⟨-1, rfl, by omega, fun h => by omega⟩
  · simp only [c0, decide_false, cond_false]
    have := sz_loop (L := fun n i p => R.L_laws_szCommitS_0 K n (x, p, 0, (i : Nat), ())) (len := x.length) (S := fun i => Sm (.pair (.sl (.int .i64)) (.sl (.pair .str (.int .i64)))) (x.getD i ([], []))) (fun n p => by simp only [R.L_laws_szCommitS_0, idx_end, cond_false]) (fun n i p hi hp hp' => by
      obtain ⟨z, e, l, s⟩ := szCommit_ok hK (x.getD i ([], [])) p hp hp' (hw.2 _ (getD_mem _ hi))
      refine ⟨z, l, s, ?_⟩
      simp only [R.L_laws_szCommitS_0, idx_lt hi, idx_nn, Bool.and_self, wrap_succ hi hl, Int.toNat_natCast, e, obind_some, cond_true]) x.length 0 K (p - x.length) (by omega) (by omega) (by omega) (by omega)
    have this : (∃ z, R.L_laws_szCommitS_0 K K (x, p - x.length, 0, 0, ()) = some (.inl (z, 0, ())) ∧ _) ∨ R.L_laws_szCommitS_0 K K (x, p - x.length, 0, 0, ()) = _ := this
    rcases this with ⟨z, e, g1, g2, g3⟩ | e
    · refine ⟨z, by simp only [e, obind_some], by omega, fun _ => ⟨by omega, fun y hy => ?_⟩⟩
      obtain ⟨j, hj, rfl⟩ := List.mem_iff_getElem.1 hy
      have := g3 j (by omega) hj
      rw [List.getD_eq_getElem?_getD, List.getElem?_eq_getElem hj] at this
      exact this
    · exact ⟨-1, by simp only [e, obind_some], by omega, fun h => by omega⟩

theorem szRef_ok (hK : 9223372036854775807 < K) (x : (List UInt8) × ((Int) × ((Int) × (Bool)))) (p : Int) (h0 : 0 ≤ p) (h1 : p ≤ 1048576) (hw : Wd (.pair .str (.pair (.int .i64) (.pair (.int .i64) .bool))) x) : ∃ z, R.laws_szRef K x p = some ((z, ()), ()) ∧ z ≤ p ∧ (0 ≤ z → Sm (.pair .str (.pair (.int .i64) (.pair (.int .i64) .bool))) x) := by
  unfold R.laws_szRef
  have b1 : x.1.length ≤ 9223372036854775807 := hw.1
  have e1 : IntKind.i64.wrap (p - (x.1.length : Int)) = p - (x.1.length : Int) := wrap_id (by omega) (by omega)
  simp only [e1]
  by_cases c1 : p - (x.1.length : Int) < 0
  · simp only [c1, decide_true, cond_true]
    exact ⟨-1, rfl, by omega, fun h => by omega⟩
  simp only [c1, decide_false, cond_false]
  exact ⟨_, rfl, by omega, fun h => ⟨(show x.1.length ≤ 1048576 by omega), ⟨trivial, ⟨trivial, trivial⟩⟩⟩⟩

theorem szRefS_ok (hK : 9223372036854775807 < K) (x : List ((List UInt8) × ((Int) × ((Int) × (Bool))))) (p : Int) (h0 : 0 ≤ p) (h1 : p ≤ 1048576) (hw : Wd (.sl (.pair .str (.pair (.int .i64) (.pair (.int .i64) .bool)))) x) : ∃ z, R.laws_szRefS K x p = some ((z, ()), ()) ∧ z ≤ p ∧ (0 ≤ z → Sm (.sl (.pair .str (.pair (.int .i64) (.pair (.int .i64) .bool)))) x) := by
  have hl : x.length ≤ 9223372036854775807 := hw.1
  have e0 : IntKind.i64.wrap (p - (x.length : Int)) = p - x.length := wrap_id (by omega) (by omega)
  unfold R.laws_szRefS
  simp only [e0]
  by_cases c0 : p - (x.length : Int) < 0
  · simp only [c0, decide_true, cond_true]
    exact ⟨-1, rfl, by omega, fun h => by omega⟩
  · simp only [c0, decide_false, cond_false]
    have := sz_loop (L := fun n i p => R.L_laws_szRefS_0 K n (x, p, 0, (i : Nat), ())) (len := x.length) (S := fun i => Sm (.pair .str (.pair (.int .i64) (.pair (.int .i64) .bool))) (x.getD i ([], (0, (0, false))))) (fun n p => by simp only [R.L_laws_szRefS_0, idx_end, cond_false]) (fun n i p hi hp hp' => by
      obtain ⟨z, e, l, s⟩ := szRef_ok hK (x.getD i ([], (0, (0, false)))) p hp hp' (hw.2 _ (getD_mem _ hi))
      refine ⟨z, l, s, ?_⟩
      simp only [R.L_laws_szRefS_0, idx_lt hi, idx_nn, Bool.and_self, wrap_succ hi hl, Int.toNat_natCast, e, obind_some, cond_true]) x.length 0 K (p - x.length) (by omega) (by omega) (by omega) (by omega)
    have this : (∃ z, R.L_laws_szRefS_0 K K (x, p - x.length, 0, 0, ()) = some (.inl (z, 0, ())) ∧ _) ∨ R.L_laws_szRefS_0 K K (x, p - x.length, 0, 0, ()) = _ := this
    rcases this with ⟨z, e, g1, g2, g3⟩ | e
    · refine ⟨z, by simp only [e, obind_some], by omega, fun _ => ⟨by omega, fun y hy => ?_⟩⟩
      obtain ⟨j, hj, rfl⟩ := List.mem_iff_getElem.1 hy
      have := g3 j (by omega) hj
      rw [List.getD_eq_getElem?_getD, List.getElem?_eq_getElem hj] at this
      exact this
    · exact ⟨-1, by simp only [e, obind_some], by omega, fun h => by omega⟩

theorem szBase_ok (hK : 9223372036854775807 < K) (x : (List ((List (Int)) × (List ((List UInt8) × (Int))))) × (List ((List UInt8) × ((Int) × ((Int) × (Bool)))))) (p : Int) (h0 : 0 ≤ p) (h1 : p ≤ 1048576) (hw : Wd (.pair (.sl (.pair (.sl (.int .i64)) (.sl (.pair .str (.int .i64))))) (.sl (.pair .str (.pair (.int .i64) (.pair (.int .i64) .bool))))) x) : ∃ z, R.laws_szBase K x p = some ((z, ()), ()) ∧ z ≤ p ∧ (0 ≤ z → Sm (.pair (.sl (.pair (.sl (.int .i64)) (.sl (.pair .str (.int .i64))))) (.sl (.pair .str (.pair (.int .i64) (.pair (.int .i64) .bool))))) x) := by
  unfold R.laws_szBase
  obtain ⟨z1, e1, l1, s1⟩ := szCommitS_ok hK x.1 p (by omega) (by omega) hw.1
  simp only [e1, obind_some, pair_eta]
  by_cases c1 : z1 < 0
  · simp only [c1, decide_true, cond_true]
    exact ⟨-1, rfl, by omega, fun h => by omega⟩
  simp only [c1, decide_false, cond_false]
  obtain ⟨z2, e2, l2, s2⟩ := szRefS_ok hK x.2 (z1) (by omega) (by omega) hw.2
  simp only [e2, obind_some, pair_eta]
  by_cases c2 : z2 < 0
  · simp only [c2, decide_true, cond_true]
    exact ⟨-1, rfl, by omega, fun h => by omega⟩
  simp only [c2, decide_false, cond_false]
  exact ⟨_, rfl, by omega, fun h => ⟨(s1 (by omega)), (s2 (by omega))⟩⟩

theorem toIntS_id (hK : 9223372036854775807 < K) (x : List (Int)) (hs : Sm (.sl (.int .i64)) x) : R.laws_toIntS K x = some ((x, ()), ()) := by
  have hx : x.length ≤ 268435456 := by have : x.length ≤ 1048576 := hs.1; omega
  have := fill_ok (L := fun n i ys => R.L_laws_toIntS_0 K n (x, (i : Nat), [], ys, ())) (len := x.length) (g := fun i => x.getD i 0) (fin := fun ys => Sum.inl ([], ys, ())) (ys0 := (List.replicate x.length 0 : List (Int)))
    (fun n ys hy => by simp only [R.L_laws_toIntS_0, idx_end, cond_false])
    (fun n i ys hy hi _ => by
      have hi' : i < ys.length := by omega
      simp only [R.L_laws_toIntS_0, wrap_succ hi (by omega), idx_lt hi, idx_lt hi', idx_nn, Bool.and_self, Int.toNat_natCast, obind_some, cond_true]) x.length 0 K (List.replicate x.length 0) (by omega) (by omega) (by simp) (by simp) (by simp)
  have e : (List.range x.length).map (fun i => x.getD i 0) = x := by
    apply List.ext_getElem (by simp)
    intro i h1 h2
    simp [List.getD_eq_getElem?_getD, h2]
  rw [e] at this
  have this : R.L_laws_toIntS_0 K K (x, 0, [], List.replicate x.length 0, ()) = some (Sum.inl ([], x, ())) := this
  have hle : (x.length : Int) ≤ 268435456 := by omega
  unfold R.laws_toIntS
  simp [hle, this, obind]

theorem toEntryS_id (hK : 9223372036854775807 < K) (x : List ((List UInt8) × (Int))) (hs : Sm (.sl (.pair .str (.int .i64))) x) : R.laws_toEntryS K x = some ((x, ()), ()) := by
  have hx : x.length ≤ 268435456 := by have : x.length ≤ 1048576 := hs.1; omega
  have := fill_ok (L := fun n i ys => R.L_laws_toEntryS_0 K n (x, (i : Nat), [], ys, ())) (len := x.length) (g := fun i => x.getD i ([], 0)) (fin := fun ys => Sum.inl ([], ys, ())) (ys0 := (List.replicate x.length ([], 0) : List ((List UInt8) × (Int))))
    (fun n ys hy => by simp only [R.L_laws_toEntryS_0, idx_end, cond_false])
    (fun n i ys hy hi _ => by
      have hi' : i < ys.length := by omega
      simp only [R.L_laws_toEntryS_0, wrap_succ hi (by omega), idx_lt hi, idx_lt hi', idx_nn, Bool.and_self, Int.toNat_natCast, obind_some, cond_true]) x.length 0 K (List.replicate x.length ([], 0)) (by omega) (by omega) (by simp) (by simp) (by simp)
  have e : (List.range x.length).map (fun i => x.getD i ([], 0)) = x := by
    apply List.ext_getElem (by simp)
    intro i h1 h2
    simp [List.getD_eq_getElem?_getD, h2]
  rw [e] at this
  have this : R.L_laws_toEntryS_0 K K (x, 0, [], List.replicate x.length ([], 0), ()) = some (Sum.inl ([], x, ())) := this
  have hle : (x.length : Int) ≤ 268435456 := by omega
  unfold R.laws_toEntryS
  simp [hle, this, obind]

theorem toCommit_id (hK : 9223372036854775807 < K) (x : (List (Int)) × (List ((List UInt8) × (Int)))) (hs : Sm (.pair (.sl (.int .i64)) (.sl (.pair .str (.int .i64)))) x) : R.laws_toCommit K x = some ((x, ()), ()) := by
  unfold R.laws_toCommit
  try simp only [toIntS_id hK x.1 hs.1, toEntryS_id hK x.2 hs.2, obind_some, pair_eta]
  try rfl

theorem toCommitS_id (hK : 9223372036854775807 < K) (x : List ((List (Int)) × (List ((List UInt8) × (Int))))) (hs : Sm (.sl (.pair (.sl (.int .i64)) (.sl (.pair .str (.int .i64))))) x) : R.laws_toCommitS K x = some ((x, ()), ()) := by
  have hx : x.length ≤ 268435456 := by have : x.length ≤ 1048576 := hs.1; omega
  have := fill_ok (L := fun n i ys => R.L_laws_toCommitS_0 K n (x, (i : Nat), [], ys, ())) (len := x.length) (g := fun i => x.getD i ([], [])) (fin := fun ys => Sum.inl ([], ys, ())) (ys0 := (List.replicate x.length ([], []) : List ((List (Int)) × (List ((List UInt8) × (Int))))))
    (fun n ys hy => by simp only [R.L_laws_toCommitS_0, idx_end, cond_false])
    (fun n i ys hy hi _ => by
      have hi' : i < ys.length := by omega
      simp only [R.L_laws_toCommitS_0, wrap_succ hi (by omega), idx_lt hi, idx_lt hi', idx_nn, Bool.and_self, Int.toNat_natCast, obind_some, cond_true, toCommit_id hK (x.getD i ([], [])) (hs.2 _ (getD_mem _ hi))]) x.length 0 K (List.replicate x.length ([], [])) (by omega) (by omega) (by simp) (by simp) (by simp)
  have e : (List.range x.length).map (fun i => x.getD i ([], [])) = x := by
    apply List.ext_getElem (by simp)
    intro i h1 h2
    simp [List.getD_eq_getElem?_getD, h2]
  rw [e] at this
  have this : R.L_laws_toCommitS_0 K K (x, 0, [], List.replicate x.length ([], []), ()) = some (Sum.inl ([], x, ())) := this
  have hle : (x.length : Int) ≤ 268435456 := by omega
  unfold R.laws_toCommitS
  simp [hle, this, obind]

theorem toRefS_id (hK : 9223372036854775807 < K) (x : List ((List UInt8) × ((Int) × ((Int) × (Bool))))) (hs : Sm (.sl (.pair .str (.pair (.int .i64) (.pair (.int .i64) .bool)))) x) : R.laws_toRefS K x = some ((x, ()), ()) := by
  have hx : x.length ≤ 268435456 := by have : x.length ≤ 1048576 := hs.1; omega
  have := fill_ok (L := fun n i ys => R.L_laws_toRefS_0 K n (x, (i : Nat), [], ys, ())) (len := x.length) (g := fun i => x.getD i ([], (0, (0, false)))) (fin := fun ys => Sum.inl ([], ys, ())) (ys0 := (List.replicate x.length ([], (0, (0, false))) : List ((List UInt8) × ((Int) × ((Int) × (Bool))))))
    (fun n ys hy => by simp only [R.L_laws_toRefS_0, idx_end, cond_false])
    (fun n i ys hy hi _ => by
      have hi' : i < ys.length := by omega
      simp only [R.L_laws_toRefS_0, wrap_succ hi (by omega), idx_lt hi, idx_lt hi', idx_nn, Bool.and_self, Int.toNat_natCast, obind_some, cond_true]) x.length 0 K (List.replicate x.length ([], (0, (0, false)))) (by omega) (by omega) (by simp) (by simp) (by simp)
  have e : (List.range x.length).map (fun i => x.getD i ([], (0, (0, false)))) = x := by
    apply List.ext_getElem (by simp)
    intro i h1 h2
    simp [List.getD_eq_getElem?_getD, h2]
  rw [e] at this
  have this : R.L_laws_toRefS_0 K K (x, 0, [], List.replicate x.length ([], (0, (0, false))), ()) = some (Sum.inl ([], x, ())) := this
  have hle : (x.length : Int) ≤ 268435456 := by omega
  unfold R.laws_toRefS
  simp [hle, this, obind]

theorem toBase_id (hK : 9223372036854775807 < K) (x : (List ((List (Int)) × (List ((List UInt8) × (Int))))) × (List ((List UInt8) × ((Int) × ((Int) × (Bool)))))) (hs : Sm (.pair (.sl (.pair (.sl (.int .i64)) (.sl (.pair .str (.int .i64))))) (.sl (.pair .str (.pair (.int .i64) (.pair (.int .i64) .bool))))) x) : R.laws_toBase K x = some ((x, ()), ()) := by
  unfold R.laws_toBase
  try simp only [toCommitS_id hK x.1 hs.1, toRefS_id hK x.2 hs.2, obind_some, pair_eta]
  try rfl

theorem eqStringS_id (hK : 9223372036854775807 < K) (x : List (List UInt8)) (hs : Sm (.sl .str) x) : R.laws_eqStringS K x x = some ((true, ()), ()) := by
  have hx : x.length ≤ 9223372036854775807 := by have : x.length ≤ 1048576 := hs.1; omega
  have := all_ok (L := fun n i => R.L_laws_eqStringS_0 K n (x, x, false, (i : Nat), ())) (len := x.length) (p := fun _ => true) (t := Sum.inl (false, ())) (f := Sum.inr (false, ()))
    (fun n => by simp only [R.L_laws_eqStringS_0, idx_end, cond_false]) (fun n i hi => by
      simp only [R.L_laws_eqStringS_0, wrap_succ hi hx, idx_lt hi, idx_nn, Bool.and_self, Int.toNat_natCast, obind_some, cond_true, cond_false, Bool.not_true, bne_self_eq_false, beq_self_eq_true]) x.length 0 K (by omega) (by omega)
  have this : R.L_laws_eqStringS_0 K K (x, x, false, 0, ()) = some (Sum.inl (false, ())) := by simpa [all_true] using this
  unfold R.laws_eqStringS
  simp [this, obind]

theorem eqIntS_id (hK : 9223372036854775807 < K) (x : List (Int)) (hs : Sm (.sl (.int .i64)) x) : R.laws_eqIntS K x x = some ((true, ()), ()) := by
  have hx : x.length ≤ 9223372036854775807 := by have : x.length ≤ 1048576 := hs.1; omega
  have := all_ok (L := fun n i => R.L_laws_eqIntS_0 K n (x, x, false, (i : Nat), ())) (len := x.length) (p := fun _ => true) (t := Sum.inl (false, ())) (f := Sum.inr (false, ()))
    (fun n => by simp only [R.L_laws_eqIntS_0, idx_end, cond_false]) (fun n i hi => by
      simp only [R.L_laws_eqIntS_0, wrap_succ hi hx, idx_lt hi, idx_nn, Bool.and_self, Int.toNat_natCast, obind_some, cond_true, cond_false, Bool.not_true, bne_self_eq_false, beq_self_eq_true]) x.length 0 K (by omega) (by omega)
  have this : R.L_laws_eqIntS_0 K K (x, x, false, 0, ()) = some (Sum.inl (false, ())) := by simpa [all_true] using this
  unfold R.laws_eqIntS
  simp [this, obind]

theorem eqEntry_id (hK : 9223372036854775807 < K) (x : (List UInt8) × (Int)) (hs : Sm (.pair .str (.int .i64)) x) : R.laws_eqEntry K x x = some ((true, ()), ()) := by
  unfold R.laws_eqEntry
  simp [obind_some, pair_eta]

theorem eqEntryS_id (hK : 9223372036854775807 < K) (x : List ((List UInt8) × (Int))) (hs : Sm (.sl (.pair .str (.int .i64))) x) : R.laws_eqEntryS K x x = some ((true, ()), ()) := by
  have hx : x.length ≤ 9223372036854775807 := by have : x.length ≤ 1048576 := hs.1; omega
  have := all_ok (L := fun n i => R.L_laws_eqEntryS_0 K n (x, x, false, (i : Nat), ())) (len := x.length) (p := fun _ => true) (t := Sum.inl (false, ())) (f := Sum.inr (false, ()))
    (fun n => by simp only [R.L_laws_eqEntryS_0, idx_end, cond_false]) (fun n i hi => by
      simp only [R.L_laws_eqEntryS_0, wrap_succ hi hx, idx_lt hi, idx_nn, Bool.and_self, Int.toNat_natCast, obind_some, cond_true, cond_false, Bool.not_true, bne_self_eq_false, beq_self_eq_true, eqEntry_id hK (x.getD i ([], 0)) (hs.2 _ (getD_mem _ hi))]) x.length 0 K (by omega) (by omega)
  have this : R.L_laws_eqEntryS_0 K K (x, x, false, 0, ()) = some (Sum.inl (false, ())) := by simpa [all_true] using this
  unfold R.laws_eqEntryS
  simp [this, obind]

theorem eqCommit_id (hK : 9223372036854775807 < K) (x : (List (Int)) × (List ((List UInt8) × (Int)))) (hs : Sm (.pair (.sl (.int .i64)) (.sl (.pair .str (.int .i64)))) x) : R.laws_eqCommit K x x = some ((true, ()), ()) := by
  unfold R.laws_eqCommit
  simp [eqIntS_id hK x.1 hs.1, eqEntryS_id hK x.2 hs.2, obind_some, pair_eta]

theorem eqCommitS_id (hK : 9223372036854775807 < K) (x : List ((List (Int)) × (List ((List UInt8) × (Int))))) (hs : Sm (.sl (.pair (.sl (.int .i64)) (.sl (.pair .str (.int .i64))))) x) : R.laws_eqCommitS K x x = some ((true, ()), ()) := by
  have hx : x.length ≤ 9223372036854775807 := by have : x.length ≤ 1048576 := hs.1; omega
  have := all_ok (L := fun n i => R.L_laws_eqCommitS_0 K n (x, x, false, (i : Nat), ())) (len := x.length) (p := fun _ => true) (t := Sum.inl (false, ())) (f := Sum.inr (false, ()))
    (fun n => by simp only [R.L_laws_eqCommitS_0, idx_end, cond_false]) (fun n i hi => by
      simp only [R.L_laws_eqCommitS_0, wrap_succ hi hx, idx_lt hi, idx_nn, Bool.and_self, Int.toNat_natCast, obind_some, cond_true, cond_false, Bool.not_true, bne_self_eq_false, beq_self_eq_true, eqCommit_id hK (x.getD i ([], [])) (hs.2 _ (getD_mem _ hi))]) x.length 0 K (by omega) (by omega)
  have this : R.L_laws_eqCommitS_0 K K (x, x, false, 0, ()) = some (Sum.inl (false, ())) := by simpa [all_true] using this
  unfold R.laws_eqCommitS
  simp [this, obind]

theorem eqRef_id (hK : 9223372036854775807 < K) (x : (List UInt8) × ((Int) × ((Int) × (Bool)))) (hs : Sm (.pair .str (.pair (.int .i64) (.pair (.int .i64) .bool))) x) : R.laws_eqRef K x x = some ((true, ()), ()) := by
  unfold R.laws_eqRef
  simp [obind_some, pair_eta]

theorem eqRefS_id (hK : 9223372036854775807 < K) (x : List ((List UInt8) × ((Int) × ((Int) × (Bool))))) (hs : Sm (.sl (.pair .str (.pair (.int .i64) (.pair (.int .i64) .bool)))) x) : R.laws_eqRefS K x x = some ((true, ()), ()) := by
  have hx : x.length ≤ 9223372036854775807 := by have : x.length ≤ 1048576 := hs.1; omega
  have := all_ok (L := fun n i => R.L_laws_eqRefS_0 K n (x, x, false, (i : Nat), ())) (len := x.length) (p := fun _ => true) (t := Sum.inl (false, ())) (f := Sum.inr (false, ()))
    (fun n => by simp only [R.L_laws_eqRefS_0, idx_end, cond_false]) (fun n i hi => by
      simp only [R.L_laws_eqRefS_0, wrap_succ hi hx, idx_lt hi, idx_nn, Bool.and_self, Int.toNat_natCast, obind_some, cond_true, cond_false, Bool.not_true, bne_self_eq_false, beq_self_eq_true, eqRef_id hK (x.getD i ([], (0, (0, false)))) (hs.2 _ (getD_mem _ hi))]) x.length 0 K (by omega) (by omega)
  have this : R.L_laws_eqRefS_0 K K (x, x, false, 0, ()) = some (Sum.inl (false, ())) := by simpa [all_true] using this
  unfold R.laws_eqRefS
  simp [this, obind]

theorem eqBase_id (hK : 9223372036854775807 < K) (x : (List ((List (Int)) × (List ((List UInt8) × (Int))))) × (List ((List UInt8) × ((Int) × ((Int) × (Bool)))))) (hs : Sm (.pair (.sl (.pair (.sl (.int .i64)) (.sl (.pair .str (.int .i64))))) (.sl (.pair .str (.pair (.int .i64) (.pair (.int .i64) .bool))))) x) : R.laws_eqBase K x x = some ((true, ()), ()) := by
  unfold R.laws_eqBase
  simp [eqCommitS_id hK x.1 hs.1, eqRefS_id hK x.2 hs.2, obind_some, pair_eta]
end Go.Proofs.Pure
