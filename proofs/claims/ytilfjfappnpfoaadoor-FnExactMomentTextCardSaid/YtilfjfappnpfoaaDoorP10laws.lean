/- Plain lemmas on what the functions come to. -/
import Derived.Test.YtilfjfappnpfoaaDoorP06
namespace Go.Proofs.Pure
open Go Fw
set_option linter.all false
set_option maxRecDepth 100000
variable {K : Nat}

theorem szEdit_ok (hK : 9223372036854775807 < K) (x : (List UInt8) × ((Int) × (Bool))) (p : Int) (h0 : 0 ≤ p) (h1 : p ≤ 1048576) (hw : Wd (.pair .str (.pair (.int .i64) .bool)) x) : ∃ z, R.laws_szEdit K x p = some ((z, ()), ()) ∧ z ≤ p ∧ (0 ≤ z → Sm (.pair .str (.pair (.int .i64) .bool)) x) := by
  unfold R.laws_szEdit
  have b1 : x.1.length ≤ 9223372036854775807 := hw.1
  have e1 : IntKind.i64.wrap (p - (x.1.length : Int)) = p - (x.1.length : Int) := wrap_id (by omega) (by omega)
  simp only [e1]
  by_cases c1 : p - (x.1.length : Int) < 0
  · simp only [c1, decide_true, cond_true]
    exact ⟨-1, rfl, by omega, fun h => by omega⟩
  simp only [c1, decide_false, cond_false]
  exact ⟨_, rfl, by omega, fun h => ⟨(show x.1.length ≤ 1048576 by omega), ⟨trivial, trivial⟩⟩⟩

theorem szEditS_ok (hK : 9223372036854775807 < K) (x : List ((List UInt8) × ((Int) × (Bool)))) (p : Int) (h0 : 0 ≤ p) (h1 : p ≤ 1048576) (hw : Wd (.sl (.pair .str (.pair (.int .i64) .bool))) x) : ∃ z, R.laws_szEditS K x p = some ((z, ()), ()) ∧ z ≤ p ∧ (0 ≤ z → Sm (.sl (.pair .str (.pair (.int .i64) .bool))) x) := by
  have hl : x.length ≤ 9223372036854775807 := hw.1
  have e0 : IntKind.i64.wrap (p - (x.length : Int)) = p - x.length := wrap_id (by omega) (by omega)
  unfold R.laws_szEditS
  simp only [e0]
  by_cases c0 : p - (x.length : Int) < 0
  · simp only [c0, decide_true, cond_true]
    exact ⟨-1, rfl, by omega, fun h => by omega⟩
  · simp only [c0, decide_false, cond_false]
    have := sz_loop (L := fun n i p => R.L_laws_szEditS_0 K n (x, p, 0, (i : Nat), ())) (len := x.length) (S := fun i => Sm (.pair .str (.pair (.int .i64) .bool)) (x.getD i ([], (0, false)))) (fun n p => by simp only [R.L_laws_szEditS_0, idx_end, cond_false]) (fun n i p hi hp hp' => by
      obtain ⟨z, e, l, s⟩ := szEdit_ok hK (x.getD i ([], (0, false))) p hp hp' (hw.2 _ (getD_mem _ hi))
      refine ⟨z, l, s, ?_⟩
      simp only [R.L_laws_szEditS_0, idx_lt hi, idx_nn, Bool.and_self, wrap_succ hi hl, Int.toNat_natCast, e, obind_some, cond_true]) x.length 0 K (p - x.length) (by omega) (by omega) (by omega) (by omega)
    have this : (∃ z, R.L_laws_szEditS_0 K K (x, p - x.length, 0, 0, ()) = some (.inl (z, 0, ())) ∧ _) ∨ R.L_laws_szEditS_0 K K (x, p - x.length, 0, 0, ()) = _ := this
    rcases this with ⟨z, e, g1, g2, g3⟩ | e
    · refine ⟨z, by simp only [e, obind_some], by omega, fun _ => ⟨by omega, fun y hy => ?_⟩⟩
      obtain ⟨j, hj, rfl⟩ := List.mem_iff_getElem.1 hy
      have := g3 j (by omega) hj
      rw [List.getD_eq_getElem?_getD, List.getElem?_eq_getElem hj] at this
      exact this
    · exact ⟨-1, by simp only [e, obind_some], by omega, fun h => by omega⟩

theorem toEditS_id (hK : 9223372036854775807 < K) (x : List ((List UInt8) × ((Int) × (Bool)))) (hs : Sm (.sl (.pair .str (.pair (.int .i64) .bool))) x) : R.laws_toEditS K x = some ((x, ()), ()) := by
  have hx : x.length ≤ 268435456 := by have : x.length ≤ 1048576 := hs.1; omega
  have := fill_ok (L := fun n i ys => R.L_laws_toEditS_0 K n (x, (i : Nat), [], ys, ())) (len := x.length) (g := fun i => x.getD i ([], (0, false))) (fin := fun ys => Sum.inl ([], ys, ())) (ys0 := (List.replicate x.length ([], (0, false)) : List ((List UInt8) × ((Int) × (Bool)))))
    (fun n ys hy => by simp only [R.L_laws_toEditS_0, idx_end, cond_false])
    (fun n i ys hy hi _ => by
      have hi' : i < ys.length := by omega
      simp only [R.L_laws_toEditS_0, wrap_succ hi (by omega), idx_lt hi, idx_lt hi', idx_nn, Bool.and_self, Int.toNat_natCast, obind_some, cond_true]) x.length 0 K (List.replicate x.length ([], (0, false))) (by omega) (by omega) (by simp) (by simp) (by simp)
  have e : (List.range x.length).map (fun i => x.getD i ([], (0, false))) = x := by
    apply List.ext_getElem (by simp)
    intro i h1 h2
    simp [List.getD_eq_getElem?_getD, h2]
  rw [e] at this
  have this : R.L_laws_toEditS_0 K K (x, 0, [], List.replicate x.length ([], (0, false)), ()) = some (Sum.inl ([], x, ())) := this
  have hle : (x.length : Int) ≤ 268435456 := by omega
  unfold R.laws_toEditS
  simp [hle, this, obind]

theorem eqEdit_id (hK : 9223372036854775807 < K) (x : (List UInt8) × ((Int) × (Bool))) (hs : Sm (.pair .str (.pair (.int .i64) .bool)) x) : R.laws_eqEdit K x x = some ((true, ()), ()) := by
  unfold R.laws_eqEdit
  simp [obind_some, pair_eta]

theorem eqEditS_id (hK : 9223372036854775807 < K) (x : List ((List UInt8) × ((Int) × (Bool)))) (hs : Sm (.sl (.pair .str (.pair (.int .i64) .bool))) x) : R.laws_eqEditS K x x = some ((true, ()), ()) := by
  have hx : x.length ≤ 9223372036854775807 := by have : x.length ≤ 1048576 := hs.1; omega
  have := all_ok (L := fun n i => R.L_laws_eqEditS_0 K n (x, x, false, (i : Nat), ())) (len := x.length) (p := fun _ => true) (t := Sum.inl (false, ())) (f := Sum.inr (false, ()))
    (fun n => by simp only [R.L_laws_eqEditS_0, idx_end, cond_false]) (fun n i hi => by
      simp only [R.L_laws_eqEditS_0, wrap_succ hi hx, idx_lt hi, idx_nn, Bool.and_self, Int.toNat_natCast, obind_some, cond_true, cond_false, Bool.not_true, bne_self_eq_false, beq_self_eq_true, eqEdit_id hK (x.getD i ([], (0, false))) (hs.2 _ (getD_mem _ hi))]) x.length 0 K (by omega) (by omega)
  have this : R.L_laws_eqEditS_0 K K (x, x, false, 0, ()) = some (Sum.inl (false, ())) := by simpa [all_true] using this
  unfold R.laws_eqEditS
  simp [this, obind]

theorem szStringS_ok (hK : 9223372036854775807 < K) (x : List (List UInt8)) (p : Int) (h0 : 0 ≤ p) (h1 : p ≤ 1048576) (hw : Wd (.sl .str) x) : ∃ z, R.laws_szStringS K x p = some ((z, ()), ()) ∧ z ≤ p ∧ (0 ≤ z → Sm (.sl .str) x) := by
  have hl : x.length ≤ 9223372036854775807 := hw.1
  have e0 : IntKind.i64.wrap (p - (x.length : Int)) = p - x.length := wrap_id (by omega) (by omega)
  unfold R.laws_szStringS
  simp only [e0]
  by_cases c0 : p - (x.length : Int) < 0
  · simp only [c0, decide_true, cond_true]
    exact ⟨-1, rfl, by omega, fun h => by omega⟩
  · simp only [c0, decide_false, cond_false]
    have := sz_loop (L := fun n i p => R.L_laws_szStringS_0 K n (x, p, 0, (i : Nat), ())) (len := x.length) (S := fun i => Sm .str (x.getD i [])) (fun n p => by simp only [R.L_laws_szStringS_0, idx_end, cond_false]) (fun n i p hi hp hp' => by
      have hb : (x.getD i []).length ≤ 9223372036854775807 := hw.2 _ (getD_mem _ hi)
      have e : IntKind.i64.wrap (p - ((x.getD i []).length : Int)) = p - (x.getD i []).length := wrap_id (by omega) (by omega)
      refine ⟨p - (x.getD i []).length, by omega, fun h => ?_, ?_⟩
      · show (x.getD i []).length ≤ 1048576; omega
      · simp only [R.L_laws_szStringS_0, idx_lt hi, idx_nn, Bool.and_self, wrap_succ hi hl, Int.toNat_natCast, e, obind_some, cond_true]) x.length 0 K (p - x.length) (by omega) (by omega) (by omega) (by omega)
    have this : (∃ z, R.L_laws_szStringS_0 K K (x, p - x.length, 0, 0, ()) = some (.inl (z, 0, ())) ∧ _) ∨ R.L_laws_szStringS_0 K K (x, p - x.length, 0, 0, ()) = _ := this
    rcases this with ⟨z, e, g1, g2, g3⟩ | e
    · refine ⟨z, by simp only [e, obind_some], by omega, fun _ => ⟨by omega, fun y hy => ?_⟩⟩
      obtain ⟨j, hj, rfl⟩ := List.mem_iff_getElem.1 hy
      have := g3 j (by omega) hj
      rw [List.getD_eq_getElem?_getD, List.getElem?_eq_getElem hj] at this
      exact this
    · exact ⟨-1, by simp only [e, obind_some], by omega, fun h => by omega⟩

theorem szEntry_ok (hK : 9223372036854775807 < K) (x : (List UInt8) × (Int)) (p : Int) (h0 : 0 ≤ p) (h1 : p ≤ 1048576) (hw : Wd (.pair .str (.int .i64)) x) : ∃ z, R.laws_szEntry K x p = some ((z, ()), ()) ∧ z ≤ p ∧ (0 ≤ z → Sm (.pair .str (.int .i64)) x) := by
  unfold R.laws_szEntry
  have b1 : x.1.length ≤ 9223372036854775807 := hw.1
  have e1 : IntKind.i64.wrap (p - (x.1.length : Int)) = p - (x.1.length : Int) := wrap_id (by omega) (by omega)
  simp only [e1]
  by_cases c1 : p - (x.1.length : Int) < 0
  · simp only [c1, decide_true, cond_true]
    exact ⟨-1, rfl, by omega, fun h => by omega⟩
  simp only [c1, decide_false, cond_false]
  exact ⟨_, rfl, by omega, fun h => ⟨(show x.1.length ≤ 1048576 by omega), trivial⟩⟩

theorem szEntryS_ok (hK : 9223372036854775807 < K) (x : List ((List UInt8) × (Int))) (p : Int) (h0 : 0 ≤ p) (h1 : p ≤ 1048576) (hw : Wd (.sl (.pair .str (.int .i64))) x) : ∃ z, R.laws_szEntryS K x p = some ((z, ()), ()) ∧ z ≤ p ∧ (0 ≤ z → Sm (.sl (.pair .str (.int .i64))) x) := by
  have hl : x.length ≤ 9223372036854775807 := hw.1
  have e0 : IntKind.i64.wrap (p - (x.length : Int)) = p - x.length := wrap_id (by omega) (by omega)
  unfold R.laws_szEntryS
  simp only [e0]
  by_cases c0 : p - (x.length : Int) < 0
  · simp only [c0, decide_true, cond_true]
    exact ⟨-1, rfl, by omega, fun h => by omega⟩
  · simp only [c0, decide_false, cond_false]
    have := sz_loop (L := fun n i p => R.L_laws_szEntryS_0 K n (x, p, 0, (i : Nat), ())) (len := x.length) (S := fun i => Sm (.pair .str (.int .i64)) (x.getD i ([], 0))) (fun n p => by simp only [R.L_laws_szEntryS_0, idx_end, cond_false]) (fun n i p hi hp hp' => by
      obtain ⟨z, e, l, s⟩ := szEntry_ok hK (x.getD i ([], 0)) p hp hp' (hw.2 _ (getD_mem _ hi))
      refine ⟨z, l, s, ?_⟩
      simp only [R.L_laws_szEntryS_0, idx_lt hi, idx_nn, Bool.and_self, wrap_succ hi hl, Int.toNat_natCast, e, obind_some, cond_true]) x.length 0 K (p - x.length) (by omega) (by omega) (by omega) (by omega)
    have this : (∃ z, R.L_laws_szEntryS_0 K K (x, p - x.length, 0, 0, ()) = some (.inl (z, 0, ())) ∧ _) ∨ R.L_laws_szEntryS_0 K K (x, p - x.length, 0, 0, ()) = _ := this
    rcases this with ⟨z, e, g1, g2, g3⟩ | e
    · refine ⟨z, by simp only [e, obind_some], by omega, fun _ => ⟨by omega, fun y hy => ?_⟩⟩
      obtain ⟨j, hj, rfl⟩ := List.mem_iff_getElem.1 hy
      have := g3 j (by omega) hj
      rw [List.getD_eq_getElem?_getD, List.getElem?_eq_getElem hj] at this
      exact this
    · exact ⟨-1, by simp only [e, obind_some], by omega, fun h => by omega⟩

theorem szResult_ok (hK : 9223372036854775807 < K) (x : (Int) × ((Int) × ((Int) × ((List (List UInt8)) × (List ((List UInt8) × (Int))))))) (p : Int) (h0 : 0 ≤ p) (h1 : p ≤ 1048576) (hw : Wd (.pair (.int .i64) (.pair (.int .i64) (.pair (.int .i64) (.pair (.sl .str) (.sl (.pair .str (.int .i64))))))) x) : ∃ z, R.laws_szResult K x p = some ((z, ()), ()) ∧ z ≤ p ∧ (0 ≤ z → Sm (.pair (.int .i64) (.pair (.int .i64) (.pair (.int .i64) (.pair (.sl .str) (.sl (.pair .str (.int .i64))))))) x) := by
  unfold R.laws_szResult
  obtain ⟨z1, e1, l1, s1⟩ := szStringS_ok hK x.2.2.2.1 p (by omega) (by omega) hw.2.2.2.1
  simp only [e1, obind_some, pair_eta]
  by_cases c1 : z1 < 0
  · simp only [c1, decide_true, cond_true]
    exact ⟨-1, rfl, by omega, fun h => by omega⟩
  simp only [c1, decide_false, cond_false]
  obtain ⟨z2, e2, l2, s2⟩ := szEntryS_ok hK x.2.2.2.2 (z1) (by omega) (by omega) hw.2.2.2.2
  simp only [e2, obind_some, pair_eta]
  by_cases c2 : z2 < 0
  · simp only [c2, decide_true, cond_true]
    exact ⟨-1, rfl, by omega, fun h => by omega⟩
  simp only [c2, decide_false, cond_false]
  exact ⟨_, rfl, by omega, fun h => ⟨trivial, ⟨trivial, ⟨trivial, ⟨(s1 (by omega)), (s2 (by omega))⟩⟩⟩⟩⟩

theorem toStringS_id (hK : 9223372036854775807 < K) (x : List (List UInt8)) (hs : Sm (.sl .str) x) : R.laws_toStringS K x = some ((x, ()), ()) := by
  have hx : x.length ≤ 268435456 := by have : x.length ≤ 1048576 := hs.1; omega
  have := fill_ok (L := fun n i ys => R.L_laws_toStringS_0 K n (x, (i : Nat), [], ys, ())) (len := x.length) (g := fun i => x.getD i []) (fin := fun ys => Sum.inl ([], ys, ())) (ys0 := (List.replicate x.length [] : List (List UInt8)))
    (fun n ys hy => by simp only [R.L_laws_toStringS_0, idx_end, cond_false])
    (fun n i ys hy hi _ => by
      have hi' : i < ys.length := by omega
      simp only [R.L_laws_toStringS_0, wrap_succ hi (by omega), idx_lt hi, idx_lt hi', idx_nn, Bool.and_self, Int.toNat_natCast, obind_some, cond_true]) x.length 0 K (List.replicate x.length []) (by omega) (by omega) (by simp) (by simp) (by simp)
  have e : (List.range x.length).map (fun i => x.getD i []) = x := by
    apply List.ext_getElem (by simp)
    intro i h1 h2
    simp [List.getD_eq_getElem?_getD, h2]
  rw [e] at this
  have this : R.L_laws_toStringS_0 K K (x, 0, [], List.replicate x.length [], ()) = some (Sum.inl ([], x, ())) := this
  have hle : (x.length : Int) ≤ 268435456 := by omega
  unfold R.laws_toStringS
  simp [hle, this, obind]

theorem toEntryS_id (hK : 9223372036854775807 < K) (x : List ((List UInt8) × (Int))) (hs : Sm (.sl (.pair .str (.int .i64))) x) : R.laws_toEntryS K x = some ((x, ()), ()) := by
  have hx : x.length ≤ 268435456 := by have : x.length ≤ 1048576 := hs.1; omega
  have := fill_ok (L := fun n i ys => R.L_laws_toEntryS_0 K n (x, (i : Nat), [], ys, ())) (len := x.length) (g := fun i => x.getD i ([], 0)) (fin := fun ys => Sum.inl ([], ys, ())) (ys0 := (List.replicate x.length ([], 0) : List ((List UInt8) × (Int))))
    (fun n ys hy => by simp only [R.L_laws_toEntryS_0, idx_end, cond_false])
    (fun n i ys hy hi _ => by
      have hi' : i < ys.length := by omega
      simp only [R.L_laws_toEntryS_0, wrap_succ hi (by omega), idx_lt hi, idx_lt hi', idx_nn, Bool.and_self, Int.toNat_natCast, obind_some, cond_true]) x.length 0 K (List.replicate x.length ([], 0)) (by omega) (by omega) (by simp) (by simp) (by simp)
  have e : (List.range x.length).map (fun i => x.getD i ([], 0)) = x := by
    apply List.ext_getElem (by simp)
    intro i h1 h2
    simp [List.getD_eq_getElem?_getD, h2]
  rw [e] at this
  have this : R.L_laws_toEntryS_0 K K (x, 0, [], List.replicate x.length ([], 0), ()) = some (Sum.inl ([], x, ())) := this
  have hle : (x.length : Int) ≤ 268435456 := by omega
  unfold R.laws_toEntryS
  simp [hle, this, obind]

theorem toResult_id (hK : 9223372036854775807 < K) (x : (Int) × ((Int) × ((Int) × ((List (List UInt8)) × (List ((List UInt8) × (Int))))))) (hs : Sm (.pair (.int .i64) (.pair (.int .i64) (.pair (.int .i64) (.pair (.sl .str) (.sl (.pair .str (.int .i64))))))) x) : R.laws_toResult K x = some ((x, ()), ()) := by
  unfold R.laws_toResult
  try simp only [toStringS_id hK x.2.2.2.1 hs.2.2.2.1, toEntryS_id hK x.2.2.2.2 hs.2.2.2.2, obind_some, pair_eta]
  try rfl

theorem eqStringS_id (hK : 9223372036854775807 < K) (x : List (List UInt8)) (hs : Sm (.sl .str) x) : R.laws_eqStringS K x x = some ((true, ()), ()) := by
  have hx : x.length ≤ 9223372036854775807 := by have : x.length ≤ 1048576 := hs.1; omega
  have := all_ok (L := fun n i => R.L_laws_eqStringS_0 K n (x, x, false, (i : Nat), ())) (len := x.length) (p := fun _ => true) (t := Sum.inl (false, ())) (f := Sum.inr (false, ()))
    (fun n => by simp only [R.L_laws_eqStringS_0, idx_end, cond_false]) (fun n i hi => by
      simp only [R.L_laws_eqStringS_0, wrap_succ hi hx, idx_lt hi, idx_nn, Bool.and_self, Int.toNat_natCast, obind_some, cond_true, cond_false, Bool.not_true, bne_self_eq_false, beq_self_eq_true]) x.length 0 K (by omega) (by omega)
  have this : R.L_laws_eqStringS_0 K K (x, x, false, 0, ()) = some (Sum.inl (false, ())) := by simpa [all_true] using this
  unfold R.laws_eqStringS
  simp [this, obind]

theorem eqEntry_id (hK : 9223372036854775807 < K) (x : (List UInt8) × (Int)) (hs : Sm (.pair .str (.int .i64)) x) : R.laws_eqEntry K x x = some ((true, ()), ()) := by
  unfold R.laws_eqEntry
  simp [obind_some, pair_eta]

theorem eqEntryS_id (hK : 9223372036854775807 < K) (x : List ((List UInt8) × (Int))) (hs : Sm (.sl (.pair .str (.int .i64))) x) : R.laws_eqEntryS K x x = some ((true, ()), ()) := by
  have hx : x.length ≤ 9223372036854775807 := by have : x.length ≤ 1048576 := hs.1; omega
  have := all_ok (L := fun n i => R.L_laws_eqEntryS_0 K n (x, x, false, (i : Nat), ())) (len := x.length) (p := fun _ => true) (t := Sum.inl (false, ())) (f := Sum.inr (false, ()))
    (fun n => by simp only [R.L_laws_eqEntryS_0, idx_end, cond_false]) (fun n i hi => by
      simp only [R.L_laws_eqEntryS_0, wrap_succ hi hx, idx_lt hi, idx_nn, Bool.and_self, Int.toNat_natCast, obind_some, cond_true, cond_false, Bool.not_true, bne_self_eq_false, beq_self_eq_true, eqEntry_id hK (x.getD i ([], 0)) (hs.2 _ (getD_mem _ hi))]) x.length 0 K (by omega) (by omega)
  have this : R.L_laws_eqEntryS_0 K K (x, x, false, 0, ()) = some (Sum.inl (false, ())) := by simpa [all_true] using this
  unfold R.laws_eqEntryS
  simp [this, obind]

theorem eqResult_id (hK : 9223372036854775807 < K) (x : (Int) × ((Int) × ((Int) × ((List (List UInt8)) × (List ((List UInt8) × (Int))))))) (hs : Sm (.pair (.int .i64) (.pair (.int .i64) (.pair (.int .i64) (.pair (.sl .str) (.sl (.pair .str (.int .i64))))))) x) : R.laws_eqResult K x x = some ((true, ()), ()) := by
  unfold R.laws_eqResult
  simp [eqStringS_id hK x.2.2.2.1 hs.2.2.2.1, eqEntryS_id hK x.2.2.2.2 hs.2.2.2.2, obind_some, pair_eta]

theorem szOp_ok (hK : 9223372036854775807 < K) (x : (Int) × ((Int) × ((List UInt8) × ((List UInt8) × (List ((List UInt8) × ((Int) × (Bool)))))))) (p : Int) (h0 : 0 ≤ p) (h1 : p ≤ 1048576) (hw : Wd (.pair (.int .i64) (.pair (.int .i64) (.pair .str (.pair .str (.sl (.pair .str (.pair (.int .i64) .bool))))))) x) : ∃ z, R.laws_szOp K x p = some ((z, ()), ()) ∧ z ≤ p ∧ (0 ≤ z → Sm (.pair (.int .i64) (.pair (.int .i64) (.pair .str (.pair .str (.sl (.pair .str (.pair (.int .i64) .bool))))))) x) := by
  unfold R.laws_szOp
  have b1 : x.2.2.1.length ≤ 9223372036854775807 := hw.2.2.1
  have e1 : IntKind.i64.wrap (p - (x.2.2.1.length : Int)) = p - (x.2.2.1.length : Int) := wrap_id (by omega) (by omega)
  simp only [e1]
  by_cases c1 : p - (x.2.2.1.length : Int) < 0
  · simp only [c1, decide_true, cond_true]
    exact ⟨-1, rfl, by omega, fun h => by omega⟩
  simp only [c1, decide_false, cond_false]
  have b2 : x.2.2.2.1.length ≤ 9223372036854775807 := hw.2.2.2.1
  have e2 : IntKind.i64.wrap (p - (x.2.2.1.length : Int) - (x.2.2.2.1.length : Int)) = p - (x.2.2.1.length : Int) - (x.2.2.2.1.length : Int) := wrap_id (by omega) (by omega)
  simp only [e2]
  by_cases c2 : p - (x.2.2.1.length : Int) - (x.2.2.2.1.length : Int) < 0
  · simp only [c2, decide_true, cond_true]
    exact ⟨-1, rfl, by omega, fun h => by omega⟩
  simp only [c2, decide_false, cond_false]
  obtain ⟨z3, e3, l3, s3⟩ := szEditS_ok hK x.2.2.2.2 (p - (x.2.2.1.length : Int) - (x.2.2.2.1.length : Int)) (by omega) (by omega) hw.2.2.2.2
  simp only [e3, obind_some, pair_eta]
  by_cases c3 : z3 < 0
  · simp only [c3, decide_true, cond_true]
    exact ⟨-1, rfl, by omega, fun h => by omega⟩
  simp only [c3, decide_false, cond_false]
  exact ⟨_, rfl, by omega, fun h => ⟨trivial, ⟨trivial, ⟨(show x.2.2.1.length ≤ 1048576 by omega), ⟨(show x.2.2.2.1.length ≤ 1048576 by omega), (s3 (by omega))⟩⟩⟩⟩⟩

theorem szMoment_ok (hK : 9223372036854775807 < K) (x : (Int) × ((Int) × ((Int) × (((Int) × ((Int) × ((List UInt8) × ((List UInt8) × (List ((List UInt8) × ((Int) × (Bool)))))))) × ((Int) × ((Int) × ((Int) × ((List (List UInt8)) × (List ((List UInt8) × (Int))))))))))) (p : Int) (h0 : 0 ≤ p) (h1 : p ≤ 1048576) (hw : Wd (.pair (.int .i64) (.pair (.int .i64) (.pair (.int .i64) (.pair (.pair (.int .i64) (.pair (.int .i64) (.pair .str (.pair .str (.sl (.pair .str (.pair (.int .i64) .bool))))))) (.pair (.int .i64) (.pair (.int .i64) (.pair (.int .i64) (.pair (.sl .str) (.sl (.pair .str (.int .i64))))))))))) x) : ∃ z, R.laws_szMoment K x p = some ((z, ()), ()) ∧ z ≤ p ∧ (0 ≤ z → Sm (.pair (.int .i64) (.pair (.int .i64) (.pair (.int .i64) (.pair (.pair (.int .i64) (.pair (.int .i64) (.pair .str (.pair .str (.sl (.pair .str (.pair (.int .i64) .bool))))))) (.pair (.int .i64) (.pair (.int .i64) (.pair (.int .i64) (.pair (.sl .str) (.sl (.pair .str (.int .i64))))))))))) x) := by
  unfold R.laws_szMoment
  obtain ⟨z1, e1, l1, s1⟩ := szOp_ok hK x.2.2.2.1 p (by omega) (by omega) hw.2.2.2.1
  simp only [e1, obind_some, pair_eta]
  by_cases c1 : z1 < 0
  · simp only [c1, decide_true, cond_true]
    exact ⟨-1, rfl, by omega, fun h => by omega⟩
  simp only [c1, decide_false, cond_false]
  obtain ⟨z2, e2, l2, s2⟩ := szResult_ok hK x.2.2.2.2 (z1) (by omega) (by omega) hw.2.2.2.2
  simp only [e2, obind_some, pair_eta]
  by_cases c2 : z2 < 0
  · simp only [c2, decide_true, cond_true]
    exact ⟨-1, rfl, by omega, fun h => by omega⟩
  simp only [c2, decide_false, cond_false]
  exact ⟨_, rfl, by omega, fun h => ⟨trivial, ⟨trivial, ⟨trivial, ⟨(s1 (by omega)), (s2 (by omega))⟩⟩⟩⟩⟩

theorem toOp_id (hK : 9223372036854775807 < K) (x : (Int) × ((Int) × ((List UInt8) × ((List UInt8) × (List ((List UInt8) × ((Int) × (Bool)))))))) (hs : Sm (.pair (.int .i64) (.pair (.int .i64) (.pair .str (.pair .str (.sl (.pair .str (.pair (.int .i64) .bool))))))) x) : R.laws_toOp K x = some ((x, ()), ()) := by
  unfold R.laws_toOp
  try simp only [toEditS_id hK x.2.2.2.2 hs.2.2.2.2, obind_some, pair_eta]
  try rfl

theorem toMoment_id (hK : 9223372036854775807 < K) (x : (Int) × ((Int) × ((Int) × (((Int) × ((Int) × ((List UInt8) × ((List UInt8) × (List ((List UInt8) × ((Int) × (Bool)))))))) × ((Int) × ((Int) × ((Int) × ((List (List UInt8)) × (List ((List UInt8) × (Int))))))))))) (hs : Sm (.pair (.int .i64) (.pair (.int .i64) (.pair (.int .i64) (.pair (.pair (.int .i64) (.pair (.int .i64) (.pair .str (.pair .str (.sl (.pair .str (.pair (.int .i64) .bool))))))) (.pair (.int .i64) (.pair (.int .i64) (.pair (.int .i64) (.pair (.sl .str) (.sl (.pair .str (.int .i64))))))))))) x) : R.laws_toMoment K x = some ((x, ()), ()) := by
  unfold R.laws_toMoment
  try simp only [toOp_id hK x.2.2.2.1 hs.2.2.2.1, toResult_id hK x.2.2.2.2 hs.2.2.2.2, obind_some, pair_eta]
  try rfl

theorem eqOp_id (hK : 9223372036854775807 < K) (x : (Int) × ((Int) × ((List UInt8) × ((List UInt8) × (List ((List UInt8) × ((Int) × (Bool)))))))) (hs : Sm (.pair (.int .i64) (.pair (.int .i64) (.pair .str (.pair .str (.sl (.pair .str (.pair (.int .i64) .bool))))))) x) : R.laws_eqOp K x x = some ((true, ()), ()) := by
  unfold R.laws_eqOp
  simp [eqEditS_id hK x.2.2.2.2 hs.2.2.2.2, obind_some, pair_eta]

theorem eqMoment_id (hK : 9223372036854775807 < K) (x : (Int) × ((Int) × ((Int) × (((Int) × ((Int) × ((List UInt8) × ((List UInt8) × (List ((List UInt8) × ((Int) × (Bool)))))))) × ((Int) × ((Int) × ((Int) × ((List (List UInt8)) × (List ((List UInt8) × (Int))))))))))) (hs : Sm (.pair (.int .i64) (.pair (.int .i64) (.pair (.int .i64) (.pair (.pair (.int .i64) (.pair (.int .i64) (.pair .str (.pair .str (.sl (.pair .str (.pair (.int .i64) .bool))))))) (.pair (.int .i64) (.pair (.int .i64) (.pair (.int .i64) (.pair (.sl .str) (.sl (.pair .str (.int .i64))))))))))) x) : R.laws_eqMoment K x x = some ((true, ()), ()) := by
  unfold R.laws_eqMoment
  simp [eqOp_id hK x.2.2.2.1 hs.2.2.2.1, eqResult_id hK x.2.2.2.2 hs.2.2.2.2, obind_some, pair_eta]
end Go.Proofs.Pure
