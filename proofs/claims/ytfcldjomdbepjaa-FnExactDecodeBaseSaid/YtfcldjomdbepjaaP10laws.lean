/- Plain lemmas on what the functions come to. -/
import Derived.Test.YtfcldjomdbepjaaP09marks
namespace Go.Proofs.Pure
open Go Fw
set_option linter.all false
set_option maxRecDepth 100000
variable {K : Nat}

theorem eqIntS_id (hK : 9223372036854775807 < K) (x : List (Int)) (hs : Sm (.sl (.int .i64)) x) : R.laws_eqIntS K x x = some ((true, ()), ()) := by
  have hx : x.length ≤ 9223372036854775807 := by have : x.length ≤ 1048576 := hs.1; omega
  have := all_ok (L := fun n i => R.L_laws_eqIntS_0 K n (x, x, false, (i : Nat), ())) (len := x.length) (p := fun _ => true) (t := Sum.inl (false, ())) (f := Sum.inr (false, ()))
    (fun n => by simp only [R.L_laws_eqIntS_0, idx_end, cond_false]) (fun n i hi => by
      simp only [R.L_laws_eqIntS_0, wrap_succ hi hx, idx_lt hi, idx_nn, Bool.and_self, Int.toNat_natCast, obind_some, cond_true, cond_false, Bool.not_true, bne_self_eq_false, beq_self_eq_true]) x.length 0 K (by omega) (by omega)
  have this : R.L_laws_eqIntS_0 K K (x, x, false, 0, ()) = some (Sum.inl (false, ())) := by simpa [all_true] using this
  unfold R.laws_eqIntS
  simp [this, obind]

theorem eqEntry_id (hK : 9223372036854775807 < K) (x : (List UInt8) × (Int)) (hs : Sm (.pair .str (.int .i64)) x) : R.laws_eqEntry K x x = some ((true, ()), ()) := by
  unfold R.laws_eqEntry
  simp [obind_some, pair_eta]

theorem eqEntryS_id (hK : 9223372036854775807 < K) (x : List ((List UInt8) × (Int))) (hs : Sm (.sl (.pair .str (.int .i64))) x) : R.laws_eqEntryS K x x = some ((true, ()), ()) := by
  have hx : x.length ≤ 9223372036854775807 := by have : x.length ≤ 1048576 := hs.1; omega
  have := all_ok (L := fun n i => R.L_laws_eqEntryS_0 K n (x, x, false, (i : Nat), ())) (len := x.length) (p := fun _ => true) (t := Sum.inl (false, ())) (f := Sum.inr (false, ()))
    (fun n => by simp only [R.L_laws_eqEntryS_0, idx_end, cond_false]) (fun n i hi => by
      simp only [R.L_laws_eqEntryS_0, wrap_succ hi hx, idx_lt hi, idx_nn, Bool.and_self, Int.toNat_natCast, obind_some, cond_true, cond_false, Bool.not_true, bne_self_eq_false, beq_self_eq_true, eqEntry_id hK (x.getD i ([], 0)) (hs.2 _ (getD_mem _ hi))]) x.length 0 K (by omega) (by omega)
  have this : R.L_laws_eqEntryS_0 K K (x, x, false, 0, ()) = some (Sum.inl (false, ())) := by simpa [all_true] using this
  unfold R.laws_eqEntryS
  simp [this, obind]

theorem eqCommit_id (hK : 9223372036854775807 < K) (x : (List (Int)) × (List ((List UInt8) × (Int)))) (hs : Sm (.pair (.sl (.int .i64)) (.sl (.pair .str (.int .i64)))) x) : R.laws_eqCommit K x x = some ((true, ()), ()) := by
  unfold R.laws_eqCommit
  simp [eqIntS_id hK x.1 hs.1, eqEntryS_id hK x.2 hs.2, obind_some, pair_eta]

theorem eqCommitS_id (hK : 9223372036854775807 < K) (x : List ((List (Int)) × (List ((List UInt8) × (Int))))) (hs : Sm (.sl (.pair (.sl (.int .i64)) (.sl (.pair .str (.int .i64))))) x) : R.laws_eqCommitS K x x = some ((true, ()), ()) := by
  have hx : x.length ≤ 9223372036854775807 := by have : x.length ≤ 1048576 := hs.1; omega
  have := all_ok (L := fun n i => R.L_laws_eqCommitS_0 K n (x, x, false, (i : Nat), ())) (len := x.length) (p := fun _ => true) (t := Sum.inl (false, ())) (f := Sum.inr (false, ()))
    (fun n => by simp only [R.L_laws_eqCommitS_0, idx_end, cond_false]) (fun n i hi => by
      simp only [R.L_laws_eqCommitS_0, wrap_succ hi hx, idx_lt hi, idx_nn, Bool.and_self, Int.toNat_natCast, obind_some, cond_true, cond_false, Bool.not_true, bne_self_eq_false, beq_self_eq_true, eqCommit_id hK (x.getD i ([], [])) (hs.2 _ (getD_mem _ hi))]) x.length 0 K (by omega) (by omega)
  have this : R.L_laws_eqCommitS_0 K K (x, x, false, 0, ()) = some (Sum.inl (false, ())) := by simpa [all_true] using this
  unfold R.laws_eqCommitS
  simp [this, obind]

theorem eqRef_id (hK : 9223372036854775807 < K) (x : (List UInt8) × ((Int) × ((Int) × (Bool)))) (hs : Sm (.pair .str (.pair (.int .i64) (.pair (.int .i64) .bool))) x) : R.laws_eqRef K x x = some ((true, ()), ()) := by
  unfold R.laws_eqRef
  simp [obind_some, pair_eta]

theorem eqRefS_id (hK : 9223372036854775807 < K) (x : List ((List UInt8) × ((Int) × ((Int) × (Bool))))) (hs : Sm (.sl (.pair .str (.pair (.int .i64) (.pair (.int .i64) .bool)))) x) : R.laws_eqRefS K x x = some ((true, ()), ()) := by
  have hx : x.length ≤ 9223372036854775807 := by have : x.length ≤ 1048576 := hs.1; omega
  have := all_ok (L := fun n i => R.L_laws_eqRefS_0 K n (x, x, false, (i : Nat), ())) (len := x.length) (p := fun _ => true) (t := Sum.inl (false, ())) (f := Sum.inr (false, ()))
    (fun n => by simp only [R.L_laws_eqRefS_0, idx_end, cond_false]) (fun n i hi => by
      simp only [R.L_laws_eqRefS_0, wrap_succ hi hx, idx_lt hi, idx_nn, Bool.and_self, Int.toNat_natCast, obind_some, cond_true, cond_false, Bool.not_true, bne_self_eq_false, beq_self_eq_true, eqRef_id hK (x.getD i ([], (0, (0, false)))) (hs.2 _ (getD_mem _ hi))]) x.length 0 K (by omega) (by omega)
  have this : R.L_laws_eqRefS_0 K K (x, x, false, 0, ()) = some (Sum.inl (false, ())) := by simpa [all_true] using this
  unfold R.laws_eqRefS
  simp [this, obind]

theorem eqBase_id (hK : 9223372036854775807 < K) (x : (List ((List (Int)) × (List ((List UInt8) × (Int))))) × (List ((List UInt8) × ((Int) × ((Int) × (Bool)))))) (hs : Sm (.pair (.sl (.pair (.sl (.int .i64)) (.sl (.pair .str (.int .i64))))) (.sl (.pair .str (.pair (.int .i64) (.pair (.int .i64) .bool))))) x) : R.laws_eqBase K x x = some ((true, ()), ()) := by
  unfold R.laws_eqBase
  simp [eqCommitS_id hK x.1 hs.1, eqRefS_id hK x.2 hs.2, obind_some, pair_eta]
end Go.Proofs.Pure
