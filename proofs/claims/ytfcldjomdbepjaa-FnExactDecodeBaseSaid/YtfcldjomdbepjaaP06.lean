/- Plain lemmas on what the functions come to. -/
import Derived.Test.YtfcldjomdbepjaaP05
namespace Go.Proofs.Pure
open Go Fw
set_option linter.all false
set_option maxRecDepth 100000
variable {K : Nat}

theorem and127 (n : Nat) (h : n < 9223372036854775808) : bitsOf .and .i64 (n : Int) 127 = ((n % 128 : Nat) : Int) := by
  unfold bitsOf
  simp only
  have e1 : (BitVec.ofInt IntKind.i64.bits (n : Int)).toNat = n := by
    rw [BitVec.toNat_ofInt]
    show ((n : Int) % ((2 ^ 64 : Nat) : Int)).toNat = n
    omega
  have e2 : (BitVec.ofInt IntKind.i64.bits 127).toNat = 127 := by decide
  have e3 : (BitVec.ofInt IntKind.i64.bits (n : Int) &&& BitVec.ofInt IntKind.i64.bits 127).toNat = n % 128 := by
    rw [BitVec.toNat_and, e1, e2]
    exact Nat.and_two_pow_sub_one_eq_mod n 7
  rw [e3]
  exact wrap_id (by omega) (by omega)

theorem ble_of {n m : Nat} (h : n ≤ m) : Nat.ble n m = true := Nat.ble_eq_true_of_le h

def sumStep (n : Int) (b : UInt8) : Int := (n * 31 + (b.toNat : Int) + 1) % 1000003

def sumM (t : List UInt8) : Int := t.foldl sumStep 1

theorem sumStep_in {n : Int} (h1 : 0 ≤ n) (h2 : n < 1000003) (b : UInt8) : 0 ≤ sumStep n b ∧ sumStep n b < 1000003 := by
  unfold sumStep
  omega

theorem fold_ok {τ : Type} {L : Nat → Nat → Int → Option τ} {t : List UInt8} {fin : Int → τ} (h0 : ∀ n s, L (n + 1) t.length s = some (fin s))
    (h1 : ∀ n i s, i < t.length → 0 ≤ s → s < 1000003 → L (n + 1) i s = L n (i + 1) (sumStep s (t.getD i 0))) :
    ∀ (m i n : Nat) (s : Int), i + m = t.length → m < n → 0 ≤ s → s < 1000003 → L n i s = some (fin ((t.drop i).foldl sumStep s))
  | 0, i, n + 1, s, hi, _, _, _ => by
    have : i = t.length := by omega
    subst this
    rw [h0]
    simp
  | m + 1, i, n + 1, s, hi, hn, hs, hs' => by
    have hl : i < t.length := by omega
    have g := sumStep_in hs hs' (t.getD i 0)
    rw [h1 n i s hl hs hs', fold_ok h0 h1 m (i + 1) n _ (by omega) (by omega) g.1 g.2, List.drop_eq_getElem_cons hl, List.foldl_cons]
    congr 4
    simp [List.getD_eq_getElem?_getD, hl]

theorem sum_wraps {s : Int} (h1 : 0 ≤ s) (h2 : s < 1000003) (b : UInt8) : Int.tmod (IntKind.i64.wrap (IntKind.i64.wrap (IntKind.i64.wrap (s * 31) + IntKind.i64.wrap (b.toNat : Int)) + 1)) 1000003 = sumStep s b := by
  have hb : b.toNat < 256 := b.toNat_lt
  have e1 : IntKind.i64.wrap (s * 31) = s * 31 := wrap_id (by omega) (by omega)
  have e2 : IntKind.i64.wrap (b.toNat : Int) = (b.toNat : Int) := wrap_id (by omega) (by omega)
  have e3 : IntKind.i64.wrap (s * 31 + (b.toNat : Int)) = s * 31 + (b.toNat : Int) := wrap_id (by omega) (by omega)
  have e4 : IntKind.i64.wrap (s * 31 + (b.toNat : Int) + 1) = s * 31 + (b.toNat : Int) + 1 := wrap_id (by omega) (by omega)
  rw [e1, e2, e3, e4, Int.tmod_eq_emod_of_nonneg (by omega)]
  rfl

theorem l11Sum_eq (hK : 9223372036854775807 < K) (t : List UInt8) (ht : t.length ≤ 268435456) : R.spec_l11Sum K t = some ((sumM t, ()), ()) := by
  have := fold_ok (L := fun n i s => R.L_spec_l11Sum_0 K n (t, 0, s, (i : Nat), ())) (t := t) (fin := fun s => Sum.inl (0, s, ()))
    (fun n s => by simp only [R.L_spec_l11Sum_0, idx_end, cond_false]) (fun n i s hi h1 h2 => by
      simp only [R.L_spec_l11Sum_0, wrap_succ hi (by omega), idx_lt hi, idx_nn, Bool.and_self, Int.toNat_natCast, cond_true, sum_wraps h1 h2]) t.length 0 K 1 (by omega) (by omega) (by omega) (by omega)
  have this : R.L_spec_l11Sum_0 K K (t, 0, 1, 0, ()) = _ := this
  unfold R.spec_l11Sum
  rw [this]
  rfl

theorem sumOf_eq (hK : 9223372036854775807 < K) (t : List UInt8) (ht : t.length ≤ 268435456) : R.impl_sumOf K t = some ((sumM t, ()), ()) := by
  have hb : (bytesIn t).length = t.length := by simp [bytesIn]
  have := fold_ok (L := fun n i s => R.L_impl_sumOf_0 K n (0, s, ((bytesIn t).length : Int), (i : Nat), bytesIn t, ())) (t := t) (fin := fun s => Sum.inl (0, s, ()))
    (fun n s => by simp only [R.L_impl_sumOf_0, hb, idx_end, cond_false]) (fun n i s hi h1 h2 => by
      have e : (31 : Int) * s = s * 31 := Int.mul_comm _ _
      simp only [R.L_impl_sumOf_0, hb, wrap_succ hi (by omega), idx_lt hi, idx_nn, Bool.and_self, Int.toNat_natCast, cond_true, getD_bytesIn, e, sum_wraps h1 h2]) t.length 0 K 1 (by omega) (by omega) (by omega) (by omega)
  have this : R.L_impl_sumOf_0 K K (0, 1, ((bytesIn t).length : Int), 0, bytesIn t, ()) = _ := this
  unfold R.impl_sumOf
  rw [this]
  rfl

end Go.Proofs.Pure
