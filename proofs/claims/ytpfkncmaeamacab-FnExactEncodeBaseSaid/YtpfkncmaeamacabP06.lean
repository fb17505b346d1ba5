/- Plain lemmas on what the functions come to. -/
import Derived.Test.YtpfkncmaeamacabP05
namespace Go.Proofs.Pure
open Go Fw
set_option linter.all false
set_option maxRecDepth 100000
variable {K : Nat}

theorem wrap_u8 {n : Int} (h1 : 0 ≤ n) (h2 : n < 256) : IntKind.u8.wrap n = n := by
  show (if (false && decide (n % 256 ≥ 128)) = true then n % 256 - 256 else n % 256) = n
  rw [Bool.false_and, if_neg (by decide)]
  omega

/-- a number's bytes: seven bits each, the lowest first -/
def numM (n : Nat) : List UInt8 := if n > 127 then UInt8.ofNat (128 + n % 128) :: numM (n / 128) else [UInt8.ofNat n]
termination_by n
decreasing_by omega

theorem numM_len : ∀ (k n : Nat), n < 128 ^ (k + 1) → (numM n).length ≤ k + 1
  | k, n, h => by
    unfold numM
    split
    · match k with
      | 0 => omega
      | k + 1 =>
        have : n / 128 < 128 ^ (k + 1) := by
          rw [Nat.div_lt_iff_lt_mul (by omega), ← Nat.pow_succ]; exact h
        have := numM_len k _ this
        simp; omega
    · simp

/-- the loop that writes a number -/
theorem num_loop {L : Nat → Int → List Int → Option ((Int × (List UInt8 × (List Int × Unit))) ⊕ Unit)} {q : List UInt8}
    (h1 : ∀ f (n : Nat) acc, n < 9223372036854775808 → L (f + 1) (n : Int) acc = bif decide ((n : Int) > 127) then (bif Nat.ble (acc.length + 1) 268435456 then L f ((n / 128 : Nat) : Int) (acc ++ [((128 + n % 128 : Nat) : Int)]) else none) else some (Sum.inl ((n : Int), q, acc, ()))) :
    ∀ (k f n : Nat) (acc : List Int), n < 128 ^ (k + 1) → n < 9223372036854775808 → k < f → acc.length + k ≤ 268435456 →
      ∃ (n' : Nat) (acc' : List Int), L f (n : Int) acc = some (Sum.inl ((n' : Int), q, acc', ())) ∧ acc'.length ≤ acc.length + k ∧ n' ≤ 127 ∧ bytesOut (acc' ++ [(n' : Int)]) = bytesOut acc ++ numM n
  | k, f + 1, n, acc, h, h', hf, ha => by
    rw [h1 f n acc h']
    by_cases hn : n > 127
    · match k with
      | 0 => omega
      | k + 1 =>
        have hd : n / 128 < 128 ^ (k + 1) := by
          rw [Nat.div_lt_iff_lt_mul (by omega), ← Nat.pow_succ]; exact h
        have hb : Nat.ble (acc.length + 1) 268435456 = true := Nat.ble_eq_true_of_le (by omega)
        obtain ⟨n', acc', e, g1, g2, g3⟩ := num_loop h1 k f (n / 128) (acc ++ [((128 + n % 128 : Nat) : Int)]) hd (by omega) (by omega) (by rw [List.length_append, List.length_cons, List.length_nil]; omega)
        refine ⟨n', acc', ?_, by rw [List.length_append, List.length_cons, List.length_nil] at g1; omega, g2, ?_⟩
        · have : (n : Int) > 127 := by omega
          simp only [this, decide_true, cond_true, hb]
          exact e
        · rw [g3]
          conv => rhs; unfold numM
          rw [if_pos hn]
          have e1 : (((128 + n % 128 : Nat) : Int)).toNat = 128 + n % 128 := by omega
          simp only [bytesOut, List.map_append, List.map_cons, List.map_nil, e1, List.append_assoc, List.cons_append, List.nil_append]
    · have : ¬ (n : Int) > 127 := by omega
      refine ⟨n, acc, by simp only [this, decide_false, cond_false], by omega, by omega, ?_⟩
      conv => rhs; unfold numM
      rw [if_neg hn]
      simp [bytesOut]

theorem pow_big {n : Nat} (h : n < 9223372036854775808) : n < 128 ^ (9 + 1) := Nat.lt_of_lt_of_le h (by decide)

theorem l11Number_eq (hK : 9223372036854775807 < K) (n : Nat) (h : n < 9223372036854775808) : R.spec_l11Number K (n : Int) = some ((numM n, ()), ()) := by
  obtain ⟨n', acc, e, g1, g2, g3⟩ := num_loop (L := fun f n acc => R.L_spec_l11Number_0 K f (n, [], acc, ())) (q := []) (fun f n acc hn => by
    have e1 : Int.tmod (n : Int) 128 = ((n % 128 : Nat) : Int) := by rw [Int.tmod_eq_emod_of_nonneg (by omega)]; omega
    have e2 : IntKind.i64.wrap (128 + ((n % 128 : Nat) : Int)) = ((128 + n % 128 : Nat) : Int) := by rw [wrap_id (by omega) (by omega)]; omega
    have e3 : IntKind.u8.wrap ((128 + n % 128 : Nat) : Int) = ((128 + n % 128 : Nat) : Int) := wrap_u8 (by omega) (by omega)
    have e4 : Int.tdiv (n : Int) 128 = ((n / 128 : Nat) : Int) := by rw [Int.tdiv_eq_ediv_of_nonneg (by omega)]; omega
    have e5 : IntKind.i64.wrap ((n / 128 : Nat) : Int) = ((n / 128 : Nat) : Int) := wrap_id (by omega) (by omega)
    simp only [R.L_spec_l11Number_0, e1, e2, e3, e4, e5, List.length_cons, List.length_nil, Nat.zero_add]) 9 K n [] (pow_big h) h (by omega) (by simp)
  unfold R.spec_l11Number
  have e : R.L_spec_l11Number_0 K K ((n : Int), [], [], ()) = _ := e
  have hb : Nat.ble (acc.length + 1) 268435456 = true := Nat.ble_eq_true_of_le (by simp at g1; omega)
  have e6 : IntKind.u8.wrap (n' : Int) = (n' : Int) := wrap_u8 (by omega) (by omega)
  show obind (R.L_spec_l11Number_0 K K ((n : Int), [], [], ())) _ = _
  rw [e]
  simp only [obind_some, List.length_cons, List.length_nil, Nat.zero_add, hb, cond_true, e6, g3]
  rfl

theorem and127 (n : Nat) (h : n < 9223372036854775808) : bitsOf .and .i64 (n : Int) 127 = ((n % 128 : Nat) : Int) := by
  unfold bitsOf
  simp only
  have e1 : (BitVec.ofInt IntKind.i64.bits (n : Int)).toNat = n := by
    rw [BitVec.toNat_ofInt]
    show ((n : Int) % ((2 ^ 64 : Nat) : Int)).toNat = n
    omega
  have e2 : (BitVec.ofInt IntKind.i64.bits 127).toNat = 127 := by decide
  have e3 : (BitVec.ofInt IntKind.i64.bits (n : Int) &&& BitVec.ofInt IntKind.i64.bits 127).toNat = n % 128 := by
    rw [BitVec.toNat_and, e1, e2]
    exact Nat.and_two_pow_sub_one_eq_mod n 7
  rw [e3]
  exact wrap_id (by omega) (by omega)

theorem or128 (n : Nat) (h : n < 128) : bitsOf .or .u8 (n : Int) 128 = ((128 + n : Nat) : Int) := by
  unfold bitsOf
  simp only
  have e1 : (BitVec.ofInt IntKind.u8.bits (n : Int)).toNat = n := by
    rw [BitVec.toNat_ofInt]
    show ((n : Int) % ((2 ^ 8 : Nat) : Int)).toNat = n
    omega
  have e2 : (BitVec.ofInt IntKind.u8.bits 128).toNat = 128 := by decide
  have e3 : (BitVec.ofInt IntKind.u8.bits (n : Int) ||| BitVec.ofInt IntKind.u8.bits 128).toNat = 128 + n := by
    rw [BitVec.toNat_or, e1, e2, Nat.or_comm]
    have := Nat.two_pow_add_eq_or_of_lt (i := 7) (b := n) h 1
    simpa using this.symm
  rw [e3]
  exact wrap_u8 (by omega) (by omega)

theorem shr7 (n : Nat) : shrOf (n : Int) (min (Int.toNat 7) IntKind.i64.bits) = ((n / 128 : Nat) : Int) := by
  show Int.fdiv (n : Int) (2 ^ 7) = _
  rw [Int.fdiv_eq_ediv_of_nonneg _ (by decide)]
  omega

theorem putNumber_eq (hK : 9223372036854775807 < K) (n : Nat) (h : n < 9223372036854775808) : R.impl_putNumber K (n : Int) = some ((numM n, ()), ()) := by
  obtain ⟨n', acc, e, g1, g2, g3⟩ := num_loop (L := fun f n acc => R.L_impl_putNumber_0 K f (n, [], acc, ())) (q := []) (fun f n acc hn => by
    have e3 : IntKind.u8.wrap ((n % 128 : Nat) : Int) = ((n % 128 : Nat) : Int) := wrap_u8 (by omega) (by omega)
    simp only [R.L_impl_putNumber_0, and127 n hn, e3, or128 (n % 128) (by omega), shr7, List.length_cons, List.length_nil, Nat.zero_add]) 9 K n [] (pow_big h) h (by omega) (by simp)
  unfold R.impl_putNumber
  have e : R.L_impl_putNumber_0 K K ((n : Int), [], [], ()) = _ := e
  have hb : Nat.ble (acc.length + 1) 268435456 = true := Nat.ble_eq_true_of_le (by simp at g1; omega)
  have e6 : IntKind.u8.wrap (n' : Int) = (n' : Int) := wrap_u8 (by omega) (by omega)
  show obind (R.L_impl_putNumber_0 K K ((n : Int), [], [], ())) _ = _
  rw [e]
  simp only [obind_some, List.length_cons, List.length_nil, Nat.zero_add, hb, cond_true, e6, g3]
  rfl

/-- a loop that makes a text longer and longer -/
theorem cat_ok {τ : Type} {L : Nat → Nat → List UInt8 → Option τ} {len A B : Nat} {g : Nat → List UInt8} {fin : List UInt8 → τ} (hg : ∀ i, i < len → (g i).length ≤ B) (h0 : ∀ n s, L (n + 1) len s = some (fin s))
    (h1 : ∀ n i s, i < len → s.length ≤ A + i * B → L (n + 1) i s = L n (i + 1) (s ++ g i)) :
    ∀ (m i n : Nat) (s : List UInt8), i + m = len → m < n → s.length ≤ A + i * B → L n i s = some (fin (s ++ ((List.range' i m).map g).flatten))
  | 0, i, n + 1, s, hi, _, _ => by
    have : i = len := by omega
    subst this
    rw [h0]
    simp
  | m + 1, i, n + 1, s, hi, hn, hs => by
    have hb := hg i (by omega)
    rw [h1 n i s (by omega) hs, cat_ok hg h0 h1 m (i + 1) n (s ++ g i) (by omega) (by omega) (by rw [List.length_append, Nat.add_mul]; omega), List.range'_succ, List.map_cons, List.flatten_cons, List.append_assoc]

theorem cat_len {B : Nat} {g : Nat → List UInt8} : ∀ (m i : Nat), (∀ j, i ≤ j → j < i + m → (g j).length ≤ B) → (((List.range' i m).map g).flatten).length ≤ m * B
  | 0, _, _ => by simp
  | m + 1, i, h => by
    rw [List.range'_succ, List.map_cons, List.flatten_cons, List.length_append, Nat.add_mul]
    have h1 := h i (by omega) (by omega)
    have h2 := cat_len (g := g) m (i + 1) (fun j h1 h2 => h j (by omega) (by omega))
    omega

theorem ble_of {n m : Nat} (h : n ≤ m) : Nat.ble n m = true := Nat.ble_eq_true_of_le h

def wordEnc (t : List UInt8) : List UInt8 := numM t.length ++ t

def sigEnc (v : Int) : List UInt8 := if v < 0 then numM (-2 * v - 1).toNat else numM (2 * v).toNat

def entEnc (e : En) : List UInt8 := wordEnc e.1 ++ sigEnc e.2

def catM {α : Type} (f : α → List UInt8) (d : α) (xs : List α) : List UInt8 := ((List.range' 0 xs.length).map fun i => f (xs.getD i d)).flatten

def commitEnc (c : Cm) : List UInt8 := numM c.1.length ++ catM (fun p => numM p.toNat) 0 c.1 ++ numM c.2.length ++ catM entEnc ([], 0) c.2

/-- what the encoding asks of a commit -/
structure CmS (c : Cm) : Prop where
  h1 : c.1.length ≤ 2
  h2 : ∀ p ∈ c.1, 0 ≤ p ∧ p ≤ 1000000
  h3 : c.2.length ≤ 12
  h4 : ∀ e ∈ c.2, e.1.length ≤ 12 ∧ -1000000 ≤ e.2 ∧ e.2 ≤ 1000000

theorem numM_3 {n : Nat} (h : n < 2097152) : (numM n).length ≤ 3 := numM_len 2 n h

theorem l11Word_eq (hK : 9223372036854775807 < K) (t : List UInt8) (h : t.length ≤ 12) : R.spec_l11Word K t = some ((wordEnc t, ()), ()) := by
  unfold R.spec_l11Word wordEnc
  have := numM_3 (n := t.length) (by omega)
  simp only [l11Number_eq hK t.length (by omega), obind_some, ble_of (show (numM t.length).length + t.length ≤ 268435456 by omega), cond_true]

theorem putText_eq (hK : 9223372036854775807 < K) (t : List UInt8) (h : t.length ≤ 12) : R.impl_putText K t = some ((wordEnc t, ()), ()) := by
  unfold R.impl_putText wordEnc
  have := numM_3 (n := t.length) (by omega)
  simp only [putNumber_eq hK t.length (by omega), obind_some, ble_of (show (numM t.length).length + t.length ≤ 268435456 by omega), cond_true]

theorem l11Signed_eq (hK : 9223372036854775807 < K) (v : Int) (h1 : -1000000 ≤ v) (h2 : v ≤ 1000000) : R.spec_l11Signed K v = some ((sigEnc v, ()), ()) := by
  unfold R.spec_l11Signed sigEnc
  by_cases h : v < 0
  · have e1 : IntKind.i64.wrap (-2 * v) = -2 * v := wrap_id (by omega) (by omega)
    have e2 : IntKind.i64.wrap (-2 * v - 1) = ((-2 * v - 1).toNat : Int) := by rw [wrap_id (by omega) (by omega)]; omega
    simp only [h, e1, e2, decide_true, cond_true, l11Number_eq hK (-2 * v - 1).toNat (by omega), obind_some, if_true]
  · have e2 : IntKind.i64.wrap (2 * v) = ((2 * v).toNat : Int) := by rw [wrap_id (by omega) (by omega)]; omega
    simp only [h, e2, decide_false, cond_false, l11Number_eq hK (2 * v).toNat (by omega), obind_some, if_false]

theorem putValue_eq (hK : 9223372036854775807 < K) (v : Int) (h1 : -1000000 ≤ v) (h2 : v ≤ 1000000) : R.impl_putValue K v = some ((sigEnc v, ()), ()) := by
  unfold R.impl_putValue sigEnc
  by_cases h : v < 0
  · have e1 : IntKind.i64.wrap (-2 * v) = -2 * v := wrap_id (by omega) (by omega)
    have e2 : IntKind.i64.wrap (-2 * v - 1) = ((-2 * v - 1).toNat : Int) := by rw [wrap_id (by omega) (by omega)]; omega
    simp only [h, e1, e2, decide_true, cond_true, putNumber_eq hK (-2 * v - 1).toNat (by omega), obind_some, if_true]
  · have e2 : IntKind.i64.wrap (2 * v) = ((2 * v).toNat : Int) := by rw [wrap_id (by omega) (by omega)]; omega
    simp only [h, e2, decide_false, cond_false, putNumber_eq hK (2 * v).toNat (by omega), obind_some, if_false]

theorem sigEnc_len (v : Int) (h1 : -1000000 ≤ v) (h2 : v ≤ 1000000) : (sigEnc v).length ≤ 3 := by
  unfold sigEnc
  split <;> exact numM_3 (by omega)

theorem wordEnc_len (t : List UInt8) (h : t.length ≤ 12) : (wordEnc t).length ≤ 15 := by
  unfold wordEnc
  have := numM_3 (n := t.length) (by omega)
  simp; omega

theorem entEnc_len (e : En) (h : e.1.length ≤ 12 ∧ -1000000 ≤ e.2 ∧ e.2 ≤ 1000000) : (entEnc e).length ≤ 18 := by
  have a := wordEnc_len e.1 h.1
  have b := sigEnc_len e.2 h.2.1 h.2.2
  unfold entEnc
  simp; omega

theorem spec_commitEnc (hK : 9223372036854775807 < K) (c : Cm) (h : CmS c) : R.spec_l11Commit K c = some ((commitEnc c, ()), ()) := by
  have n1 := numM_3 (n := c.1.length) (by have := h.h1; omega)
  have n2 := numM_3 (n := c.2.length) (by have := h.h3; omega)
  have l1 := h.h1
  have l3 := h.h3
  have hp : ∀ i, i < c.1.length → 0 ≤ c.1.getD i 0 ∧ c.1.getD i 0 ≤ 1000000 := fun i hi => h.h2 _ (getD_mem 0 hi)
  have he : ∀ i, i < c.2.length → _ := fun i hi => h.h4 _ (getD_mem ([], 0) hi)
  have a := cat_ok (L := fun n i s => R.L_spec_l11Commit_0 K n ([], s, (i : Nat), c.1, c.2, ())) (len := c.1.length) (A := 100) (B := 3) (g := fun i => numM (c.1.getD i 0).toNat) (fin := fun s => Sum.inl ([], s, c.1, c.2, ()))
    (fun i hi => numM_3 (by have := hp i hi; omega)) (fun n s => by simp only [R.L_spec_l11Commit_0, idx_end, cond_false]) (fun n i s hi hs => by
      have g := hp i hi
      have e : (c.1.getD i 0) = ((c.1.getD i 0).toNat : Int) := by omega
      have gl := numM_3 (n := (c.1.getD i 0).toNat) (by omega)
      have en : R.spec_l11Number K (c.1.getD i 0) = some ((numM (c.1.getD i 0).toNat, ()), ()) := by
        conv => lhs; rw [e]
        exact l11Number_eq hK _ (by omega)
      simp only [R.L_spec_l11Commit_0, wrap_succ hi (by omega), idx_lt hi, idx_nn, Bool.and_self, Int.toNat_natCast, cond_true, en, obind_some, ble_of (show s.length + (numM (c.1.getD i 0).toNat).length ≤ 268435456 by omega)])
    c.1.length 0 K (numM c.1.length) (by omega) (by omega) (by omega)
  have a : R.L_spec_l11Commit_0 K K ([], numM c.1.length, 0, c.1, c.2, ()) = _ := a
  have la := cat_len (B := 3) (g := fun i => numM (c.1.getD i 0).toNat) c.1.length 0 (fun i _ hi => numM_3 (by have := hp i (by omega); omega))
  have b := cat_ok (L := fun n i s => R.L_spec_l11Commit_1 K n ([], s, (i : Nat), c.1, c.2, ())) (len := c.2.length) (A := 100) (B := 18) (g := fun i => entEnc (c.2.getD i ([], 0))) (fin := fun s => Sum.inl ([], s, ()))
    (fun i hi => entEnc_len _ (he i hi)) (fun n s => by simp only [R.L_spec_l11Commit_1, idx_end, cond_false]) (fun n i s hi hs => by
      have g := he i hi
      have g1 := wordEnc_len _ g.1
      have g2 := sigEnc_len _ g.2.1 g.2.2
      simp only [R.L_spec_l11Commit_1, wrap_succ hi (by omega), idx_lt hi, idx_nn, Bool.and_self, Int.toNat_natCast, cond_true, l11Word_eq hK _ g.1, l11Signed_eq hK _ g.2.1 g.2.2, obind_some, ble_of (show (wordEnc (c.2.getD i ([], 0)).1).length + (sigEnc (c.2.getD i ([], 0)).2).length ≤ 268435456 by omega),
        ble_of (show s.length + (wordEnc (c.2.getD i ([], 0)).1 ++ sigEnc (c.2.getD i ([], 0)).2).length ≤ 268435456 by rw [List.length_append]; omega), entEnc])
    c.2.length 0 K (numM c.1.length ++ catM (fun p => numM p.toNat) 0 c.1 ++ numM c.2.length) (by omega) (by omega) (by simp only [List.length_append, catM]; omega)
  have b : R.L_spec_l11Commit_1 K K ([], numM c.1.length ++ catM (fun p => numM p.toNat) 0 c.1 ++ numM c.2.length, 0, c.1, c.2, ()) = _ := b
  unfold R.spec_l11Commit commitEnc
  simp only [l11Number_eq hK c.1.length (by omega), l11Number_eq hK c.2.length (by omega), obind_some]
  show obind (R.L_spec_l11Commit_0 K K ([], numM c.1.length, 0, c.1, c.2, ())) _ = _
  rw [a]
  have hb : Nat.ble ((numM c.1.length ++ catM (fun p => numM p.toNat) 0 c.1).length + (numM c.2.length).length) 268435456 = true := ble_of (by simp only [List.length_append, catM]; omega)
  simp only [obind_some, l11Number_eq hK c.2.length (by omega)]
  show (bif Nat.ble ((numM c.1.length ++ catM (fun p => numM p.toNat) 0 c.1).length + (numM c.2.length).length) 268435456 then obind (R.L_spec_l11Commit_1 K K ([], numM c.1.length ++ catM (fun p => numM p.toNat) 0 c.1 ++ numM c.2.length, 0, c.1, c.2, ())) _ else none) = _
  rw [hb, b]
  simp only [cond_true, obind_some]
  rfl

theorem impl_commitEnc (hK : 9223372036854775807 < K) (c : Cm) (h : CmS c) : R.impl_Commit_encode K c = some ((commitEnc c, ()), ()) := by
  have n1 := numM_3 (n := c.1.length) (by have := h.h1; omega)
  have n2 := numM_3 (n := c.2.length) (by have := h.h3; omega)
  have l1 := h.h1
  have l3 := h.h3
  have hp : ∀ i, i < c.1.length → 0 ≤ c.1.getD i 0 ∧ c.1.getD i 0 ≤ 1000000 := fun i hi => h.h2 _ (getD_mem 0 hi)
  have he : ∀ i, i < c.2.length → _ := fun i hi => h.h4 _ (getD_mem ([], 0) hi)
  have a := cat_ok (L := fun n i s => R.L_impl_Commit_encode_0 K n ([], s, c.1, (c.1.length : Int), (i : Nat), c.1, c.2, ())) (len := c.1.length) (A := 100) (B := 3) (g := fun i => numM (c.1.getD i 0).toNat) (fin := fun s => Sum.inl ([], s, c.1, c.2, ()))
    (fun i hi => numM_3 (by have := hp i hi; omega)) (fun n s => by simp only [R.L_impl_Commit_encode_0, idx_end, cond_false]) (fun n i s hi hs => by
      have g := hp i hi
      have e : (c.1.getD i 0) = ((c.1.getD i 0).toNat : Int) := by omega
      have gl := numM_3 (n := (c.1.getD i 0).toNat) (by omega)
      have en : R.impl_putNumber K (c.1.getD i 0) = some ((numM (c.1.getD i 0).toNat, ()), ()) := by
        conv => lhs; rw [e]
        exact putNumber_eq hK _ (by omega)
      simp only [R.L_impl_Commit_encode_0, wrap_succ hi (by omega), idx_lt hi, idx_nn, Bool.and_self, Int.toNat_natCast, cond_true, en, obind_some, ble_of (show s.length + (numM (c.1.getD i 0).toNat).length ≤ 268435456 by omega)])
    c.1.length 0 K (numM c.1.length) (by omega) (by omega) (by omega)
  have a : R.L_impl_Commit_encode_0 K K ([], numM c.1.length, c.1, (c.1.length : Int), 0, c.1, c.2, ()) = _ := a
  have la := cat_len (B := 3) (g := fun i => numM (c.1.getD i 0).toNat) c.1.length 0 (fun i _ hi => numM_3 (by have := hp i (by omega); omega))
  have b := cat_ok (L := fun n i s => R.L_impl_Commit_encode_1 K n ([], s, c.2, (c.2.length : Int), (i : Nat), ())) (len := c.2.length) (A := 100) (B := 18) (g := fun i => entEnc (c.2.getD i ([], 0))) (fin := fun s => Sum.inl ([], s, ()))
    (fun i hi => entEnc_len _ (he i hi)) (fun n s => by simp only [R.L_impl_Commit_encode_1, idx_end, cond_false]) (fun n i s hi hs => by
      have g := he i hi
      have g1 := wordEnc_len _ g.1
      have g2 := sigEnc_len _ g.2.1 g.2.2
      simp only [R.L_impl_Commit_encode_1, wrap_succ hi (by omega), idx_lt hi, idx_nn, Bool.and_self, Int.toNat_natCast, cond_true, putText_eq hK _ g.1, putValue_eq hK _ g.2.1 g.2.2, obind_some, ble_of (show (wordEnc (c.2.getD i ([], 0)).1).length + (sigEnc (c.2.getD i ([], 0)).2).length ≤ 268435456 by omega),
        ble_of (show s.length + (wordEnc (c.2.getD i ([], 0)).1 ++ sigEnc (c.2.getD i ([], 0)).2).length ≤ 268435456 by rw [List.length_append]; omega), entEnc])
    c.2.length 0 K (numM c.1.length ++ catM (fun p => numM p.toNat) 0 c.1 ++ numM c.2.length) (by omega) (by omega) (by simp only [List.length_append, catM]; omega)
  have b : R.L_impl_Commit_encode_1 K K ([], numM c.1.length ++ catM (fun p => numM p.toNat) 0 c.1 ++ numM c.2.length, c.2, (c.2.length : Int), 0, ()) = _ := b
  unfold R.impl_Commit_encode commitEnc
  simp only [putNumber_eq hK c.1.length (by omega), putNumber_eq hK c.2.length (by omega), obind_some]
  show obind (R.L_impl_Commit_encode_0 K K ([], numM c.1.length, c.1, (c.1.length : Int), 0, c.1, c.2, ())) _ = _
  rw [a]
  have hb : Nat.ble ((numM c.1.length ++ catM (fun p => numM p.toNat) 0 c.1).length + (numM c.2.length).length) 268435456 = true := ble_of (by simp only [List.length_append, catM]; omega)
  simp only [obind_some, putNumber_eq hK c.2.length (by omega)]
  show (bif Nat.ble ((numM c.1.length ++ catM (fun p => numM p.toNat) 0 c.1).length + (numM c.2.length).length) 268435456 then obind (R.L_impl_Commit_encode_1 K K ([], numM c.1.length ++ catM (fun p => numM p.toNat) 0 c.1 ++ numM c.2.length, c.2, (c.2.length : Int), 0, ())) _ else none) = _
  rw [hb, b]
  simp only [cond_true, obind_some]
  rfl


def sumStep (n : Int) (b : UInt8) : Int := (n * 31 + (b.toNat : Int) + 1) % 1000003

def sumM (t : List UInt8) : Int := t.foldl sumStep 1

theorem sumStep_in {n : Int} (h1 : 0 ≤ n) (h2 : n < 1000003) (b : UInt8) : 0 ≤ sumStep n b ∧ sumStep n b < 1000003 := by
  unfold sumStep
  omega

theorem fold_ok {τ : Type} {L : Nat → Nat → Int → Option τ} {t : List UInt8} {fin : Int → τ} (h0 : ∀ n s, L (n + 1) t.length s = some (fin s))
    (h1 : ∀ n i s, i < t.length → 0 ≤ s → s < 1000003 → L (n + 1) i s = L n (i + 1) (sumStep s (t.getD i 0))) :
    ∀ (m i n : Nat) (s : Int), i + m = t.length → m < n → 0 ≤ s → s < 1000003 → L n i s = some (fin ((t.drop i).foldl sumStep s))
  | 0, i, n + 1, s, hi, _, _, _ => by
    have : i = t.length := by omega
    subst this
    rw [h0]
    simp
  | m + 1, i, n + 1, s, hi, hn, hs, hs' => by
    have hl : i < t.length := by omega
    have g := sumStep_in hs hs' (t.getD i 0)
    rw [h1 n i s hl hs hs', fold_ok h0 h1 m (i + 1) n _ (by omega) (by omega) g.1 g.2, List.drop_eq_getElem_cons hl, List.foldl_cons]
    congr 4
    simp [List.getD_eq_getElem?_getD, hl]

theorem foldl_in : ∀ (t : List UInt8) (s : Int), 0 ≤ s → s < 1000003 → 0 ≤ t.foldl sumStep s ∧ t.foldl sumStep s < 1000003
  | [], s, h1, h2 => ⟨h1, h2⟩
  | b :: t, s, h1, h2 => by
    have g := sumStep_in h1 h2 b
    exact foldl_in t _ g.1 g.2

theorem sum_wraps {s : Int} (h1 : 0 ≤ s) (h2 : s < 1000003) (b : UInt8) : Int.tmod (IntKind.i64.wrap (IntKind.i64.wrap (IntKind.i64.wrap (s * 31) + IntKind.i64.wrap (b.toNat : Int)) + 1)) 1000003 = sumStep s b := by
  have hb : b.toNat < 256 := b.toNat_lt
  have e1 : IntKind.i64.wrap (s * 31) = s * 31 := wrap_id (by omega) (by omega)
  have e2 : IntKind.i64.wrap (b.toNat : Int) = (b.toNat : Int) := wrap_id (by omega) (by omega)
  have e3 : IntKind.i64.wrap (s * 31 + (b.toNat : Int)) = s * 31 + (b.toNat : Int) := wrap_id (by omega) (by omega)
  have e4 : IntKind.i64.wrap (s * 31 + (b.toNat : Int) + 1) = s * 31 + (b.toNat : Int) + 1 := wrap_id (by omega) (by omega)
  rw [e1, e2, e3, e4, Int.tmod_eq_emod_of_nonneg (by omega)]
  rfl

theorem l11Sum_eq (hK : 9223372036854775807 < K) (t : List UInt8) (ht : t.length ≤ 268435456) : R.spec_l11Sum K t = some ((sumM t, ()), ()) := by
  have := fold_ok (L := fun n i s => R.L_spec_l11Sum_0 K n (t, 0, s, (i : Nat), ())) (t := t) (fin := fun s => Sum.inl (0, s, ()))
    (fun n s => by simp only [R.L_spec_l11Sum_0, idx_end, cond_false]) (fun n i s hi h1 h2 => by
      simp only [R.L_spec_l11Sum_0, wrap_succ hi (by omega), idx_lt hi, idx_nn, Bool.and_self, Int.toNat_natCast, cond_true, sum_wraps h1 h2]) t.length 0 K 1 (by omega) (by omega) (by omega) (by omega)
  have this : R.L_spec_l11Sum_0 K K (t, 0, 1, 0, ()) = _ := this
  unfold R.spec_l11Sum
  rw [this]
  rfl

theorem sumOf_eq (hK : 9223372036854775807 < K) (t : List UInt8) (ht : t.length ≤ 268435456) : R.impl_sumOf K t = some ((sumM t, ()), ()) := by
  have hb : (bytesIn t).length = t.length := by simp [bytesIn]
  have := fold_ok (L := fun n i s => R.L_impl_sumOf_0 K n (0, s, ((bytesIn t).length : Int), (i : Nat), bytesIn t, ())) (t := t) (fin := fun s => Sum.inl (0, s, ()))
    (fun n s => by simp only [R.L_impl_sumOf_0, hb, idx_end, cond_false]) (fun n i s hi h1 h2 => by
      have e : (31 : Int) * s = s * 31 := Int.mul_comm _ _
      simp only [R.L_impl_sumOf_0, hb, wrap_succ hi (by omega), idx_lt hi, idx_nn, Bool.and_self, Int.toNat_natCast, cond_true, getD_bytesIn, e, sum_wraps h1 h2]) t.length 0 K 1 (by omega) (by omega) (by omega) (by omega)
  have this : R.L_impl_sumOf_0 K K (0, 1, ((bytesIn t).length : Int), 0, bytesIn t, ()) = _ := this
  unfold R.impl_sumOf
  rw [this]
  rfl


def refEnc (r : Rf) : List UInt8 := wordEnc r.1 ++ numM r.2.2.1.toNat ++ numM r.2.1.toNat

def hdr : List UInt8 := [66, 82, 49]

theorem hdr_len : hdr.length = 3 := rfl

def baseBody (b : Ba) : List UInt8 := hdr ++ numM b.1.length ++ catM commitEnc ([], []) b.1 ++ numM b.2.length ++ catM refEnc ([], 0, 0, false) b.2

def baseEnc (b : Ba) : List UInt8 := baseBody b ++ numM (sumM (baseBody b)).toNat

structure RfS (r : Rf) : Prop where
  h1 : r.1.length ≤ 12
  h2 : 0 ≤ r.2.2.1 ∧ r.2.2.1 ≤ 1000000
  h3 : 0 ≤ r.2.1 ∧ r.2.1 ≤ 1000000

structure BaS (b : Ba) : Prop where
  h1 : b.1.length ≤ 60
  h2 : ∀ c ∈ b.1, CmS c
  h3 : b.2.length ≤ 8
  h4 : ∀ r ∈ b.2, RfS r

theorem commitEnc_len (c : Cm) (h : CmS c) : (commitEnc c).length ≤ 300 := by
  have l1 := h.h1
  have l3 := h.h3
  have n1 := numM_3 (n := c.1.length) (by omega)
  have n2 := numM_3 (n := c.2.length) (by omega)
  have la := cat_len (B := 3) (g := fun i => numM (c.1.getD i 0).toNat) c.1.length 0 (fun i _ hi => numM_3 (by have := h.h2 _ (getD_mem 0 (show i < c.1.length by omega)); omega))
  have lb := cat_len (B := 18) (g := fun i => entEnc (c.2.getD i ([], 0))) c.2.length 0 (fun i _ hi => entEnc_len _ (h.h4 _ (getD_mem ([], 0) (show i < c.2.length by omega))))
  unfold commitEnc catM
  simp only [List.length_append]
  omega

theorem refEnc_len (r : Rf) (h : RfS r) : (refEnc r).length ≤ 21 := by
  have g1 := wordEnc_len _ h.h1
  have g2 := numM_3 (n := r.2.2.1.toNat) (by have := h.h2; omega)
  have g3 := numM_3 (n := r.2.1.toNat) (by have := h.h3; omega)
  unfold refEnc
  simp only [List.length_append]
  omega

theorem spec_baseEnc (hK : 9223372036854775807 < K) (b : Ba) (h : BaS b) : R.spec_l11Base K b = some ((baseEnc b, ()), ()) := by
  have l1 := h.h1
  have l3 := h.h3
  have n1 := numM_3 (n := b.1.length) (by omega)
  have n2 := numM_3 (n := b.2.length) (by omega)
  have hc : ∀ i, i < b.1.length → CmS (b.1.getD i ([], [])) := fun i hi => h.h2 _ (getD_mem ([], []) hi)
  have hr : ∀ i, i < b.2.length → RfS (b.2.getD i ([], 0, 0, false)) := fun i hi => h.h4 _ (getD_mem ([], 0, 0, false) hi)
  have a := cat_ok (L := fun n i s => R.L_spec_l11Base_0 K n ([], s, (i : Nat), b.1, b.2, ())) (len := b.1.length) (A := 100) (B := 300) (g := fun i => commitEnc (b.1.getD i ([], []))) (fin := fun s => Sum.inl ([], s, b.1, b.2, ()))
    (fun i hi => commitEnc_len _ (hc i hi)) (fun n s => by simp only [R.L_spec_l11Base_0, idx_end, cond_false]) (fun n i s hi hs => by
      have gl := commitEnc_len _ (hc i hi)
      simp only [R.L_spec_l11Base_0, wrap_succ hi (by omega), idx_lt hi, idx_nn, Bool.and_self, Int.toNat_natCast, cond_true, spec_commitEnc hK _ (hc i hi), obind_some, ble_of (show s.length + (commitEnc (b.1.getD i ([], []))).length ≤ 268435456 by omega)])
    b.1.length 0 K (hdr ++ numM b.1.length) (by omega) (by omega) (by simp only [List.length_append, hdr_len]; omega)
  have a : R.L_spec_l11Base_0 K K ([], hdr ++ numM b.1.length, 0, b.1, b.2, ()) = _ := a
  have la := cat_len (B := 300) (g := fun i => commitEnc (b.1.getD i ([], []))) b.1.length 0 (fun i _ hi => commitEnc_len _ (hc i (by omega)))
  have c := cat_ok (L := fun n i s => R.L_spec_l11Base_1 K n ([], s, (i : Nat), b.1, b.2, ())) (len := b.2.length) (A := 20000) (B := 21) (g := fun i => refEnc (b.2.getD i ([], 0, 0, false))) (fin := fun s => Sum.inl ([], s, ()))
    (fun i hi => refEnc_len _ (hr i hi)) (fun n s => by simp only [R.L_spec_l11Base_1, idx_end, cond_false]) (fun n i s hi hs => by
      have g := hr i hi
      have gl := refEnc_len _ g
      unfold refEnc at gl
      simp only [List.length_append] at gl
      have e2 : (b.2.getD i ([], 0, 0, false)).2.2.1 = ((b.2.getD i ([], 0, 0, false)).2.2.1.toNat : Int) := by have := g.h2; omega
      have e3 : (b.2.getD i ([], 0, 0, false)).2.1 = ((b.2.getD i ([], 0, 0, false)).2.1.toNat : Int) := by have := g.h3; omega
      have f2 : R.spec_l11Number K (b.2.getD i ([], 0, 0, false)).2.2.1 = some ((numM (b.2.getD i ([], 0, 0, false)).2.2.1.toNat, ()), ()) := by
        conv => lhs; rw [e2]
        exact l11Number_eq hK _ (by have := g.h2; omega)
      have f3 : R.spec_l11Number K (b.2.getD i ([], 0, 0, false)).2.1 = some ((numM (b.2.getD i ([], 0, 0, false)).2.1.toNat, ()), ()) := by
        conv => lhs; rw [e3]
        exact l11Number_eq hK _ (by have := g.h3; omega)
      simp only [R.L_spec_l11Base_1, wrap_succ hi (by omega), idx_lt hi, idx_nn, Bool.and_self, Int.toNat_natCast, cond_true, l11Word_eq hK _ g.h1, f2, f3, obind_some,
        ble_of (show (wordEnc (b.2.getD i ([], 0, 0, false)).1).length + (numM (b.2.getD i ([], 0, 0, false)).2.2.1.toNat).length ≤ 268435456 by omega),
        ble_of (show (wordEnc (b.2.getD i ([], 0, 0, false)).1 ++ numM (b.2.getD i ([], 0, 0, false)).2.2.1.toNat).length + (numM (b.2.getD i ([], 0, 0, false)).2.1.toNat).length ≤ 268435456 by rw [List.length_append]; omega),
        ble_of (show s.length + (wordEnc (b.2.getD i ([], 0, 0, false)).1 ++ numM (b.2.getD i ([], 0, 0, false)).2.2.1.toNat ++ numM (b.2.getD i ([], 0, 0, false)).2.1.toNat).length ≤ 268435456 by rw [List.length_append, List.length_append]; omega), refEnc])
    b.2.length 0 K (hdr ++ numM b.1.length ++ catM commitEnc ([], []) b.1 ++ numM b.2.length) (by omega) (by omega) (by simp only [List.length_append, hdr_len, catM]; omega)
  have c : R.L_spec_l11Base_1 K K ([], hdr ++ numM b.1.length ++ catM commitEnc ([], []) b.1 ++ numM b.2.length, 0, b.1, b.2, ()) = some (Sum.inl ([], baseBody b, ())) := c
  have lc := cat_len (B := 21) (g := fun i => refEnc (b.2.getD i ([], 0, 0, false))) b.2.length 0 (fun i _ hi => refEnc_len _ (hr i (by omega)))
  have lb : (baseBody b).length ≤ 20000 := by
    unfold baseBody catM
    simp only [List.length_append, hdr_len]
    omega
  have si := foldl_in (baseBody b) 1 (by omega) (by omega)
  have es : sumM (baseBody b) = ((sumM (baseBody b)).toNat : Int) := by unfold sumM; omega
  have fs : R.spec_l11Number K (sumM (baseBody b)) = some ((numM (sumM (baseBody b)).toNat, ()), ()) := by
    conv => lhs; rw [es]
    exact l11Number_eq hK _ (by unfold sumM; omega)
  have ls := numM_3 (n := (sumM (baseBody b)).toNat) (by unfold sumM; omega)
  unfold R.spec_l11Base
  simp only [l11Number_eq hK b.1.length (by omega), obind_some]
  show (bif Nat.ble (hdr.length + (numM b.1.length).length) 268435456 then obind (R.L_spec_l11Base_0 K K ([], hdr ++ numM b.1.length, 0, b.1, b.2, ())) _ else none) = _
  rw [ble_of (show hdr.length + (numM b.1.length).length ≤ 268435456 by rw [hdr_len]; omega), a]
  simp only [cond_true, obind_some, l11Number_eq hK b.2.length (by omega)]
  show (bif Nat.ble ((hdr ++ numM b.1.length ++ catM commitEnc ([], []) b.1).length + (numM b.2.length).length) 268435456 then obind (R.L_spec_l11Base_1 K K ([], hdr ++ numM b.1.length ++ catM commitEnc ([], []) b.1 ++ numM b.2.length, 0, b.1, b.2, ())) _ else none) = _
  rw [ble_of (show (hdr ++ numM b.1.length ++ catM commitEnc ([], []) b.1).length + (numM b.2.length).length ≤ 268435456 by simp only [List.length_append, hdr_len, catM]; omega), c]
  simp only [cond_true, obind_some, l11Sum_eq hK _ (show (baseBody b).length ≤ 268435456 by omega), fs, ble_of (show (baseBody b).length + (numM (sumM (baseBody b)).toNat).length ≤ 268435456 by omega)]
  rfl

theorem impl_baseEnc (hK : 9223372036854775807 < K) (b : Ba) (h : BaS b) : R.impl_Base_encode K b = some ((baseEnc b, ()), ()) := by
  have l1 := h.h1
  have l3 := h.h3
  have n1 := numM_3 (n := b.1.length) (by omega)
  have n2 := numM_3 (n := b.2.length) (by omega)
  have hc : ∀ i, i < b.1.length → CmS (b.1.getD i ([], [])) := fun i hi => h.h2 _ (getD_mem ([], []) hi)
  have hr : ∀ i, i < b.2.length → RfS (b.2.getD i ([], 0, 0, false)) := fun i hi => h.h4 _ (getD_mem ([], 0, 0, false) hi)
  have a := cat_ok (L := fun n i s => R.L_impl_Base_encode_0 K n ([], s, b.1, (b.1.length : Int), (i : Nat), b.1, b.2, ())) (len := b.1.length) (A := 100) (B := 300) (g := fun i => commitEnc (b.1.getD i ([], []))) (fin := fun s => Sum.inl ([], s, b.1, b.2, ()))
    (fun i hi => commitEnc_len _ (hc i hi)) (fun n s => by simp only [R.L_impl_Base_encode_0, idx_end, cond_false]) (fun n i s hi hs => by
      have gl := commitEnc_len _ (hc i hi)
      simp only [R.L_impl_Base_encode_0, wrap_succ hi (by omega), idx_lt hi, idx_nn, Bool.and_self, Int.toNat_natCast, cond_true, impl_commitEnc hK _ (hc i hi), obind_some, ble_of (show s.length + (commitEnc (b.1.getD i ([], []))).length ≤ 268435456 by omega)])
    b.1.length 0 K (hdr ++ numM b.1.length) (by omega) (by omega) (by simp only [List.length_append, hdr_len]; omega)
  have a : R.L_impl_Base_encode_0 K K ([], hdr ++ numM b.1.length, b.1, (b.1.length : Int), 0, b.1, b.2, ()) = _ := a
  have la := cat_len (B := 300) (g := fun i => commitEnc (b.1.getD i ([], []))) b.1.length 0 (fun i _ hi => commitEnc_len _ (hc i (by omega)))
  have c := cat_ok (L := fun n i s => R.L_impl_Base_encode_1 K n ([], s, b.2, (b.2.length : Int), (i : Nat), ())) (len := b.2.length) (A := 20000) (B := 21) (g := fun i => refEnc (b.2.getD i ([], 0, 0, false))) (fin := fun s => Sum.inl ([], s, ()))
    (fun i hi => refEnc_len _ (hr i hi)) (fun n s => by simp only [R.L_impl_Base_encode_1, idx_end, cond_false]) (fun n i s hi hs => by
      have g := hr i hi
      have gl := refEnc_len _ g
      unfold refEnc at gl
      simp only [List.length_append] at gl
      have e2 : (b.2.getD i ([], 0, 0, false)).2.2.1 = ((b.2.getD i ([], 0, 0, false)).2.2.1.toNat : Int) := by have := g.h2; omega
      have e3 : (b.2.getD i ([], 0, 0, false)).2.1 = ((b.2.getD i ([], 0, 0, false)).2.1.toNat : Int) := by have := g.h3; omega
      have f2 : R.impl_putNumber K (b.2.getD i ([], 0, 0, false)).2.2.1 = some ((numM (b.2.getD i ([], 0, 0, false)).2.2.1.toNat, ()), ()) := by
        conv => lhs; rw [e2]
        exact putNumber_eq hK _ (by have := g.h2; omega)
      have f3 : R.impl_putNumber K (b.2.getD i ([], 0, 0, false)).2.1 = some ((numM (b.2.getD i ([], 0, 0, false)).2.1.toNat, ()), ()) := by
        conv => lhs; rw [e3]
        exact putNumber_eq hK _ (by have := g.h3; omega)
      simp only [R.L_impl_Base_encode_1, wrap_succ hi (by omega), idx_lt hi, idx_nn, Bool.and_self, Int.toNat_natCast, cond_true, putText_eq hK _ g.h1, f2, f3, obind_some,
        ble_of (show (wordEnc (b.2.getD i ([], 0, 0, false)).1).length + (numM (b.2.getD i ([], 0, 0, false)).2.2.1.toNat).length ≤ 268435456 by omega),
        ble_of (show (wordEnc (b.2.getD i ([], 0, 0, false)).1 ++ numM (b.2.getD i ([], 0, 0, false)).2.2.1.toNat).length + (numM (b.2.getD i ([], 0, 0, false)).2.1.toNat).length ≤ 268435456 by rw [List.length_append]; omega),
        ble_of (show s.length + (wordEnc (b.2.getD i ([], 0, 0, false)).1 ++ numM (b.2.getD i ([], 0, 0, false)).2.2.1.toNat ++ numM (b.2.getD i ([], 0, 0, false)).2.1.toNat).length ≤ 268435456 by rw [List.length_append, List.length_append]; omega), refEnc])
    b.2.length 0 K (hdr ++ numM b.1.length ++ catM commitEnc ([], []) b.1 ++ numM b.2.length) (by omega) (by omega) (by simp only [List.length_append, hdr_len, catM]; omega)
  have c : R.L_impl_Base_encode_1 K K ([], hdr ++ numM b.1.length ++ catM commitEnc ([], []) b.1 ++ numM b.2.length, b.2, (b.2.length : Int), 0, ()) = some (Sum.inl ([], baseBody b, ())) := c
  have lc := cat_len (B := 21) (g := fun i => refEnc (b.2.getD i ([], 0, 0, false))) b.2.length 0 (fun i _ hi => refEnc_len _ (hr i (by omega)))
  have lb : (baseBody b).length ≤ 20000 := by
    unfold baseBody catM
    simp only [List.length_append, hdr_len]
    omega
  have si := foldl_in (baseBody b) 1 (by omega) (by omega)
  have es : sumM (baseBody b) = ((sumM (baseBody b)).toNat : Int) := by unfold sumM; omega
  have fs : R.impl_putNumber K (sumM (baseBody b)) = some ((numM (sumM (baseBody b)).toNat, ()), ()) := by
    conv => lhs; rw [es]
    exact putNumber_eq hK _ (by unfold sumM; omega)
  have ls := numM_3 (n := (sumM (baseBody b)).toNat) (by unfold sumM; omega)
  unfold R.impl_Base_encode
  simp only [putNumber_eq hK b.1.length (by omega), obind_some]
  show (bif Nat.ble (hdr.length + (numM b.1.length).length) 268435456 then obind (R.L_impl_Base_encode_0 K K ([], hdr ++ numM b.1.length, b.1, (b.1.length : Int), 0, b.1, b.2, ())) _ else none) = _
  rw [ble_of (show hdr.length + (numM b.1.length).length ≤ 268435456 by rw [hdr_len]; omega), a]
  simp only [cond_true, obind_some, putNumber_eq hK b.2.length (by omega)]
  show (bif Nat.ble ((hdr ++ numM b.1.length ++ catM commitEnc ([], []) b.1).length + (numM b.2.length).length) 268435456 then obind (R.L_impl_Base_encode_1 K K ([], hdr ++ numM b.1.length ++ catM commitEnc ([], []) b.1 ++ numM b.2.length, b.2, (b.2.length : Int), 0, ())) _ else none) = _
  rw [ble_of (show (hdr ++ numM b.1.length ++ catM commitEnc ([], []) b.1).length + (numM b.2.length).length ≤ 268435456 by simp only [List.length_append, hdr_len, catM]; omega), c]
  simp only [cond_true, obind_some, sumOf_eq hK _ (show (baseBody b).length ≤ 268435456 by omega), fs, ble_of (show (baseBody b).length + (numM (sumM (baseBody b)).toNat).length ≤ 268435456 by omega)]
  rfl
end Go.Proofs.Pure
