/- Plain lemmas on what the functions come to. -/
import Derived.Test.YtpfkncmaeamacaaP02
namespace Go.Proofs.Pure
open Go Fw
set_option linter.all false
set_option maxRecDepth 100000
variable {K : Nat}

theorem len_ne {n : Nat} (h : ¬ n = 0) : ((n : Int) == 0) = false := by
  have : (n : Int) ≠ 0 := by omega
  simpa using this

theorem all_shift (p : Nat → Bool) : ∀ m s, ((List.range' s m).all fun i => p (i + 1)) = (List.range' (s + 1) m).all p
  | 0, _ => rfl
  | m + 1, s => by
    rw [List.range'_succ, List.range'_succ, List.all_cons, List.all_cons, all_shift p m (s + 1)]

def lastIs (w : Wa) : Bool := (w.2.2.getD (w.2.2.length - 1) (0, 0, false)).1 == w.2.1

def tailOK (xs : List Ev) : Bool := (List.range' 1 (xs.length - 1)).all fun i => !(xs.getD i (0, 0, false)).2.2

def watchM (w : Wa) : Bool := wordM w.1 && (decide (0 ≤ w.2.1) && decide (w.2.1 ≤ 1000000)) && decide (w.2.2.length ≤ 4) && evsM w.2.2 && (decide (w.2.2.length = 0) || (lastIs w && tailOK w.2.2))

theorem areAll_ev_eq (hK : 9223372036854775807 < K) (xs : List Ev) (hl : xs.length ≤ 4) : R.impl_areAll_impl_Event__impl_WatchOK_1 K xs = some (((List.range' 0 xs.length).all fun i => !(xs.getD i (0, 0, false)).2.2, ()), ()) := by
  obtain ⟨j, this⟩ := all_okI (L := fun n i => R.L_impl_areAll_impl_Event__impl_WatchOK_1_0 K n (xs, false, xs, xs, false, xs, xs, 0, (xs.length : Int), (i : Nat), ())) (len := xs.length) (p := fun i => !(xs.getD i (0, 0, false)).2.2)
    (t := Sum.inl (xs, false, xs, xs, false, xs, 0, ())) (f := fun i => Sum.inr (xs, false, xs, xs, false, xs, (i : Int), ()))
    (fun n => by simp [R.L_impl_areAll_impl_Event__impl_WatchOK_1_0]) (fun n i hi => by
      simp only [R.L_impl_areAll_impl_Event__impl_WatchOK_1_0, wrap_succ hi (by omega), Int.toNat_natCast]
      cases (xs.getD i (0, 0, false)).2.2 <;> simp [hi]) xs.length 0 K (by omega) (by omega)
  have this : R.L_impl_areAll_impl_Event__impl_WatchOK_1_0 K K (xs, false, xs, xs, false, xs, xs, 0, (xs.length : Int), 0, ()) = _ := this
  unfold R.impl_areAll_impl_Event__impl_WatchOK_1
  rw [this]
  cases (List.range' 0 xs.length).all fun i => !(xs.getD i (0, 0, false)).2.2 <;> simp [obind]

theorem wrap_len {n : Nat} (h : 0 < n) (h' : n ≤ 4) : IntKind.i64.wrap ((n : Int) - 1) = ((n - 1 : Nat) : Int) := by
  rw [wrap_id (by omega) (by omega)]; omega

theorem WatchOK_eq (hK : 9223372036854775807 < K) (w : Wa) (h1 : w.1.length ≤ 9223372036854775807) : R.impl_WatchOK K w = some ((watchM w, ()), ()) := by
  unfold R.impl_WatchOK watchM
  rw [NameOK_eq hK _ h1]
  simp only [within_eq, obind]
  cases wordM w.1
  · rfl
  cases decide (0 ≤ w.2.1) && decide (w.2.1 ≤ 1000000)
  · rfl
  by_cases h4 : w.2.2.length ≤ 4
  · simp only [EventsOK_eq hK _ h4, h4, show ¬ ((w.2.2.length : Int) > 4) by omega, decide_true, decide_false, cond_false, cond_true, Bool.not_true, Bool.true_and, obind]
    cases evsM w.2.2
    · rfl
    by_cases h0 : w.2.2.length = 0
    · simp [h0]
    · have hw := wrap_len (n := w.2.2.length) (by omega) h4
      have e1 : ((w.2.2.length : Int) == 0) = false := len_ne h0
      have g1 : ((w.2.2.length - 1 : Nat) : Int) < (w.2.2.length : Int) := by omega
      have g2 : (0 : Int) ≤ ((w.2.2.length - 1 : Nat) : Int) := by omega
      have g3 : (1 : Int) ≤ (w.2.2.length : Int) := by omega
      have et : (List.drop (Int.toNat 1) (List.take w.2.2.length w.2.2)).length = w.2.2.length - 1 := by simp
      have ea : ((List.range' 0 (w.2.2.length - 1)).all fun i => !((List.drop (Int.toNat 1) (List.take w.2.2.length w.2.2)).getD i (0, 0, false)).2.2) = tailOK w.2.2 := by
        unfold tailOK
        rw [← all_shift (fun i => !(w.2.2.getD i (0, 0, false)).2.2) (w.2.2.length - 1) 0]
        congr 1
        funext i
        simp [List.getD_eq_getElem?_getD, Nat.add_comm]
      simp only [hw, e1, g1, g2, g3, h0, Int.toNat_natCast, decide_true, decide_false, Bool.and_self, cond_false, cond_true, Bool.not_true, Bool.false_or, show (0 : Int) ≤ 1 by omega]
      rw [areAll_ev_eq hK _ (by rw [et]; omega), et, ea]
      unfold lastIs
      cases (w.2.2.getD (w.2.2.length - 1) (0, 0, false)).1 == w.2.1
      · rfl
      · cases tailOK w.2.2 <;> rfl
  · simp [h4, show (w.2.2.length : Int) > 4 by omega]

theorem l06OK_eq (hK : 9223372036854775807 < K) (w : Wa) (h3 : ∀ x ∈ w.2.2, I64 x.1) : R.spec_l06OK K w = some ((watchM w, ()), ()) := by
  unfold R.spec_l06OK watchM
  rw [word_eq hK]
  simp only [in_eq, obind]
  cases wordM w.1
  · rfl
  cases decide (0 ≤ w.2.1) && decide (w.2.1 ≤ 1000000)
  · rfl
  by_cases h4 : w.2.2.length ≤ 4
  · simp only [Events_eq hK _ h4 h3, h4, show ¬ ((w.2.2.length : Int) > 4) by omega, decide_true, decide_false, cond_false, cond_true, Bool.not_true, Bool.true_and, obind]
    cases evsM w.2.2
    · rfl
    by_cases h0 : w.2.2.length = 0
    · have hl : ∀ a b c, R.L_spec_l06OK_0 K K (false, ((0 : Nat) : Int), 1, a, b, c, ()) = some (Sum.inl (false, ())) := fun a b c => by
        cases K with
        | zero => omega
        | succ n => simp [R.L_spec_l06OK_0]
      simp only [h0, hl, cond_true, cond_false, Bool.not_true]
      simp
    · have hw := wrap_len (n := w.2.2.length) (by omega) h4
      have g1 : ((w.2.2.length - 1 : Nat) : Int) < (w.2.2.length : Int) := by omega
      have g2 : (0 : Int) ≤ ((w.2.2.length - 1 : Nat) : Int) := by omega
      have g3 : (w.2.2.length : Int) > 0 := by omega
      have := all_ok (L := fun n i => R.L_spec_l06OK_0 K n (false, (w.2.2.length : Int), (i : Nat), w.1, w.2.1, w.2.2, ())) (len := w.2.2.length) (p := fun i => !(w.2.2.getD i (0, 0, false)).2.2) (t := Sum.inl (false, ())) (f := Sum.inr (false, ()))
        (fun n => by simp [R.L_spec_l06OK_0]) (fun n i hi => by
          simp only [R.L_spec_l06OK_0, wrap_succ hi (by omega), Int.toNat_natCast]
          cases (w.2.2.getD i (0, 0, false)).2.2 <;> simp [hi]) (w.2.2.length - 1) 1 K (by omega) (by omega)
      have this : R.L_spec_l06OK_0 K K (false, (w.2.2.length : Int), 1, w.1, w.2.1, w.2.2, ()) = _ := this
      simp only [hw, g1, g2, g3, h0, this, Int.toNat_natCast, decide_true, decide_false, Bool.and_self, cond_false, cond_true, Bool.not_true, Bool.false_or, lastIs, tailOK, bne]
      cases (w.2.2.getD (w.2.2.length - 1) (0, 0, false)).1 == w.2.1
      · rfl
      · cases (List.range' 1 (w.2.2.length - 1)).all fun i => !(w.2.2.getD i (0, 0, false)).2.2 <;> rfl
  · simp [h4, show (w.2.2.length : Int) > 4 by omega]

theorem own_eq (w : Wa) (hx : w.2.2.length ≤ 268435456) : R.spec_l06Own K w = some ((w, ()), ()) := by
  unfold R.spec_l06Own
  rw [Nat.zero_add, Nat.ble_eq_true_of_le hx]
  rfl

theorem Clone_ev_eq (xs : List Ev) (hx : xs.length ≤ 268435456) : R.slices_Clone_impl_Event K xs = some ((xs, ()), ()) := by
  unfold R.slices_Clone_impl_Event
  cases xs with
  | nil =>
    simp [alt]
    rfl
  | cons a r =>
    have : Nat.ble (0 + (a :: r).length) 268435456 = true := Nat.ble_eq_true_of_le (by simpa using hx)
    simp only [List.isEmpty_cons, cond_false, this, cond_true]

theorem implOwn_eq (w : Wa) (hx : w.2.2.length ≤ 268435456) : R.impl_Watch_own K w = some ((w, ()), ()) := by
  unfold R.impl_Watch_own
  rw [Clone_ev_eq _ hx]
  rfl
end Go.Proofs.Pure
