/- Plain lemmas on what the functions come to. -/
import Derived.Test.YtpfkncmaeamacaaP01
namespace Go.Proofs.Pure
open Go Fw
set_option linter.all false
set_option maxRecDepth 100000
variable {K : Nat}

abbrev Ev := Int × Int × Bool

abbrev Wa := List UInt8 × Int × List Ev

abbrev I64 (n : Int) : Prop := -9223372036854775808 ≤ n ∧ n ≤ 9223372036854775807

theorem all_true {α : Type} (l : List α) : (l.all fun _ => true) = true := by induction l <;> simp_all

def szM (w : Wa) : Int := if 1048576 - (w.1.length : Int) < 0 then -1 else if 1048576 - (w.1.length : Int) - w.2.2.length < 0 then -1 else 1048576 - (w.1.length : Int) - w.2.2.length

theorem szWatch_eq (w : Wa) (h1 : w.1.length ≤ 9223372036854775807) (h2 : w.2.2.length ≤ 9223372036854775807) : R.laws_szWatch K w 1048576 = some ((szM w, ()), ()) := by
  have e1 : IntKind.i64.wrap (1048576 - (w.1.length : Int)) = 1048576 - (w.1.length : Int) := wrap_id (by omega) (by omega)
  unfold R.laws_szWatch szM
  rw [e1]
  by_cases h : 1048576 - (w.1.length : Int) < 0
  · simp [h]
  · have e2 : IntKind.i64.wrap (1048576 - (w.1.length : Int) - (w.2.2.length : Int)) = 1048576 - (w.1.length : Int) - w.2.2.length := wrap_id (by omega) (by omega)
    simp only [h, decide_false, cond_false, R.laws_szEventS, e2, if_false]
    by_cases h' : 1048576 - (w.1.length : Int) - w.2.2.length < 0 <;> simp [h', obind]

theorem toEventS_eq (hK : 9223372036854775807 < K) (xs : List Ev) (hx : xs.length ≤ 268435456) : R.laws_toEventS K xs = some ((xs, ()), ()) := by
  have h0 : ∀ n (ys : List Ev), ys.length = xs.length → R.L_laws_toEventS_0 K (n + 1) (xs, (xs.length : Nat), [], ys, ()) = some (Sum.inl ([], ys, ())) := fun n ys hy => by
    simp [R.L_laws_toEventS_0]
  have h1 : ∀ n i (ys : List Ev), ys.length = xs.length → i < xs.length → ys[i]? = (List.replicate xs.length (0, 0, false) : List Ev)[i]? → R.L_laws_toEventS_0 K (n + 1) (xs, (i : Nat), [], ys, ()) = R.L_laws_toEventS_0 K n (xs, ((i + 1 : Nat) : Int), [], ys.set i (xs.getD i (0, 0, false)), ()) := fun n i ys hy hi _ => by
    rw [R.L_laws_toEventS_0, wrap_succ hi (by omega)]
    simp [hi, hy]
  have := fill_ok (L := fun n i ys => R.L_laws_toEventS_0 K n (xs, (i : Nat), [], ys, ())) (len := xs.length) (g := fun i => xs.getD i (0, 0, false)) (fin := fun ys => Sum.inl ([], ys, ())) h0 h1 xs.length 0 K (List.replicate xs.length (0, 0, false)) (by omega) (by omega) (by simp) (by simp) (by simp)
  unfold R.laws_toEventS
  have e : (List.range xs.length).map (fun i => xs.getD i (0, 0, false)) = xs := by
    apply List.ext_getElem (by simp)
    intro i h1 h2
    simp [List.getD_eq_getElem?_getD, h2]
  rw [e] at this
  have hle : (xs.length : Int) ≤ 268435456 := by omega
  have this : R.L_laws_toEventS_0 K K (xs, 0, [], List.replicate xs.length (0, 0, false), ()) = some (Sum.inl ([], xs, ())) := this
  simp [hle, this, obind]

theorem toWatch_eq (hK : 9223372036854775807 < K) (w : Wa) (hx : w.2.2.length ≤ 268435456) : R.laws_toWatch K w = some ((w, ()), ()) := by
  unfold R.laws_toWatch
  rw [toEventS_eq hK _ hx]
  rfl

theorem eqEvent_self (e : Ev) : R.laws_eqEvent K e e = some ((true, ()), ()) := by
  simp [R.laws_eqEvent]

theorem eqEventS_self (hK : 9223372036854775807 < K) (xs : List Ev) (hx : xs.length ≤ 9223372036854775807) : R.laws_eqEventS K xs xs = some ((true, ()), ()) := by
  have := all_ok (L := fun n i => R.L_laws_eqEventS_0 K n (xs, xs, false, (i : Nat), ())) (len := xs.length) (p := fun _ => true) (t := Sum.inl (false, ())) (f := Sum.inr (false, ()))
    (fun n => by simp [R.L_laws_eqEventS_0]) (fun n i hi => by
      simp only [R.L_laws_eqEventS_0, wrap_succ hi hx, eqEvent_self, obind]
      simp [hi]) xs.length 0 K (by omega) (by omega)
  have this : R.L_laws_eqEventS_0 K K (xs, xs, false, 0, ()) = some (Sum.inl (false, ())) := by simpa [all_true] using this
  unfold R.laws_eqEventS
  simp [this, obind]

theorem eqWatch_self (hK : 9223372036854775807 < K) (w : Wa) (hx : w.2.2.length ≤ 9223372036854775807) : R.laws_eqWatch K w w = some ((true, ()), ()) := by
  unfold R.laws_eqWatch
  rw [eqEventS_self hK _ hx]
  simp [obind]

def markEv (k : Int) (i : Nat) : Ev := (k + 3 * i, k + 3 * i + 1, Int.tmod (k + 3 * i + 2) 3 == 0)

def markEvs (k : Int) (n : Nat) : List Ev := (List.range n).map (markEv k)

theorem markEventS_eq (hK : 9223372036854775807 < K) (xs : List Ev) (hx : xs.length ≤ 268435456) (k : Int) (hk : 0 ≤ k) (hk' : k ≤ 1000000000) : R.laws_markEventS K xs k = some ((k + 3 * xs.length, ()), (markEvs k xs.length, ())) := by
  have := fill_ok (L := fun n i ys => R.L_laws_markEventS_0 K n (k + 3 * (i : Nat), 0, (i : Nat), ys, ())) (len := xs.length) (g := markEv k) (fin := fun ys => Sum.inl (k + 3 * xs.length, 0, ys, ())) (ys0 := xs)
    (fun n ys hy => by simp [R.L_laws_markEventS_0, hy])
    (fun n i ys hy hi _ => by
      rw [R.L_laws_markEventS_0, wrap_succ hi (by omega)]
      have e1 : IntKind.i64.wrap (k + 3 * i + 1) = k + 3 * i + 1 := wrap_id (by omega) (by omega)
      have e2 : IntKind.i64.wrap (k + 3 * i + 1 + 1) = k + 3 * i + 2 := by rw [wrap_id (by omega) (by omega)]; omega
      have e3 : IntKind.i64.wrap (k + 3 * i + 2 + 1) = k + 3 * ((i + 1 : Nat) : Int) := by rw [wrap_id (by omega) (by omega)]; omega
      simp only [e1, e2, e3]
      simp [hi, hy, markEv]) xs.length 0 K xs (by omega) (by omega) rfl (by simp) (by simp)
  unfold R.laws_markEventS
  have this : R.L_laws_markEventS_0 K K (k, 0, 0, xs, ()) = some (Sum.inl (k + 3 * xs.length, 0, markEvs k xs.length, ())) := by simpa [markEvs] using this
  simp [this, obind]

theorem heldEventS_eq (hK : 9223372036854775807 < K) (len : Nat) (hx : len ≤ 268435456) (k : Int) (hk : 0 ≤ k) (hk' : k ≤ 1000000000) : R.laws_heldEventS K (markEvs k len) k = some ((k + 3 * len, ()), ()) := by
  have hl : (markEvs k len).length = len := by simp [markEvs]
  have := all_ok (L := fun n i => R.L_laws_heldEventS_0 K n (markEvs k len, k + 3 * (i : Nat), 0, (i : Nat), ())) (len := len) (p := fun _ => true) (t := Sum.inl (k + 3 * len, 0, ())) (f := Sum.inr (-1, ()))
    (fun n => by simp [R.L_laws_heldEventS_0, hl]) (fun n i hi => by
      have e1 : IntKind.i64.wrap (k + 3 * i + 1) = k + 3 * i + 1 := wrap_id (by omega) (by omega)
      have e2 : IntKind.i64.wrap (k + 3 * i + 1 + 1) = k + 3 * i + 2 := by rw [wrap_id (by omega) (by omega)]; omega
      have e3 : IntKind.i64.wrap (k + 3 * i + 2 + 1) = k + 3 * ((i + 1 : Nat) : Int) := by rw [wrap_id (by omega) (by omega)]; omega
      have eg : (markEvs k len).getD i (0, 0, false) = markEv k i := by simp [markEvs, List.getD_eq_getElem?_getD, hi]
      simp only [R.L_laws_heldEventS_0, wrap_succ hi (by omega), hl, Int.toNat_natCast, eg, e1, e2, e3]
      simp [hi, markEv]) len 0 K (by omega) (by omega)
  unfold R.laws_heldEventS
  have this : R.L_laws_heldEventS_0 K K (markEvs k len, k, 0, 0, ()) = some (Sum.inl (k + 3 * len, 0, ())) := by simpa [all_true] using this
  simp [this, obind]

theorem markWatch_eq (hK : 9223372036854775807 < K) (w : Wa) (hx : w.2.2.length ≤ 268435456) : R.laws_markWatch K w 1 = some ((1 + 3 * (w.2.2.length : Int), ()), ((w.1, w.2.1, markEvs 1 w.2.2.length), ())) := by
  unfold R.laws_markWatch
  rw [markEventS_eq hK _ hx 1 (by omega) (by omega)]
  rfl

theorem heldWatch_eq (hK : 9223372036854775807 < K) (a : List UInt8) (b : Int) (len : Nat) (hx : len ≤ 268435456) : R.laws_heldWatch K (a, b, markEvs 1 len) 1 = some ((1 + 3 * (len : Int), ()), ()) := by
  unfold R.laws_heldWatch
  simp only
  rw [heldEventS_eq hK _ hx 1 (by omega) (by omega)]
  have h : ¬ (1 + 3 * (len : Int) < 0) := by omega
  simp [obind, h]


def isL (c : Int) : Bool := (decide (c ≥ 97) && decide (c ≤ 122)) || (decide (c ≥ 65) && decide (c ≤ 90)) || c == 95

def isD (c : Int) : Bool := decide (c ≥ 48) && decide (c ≤ 57)

theorem letter_eq (c : Int) : R.spec_l00Letter K c = some ((isL c, ()), ()) := by
  unfold R.spec_l00Letter isL
  by_cases h1 : c ≥ 97 <;> by_cases h2 : c ≤ 122 <;> by_cases h3 : c ≥ 65 <;> by_cases h4 : c ≤ 90 <;> simp [h1, h2, h3, h4]

theorem isLetter_eq (c : Int) : R.impl_isLetter K c = some ((isL c, ()), ()) := letter_eq (K := K) c

theorem digit_eq (c : Int) : R.spec_l00Digit K c = some ((isD c, ()), ()) := by
  unfold R.spec_l00Digit isD
  by_cases h1 : c ≥ 48 <;> simp [h1]

theorem isDigit_eq (c : Int) : R.impl_isDigit K c = some ((isD c, ()), ()) := digit_eq (K := K) c

def isW (c : Int) : Bool := isL c || isD c

theorem NameOK_1_eq (c : Int) : R.impl_NameOK_1 K c = some ((isW c, ()), ()) := by
  unfold R.impl_NameOK_1 isW
  rw [isLetter_eq, isDigit_eq]
  cases isL c <;> rfl

theorem getD_bytesIn (l : List UInt8) (i : Nat) : (bytesIn l).getD i 0 = ((l.getD i 0).toNat : Int) := by
  unfold bytesIn
  simp only [List.getD_eq_getElem?_getD, List.getElem?_map]
  cases l[i]? <;> rfl

def wordM (l : List UInt8) : Bool := decide (1 ≤ l.length) && decide (l.length ≤ 12) && isL ((l.getD 0 0).toNat : Int) && (List.range' 1 (l.length - 1)).all fun i => isW ((l.getD i 0).toNat : Int)

theorem word_eq (hK : 9223372036854775807 < K) (l : List UInt8) : R.spec_l00Word K l = some ((wordM l, ()), ()) := by
  unfold R.spec_l00Word wordM
  by_cases h1 : l.length < 1
  · simp [show (l.length : Int) < 1 by omega, show ¬ 1 ≤ l.length by omega]
  · by_cases h2 : l.length > 12
    · simp [show ¬ (l.length : Int) < 1 by omega, show (l.length : Int) > 12 by omega, show ¬ l.length ≤ 12 by omega]
    · have := all_ok (L := fun n i => R.L_spec_l00Word_0 K n (l, false, (i : Nat), ())) (len := l.length) (p := fun i => isW ((l.getD i 0).toNat : Int)) (t := Sum.inl (false, ())) (f := Sum.inr (false, ()))
        (fun n => by simp [R.L_spec_l00Word_0]) (fun n i hi => by
          simp only [R.L_spec_l00Word_0, wrap_succ hi (by omega), letter_eq, digit_eq, obind, isW, Int.toNat_natCast]
          cases isL ((l.getD i 0).toNat : Int) <;> cases isD ((l.getD i 0).toNat : Int) <;> simp [hi]) (l.length - 1) 1 K (by omega) (by omega)
      have this : R.L_spec_l00Word_0 K K (l, false, 1, ()) = _ := this
      simp only [show ¬ (l.length : Int) < 1 by omega, show ¬ (l.length : Int) > 12 by omega, show 1 ≤ l.length by omega, show l.length ≤ 12 by omega, show (0 : Int) < l.length by omega, letter_eq, this, obind, decide_true, decide_false, cond_false, cond_true, Int.le_refl, Bool.and_self, Bool.true_and, Int.toNat_zero]
      cases isL ((l.getD 0 0).toNat : Int)
      · rfl
      · cases (List.range' 1 (l.length - 1)).all fun i => isW ((l.getD i 0).toNat : Int) <;> rfl

theorem areAll_byte_eq (hK : 9223372036854775807 < K) (l : List UInt8) (hl : l.length ≤ 9223372036854775807) : R.impl_areAll_byte__impl_NameOK_1 K (bytesIn l) = some (((List.range' 0 l.length).all fun i => isW ((l.getD i 0).toNat : Int), ()), ()) := by
  have hb : (bytesIn l).length = l.length := by simp [bytesIn]
  obtain ⟨j, this⟩ := all_okI (L := fun n i => R.L_impl_areAll_byte__impl_NameOK_1_0 K n (bytesIn l, false, bytesIn l, bytesIn l, false, bytesIn l, bytesIn l, 0, ((bytesIn l).length : Int), (i : Nat), ())) (len := l.length) (p := fun i => isW ((l.getD i 0).toNat : Int))
    (t := Sum.inl (bytesIn l, false, bytesIn l, bytesIn l, false, bytesIn l, 0, ())) (f := fun i => Sum.inr (bytesIn l, false, bytesIn l, bytesIn l, false, bytesIn l, (i : Int), ()))
    (fun n => by simp [R.L_impl_areAll_byte__impl_NameOK_1_0, hb]) (fun n i hi => by
      simp only [R.L_impl_areAll_byte__impl_NameOK_1_0, wrap_succ hi hl, NameOK_1_eq, obind, Int.toNat_natCast, getD_bytesIn]
      cases isW ((l.getD i 0).toNat : Int) <;> simp [hi, hb]) l.length 0 K (by omega) (by omega)
  have this : R.L_impl_areAll_byte__impl_NameOK_1_0 K K (bytesIn l, false, bytesIn l, bytesIn l, false, bytesIn l, bytesIn l, 0, ((bytesIn l).length : Int), 0, ()) = _ := this
  unfold R.impl_areAll_byte__impl_NameOK_1
  rw [this]
  cases (List.range' 0 l.length).all fun i => isW ((l.getD i 0).toNat : Int) <;> simp [obind]

theorem NameOK_eq (hK : 9223372036854775807 < K) (l : List UInt8) (hl : l.length ≤ 9223372036854775807) : R.impl_NameOK K l = some ((wordM l, ()), ()) := by
  unfold R.impl_NameOK wordM
  by_cases h1 : 1 ≤ l.length
  · by_cases h2 : l.length ≤ 12
    · have e : (List.range' 0 l.length).all (fun i => isW ((l.getD i 0).toNat : Int)) = (isW ((l.getD 0 0).toNat : Int) && (List.range' 1 (l.length - 1)).all fun i => isW ((l.getD i 0).toNat : Int)) := by
        rw [show l.length = (l.length - 1) + 1 by omega, List.range'_succ, List.all_cons]; rfl
      simp only [R.impl_within, show (1 : Int) ≤ l.length by omega, show (l.length : Int) ≤ 12 by omega, show (0 : Int) < l.length by omega, h1, h2, isLetter_eq, areAll_byte_eq hK l hl, e, obind, decide_true, cond_true, Int.le_refl, Bool.and_self, Bool.true_and, Int.toNat_zero]
      unfold isW
      cases isL ((l.getD 0 0).toNat : Int) <;> simp
    · simp [R.impl_within, show (1 : Int) ≤ l.length by omega, show ¬ (l.length : Int) ≤ 12 by omega, h2, obind]
  · simp [R.impl_within, show ¬ (1 : Int) ≤ l.length by omega, h1, obind]


/-- is the event at 'i' no good -/
def evBad (xs : List Ev) (i : Nat) : Bool :=
  !(decide (1 ≤ (xs.getD i (0, 0, false)).1) && decide ((xs.getD i (0, 0, false)).1 ≤ 1000000)) || !(decide (0 ≤ (xs.getD i (0, 0, false)).2.1) && decide ((xs.getD i (0, 0, false)).2.1 ≤ 60)) ||
    (decide (0 < i) && (decide ((xs.getD i (0, 0, false)).1 ≤ (xs.getD (i - 1) (0, 0, false)).1) ||
      (decide ((xs.getD i (0, 0, false)).1 > IntKind.i64.wrap ((xs.getD (i - 1) (0, 0, false)).1 + 1)) && !(xs.getD i (0, 0, false)).2.2)))

def evsM (xs : List Ev) : Bool := (List.range' 0 xs.length).all fun i => !evBad xs i

theorem in_eq (a b c : Int) : R.spec_l01In K a b c = some ((decide (b ≤ a) && decide (a ≤ c), ()), ()) := by
  unfold R.spec_l01In
  by_cases h : b ≤ a <;> simp [h]

theorem within_eq (a b c : Int) : R.impl_within K a b c = some ((decide (b ≤ a) && decide (a ≤ c), ()), ()) := by
  unfold R.impl_within
  by_cases h : b ≤ a <;> simp [h]

theorem wrap_pred {i n : Nat} (h : i + 1 < n) (hn : n ≤ 9223372036854775807) : IntKind.i64.wrap (((i + 1 : Nat) : Int) - 1) = (i : Int) := by
  rw [wrap_id (by omega) (by omega)]; omega

theorem EventsOK_eq (hK : 9223372036854775807 < K) (xs : List Ev) (hx : xs.length ≤ 4) : R.impl_EventsOK K xs = some ((evsM xs, ()), ()) := by
  have := all_ok (L := fun n i => R.L_impl_EventsOK_0 K n (xs, false, xs, (xs.length : Int), (i : Nat), ())) (len := xs.length) (p := fun i => !evBad xs i) (t := Sum.inl (xs, false, ())) (f := Sum.inr (false, ()))
    (fun n => by simp [R.L_impl_EventsOK_0]) (fun n i hi => by
      simp only [R.L_impl_EventsOK_0, wrap_succ hi (by omega), within_eq, obind, Int.toNat_natCast, evBad]
      cases i with
      | zero =>
        cases decide (1 ≤ (xs.getD 0 (0, 0, false)).1) && decide ((xs.getD 0 (0, 0, false)).1 ≤ 1000000) <;> cases decide (0 ≤ (xs.getD 0 (0, 0, false)).2.1) && decide ((xs.getD 0 (0, 0, false)).2.1 ≤ 60) <;> simp [hi]
      | succ i =>
        simp only [wrap_pred hi (by omega), Int.toNat_natCast, Nat.add_sub_cancel]
        have g1 : (0 : Int) < ((i + 1 : Nat) : Int) := by omega
        have g2 : ((i + 1 : Nat) : Int) < xs.length := by omega
        have g3 : (i : Int) < xs.length := by omega
        have g4 : (0 : Int) ≤ ((i + 1 : Nat) : Int) := by omega
        have g5 : (0 : Int) ≤ (i : Int) := by omega
        simp only [g1, g2, g3, g4, g5, gt_iff_lt, decide_true, Bool.and_self, cond_true, Nat.zero_lt_succ, Bool.true_and]
        cases decide (1 ≤ (xs.getD (i + 1) (0, 0, false)).1) && decide ((xs.getD (i + 1) (0, 0, false)).1 ≤ 1000000) <;> cases decide (0 ≤ (xs.getD (i + 1) (0, 0, false)).2.1) && decide ((xs.getD (i + 1) (0, 0, false)).2.1 ≤ 60) <;>
          cases decide ((xs.getD (i + 1) (0, 0, false)).1 ≤ (xs.getD i (0, 0, false)).1) <;> cases decide (IntKind.i64.wrap ((xs.getD i (0, 0, false)).1 + 1) < (xs.getD (i + 1) (0, 0, false)).1) <;> cases (xs.getD (i + 1) (0, 0, false)).2.2 <;> rfl) xs.length 0 K (by omega) (by omega)
  have this : R.L_impl_EventsOK_0 K K (xs, false, xs, (xs.length : Int), 0, ()) = _ := this
  unfold R.impl_EventsOK evsM
  rw [this]
  cases (List.range' 0 xs.length).all fun i => !evBad xs i
  · rfl
  · simp [obind]; omega

theorem Events_eq (hK : 9223372036854775807 < K) (xs : List Ev) (hx : xs.length ≤ 4) (hw : ∀ x ∈ xs, I64 x.1) : R.spec_l06Events K xs = some ((evsM xs, ()), ()) := by
  have hwd : ∀ i, I64 (xs.getD i (0, 0, false)).1 := fun i => by
    rw [List.getD_eq_getElem?_getD]
    cases e : xs[i]? with
    | none => exact ⟨by decide, by decide⟩
    | some x => exact hw x (List.mem_of_getElem? e)
  have := all_ok (L := fun n i => R.L_spec_l06Events_0 K n (xs, false, (i : Nat), ())) (len := xs.length) (p := fun i => !evBad xs i) (t := Sum.inl (false, ())) (f := Sum.inr (false, ()))
    (fun n => by simp [R.L_spec_l06Events_0]) (fun n i hi => by
      simp only [R.L_spec_l06Events_0, wrap_succ hi (by omega), in_eq, obind, Int.toNat_natCast, evBad]
      cases i with
      | zero =>
        cases decide (1 ≤ (xs.getD 0 (0, 0, false)).1) && decide ((xs.getD 0 (0, 0, false)).1 ≤ 1000000) <;> cases decide (0 ≤ (xs.getD 0 (0, 0, false)).2.1) && decide ((xs.getD 0 (0, 0, false)).2.1 ≤ 60) <;> simp [hi]
      | succ i =>
        simp only [wrap_pred hi (by omega), Int.toNat_natCast, Nat.add_sub_cancel]
        have g1 : (0 : Int) < ((i + 1 : Nat) : Int) := by omega
        have g2 : ((i + 1 : Nat) : Int) < xs.length := by omega
        have g3 : (i : Int) < xs.length := by omega
        have g4 : (0 : Int) ≤ ((i + 1 : Nat) : Int) := by omega
        have g5 : (0 : Int) ≤ (i : Int) := by omega
        simp only [g1, g2, g3, g4, g5, gt_iff_lt, decide_true, Bool.and_self, cond_true, Nat.zero_lt_succ, Bool.true_and]
        have a1 := hwd i
        have a2 := hwd (i + 1)
        unfold I64 at a1 a2
        generalize xs.getD (i + 1) (0, 0, false) = x at a2 ⊢
        generalize xs.getD i (0, 0, false) = y at a1 ⊢
        by_cases h : x.1 ≤ y.1
        · cases decide (1 ≤ x.1) && decide (x.1 ≤ 1000000) <;> cases decide (0 ≤ x.2.1) && decide (x.2.1 ≤ 60) <;> simp [h]
        · have e : IntKind.i64.wrap (y.1 + 1) = y.1 + 1 := wrap_id (by omega) (by omega)
          have e2 : (x.1 != y.1 + 1) = decide (y.1 + 1 < x.1) := by
            by_cases h' : x.1 = y.1 + 1
            · simp [h']
            · have : y.1 + 1 < x.1 := by omega
              simp [h', this]
          rw [e, e2]
          cases decide (1 ≤ x.1) && decide (x.1 ≤ 1000000) <;> cases decide (0 ≤ x.2.1) && decide (x.2.1 ≤ 60) <;> cases decide (y.1 + 1 < x.1) <;> cases x.2.2 <;> simp [h]) xs.length 0 K (by omega) (by omega)
  have this : R.L_spec_l06Events_0 K K (xs, false, 0, ()) = _ := this
  unfold R.spec_l06Events evsM
  rw [this]
  cases (List.range' 0 xs.length).all fun i => !evBad xs i <;> rfl
end Go.Proofs.Pure
