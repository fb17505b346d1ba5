/- Plain lemmas on what the functions come to. -/
import Derived.Test.YtpfkncmaeamacaaP03
namespace Go.Proofs.Pure
open Go Fw
set_option linter.all false
set_option maxRecDepth 100000
variable {K : Nat}

abbrev Rf := List UInt8 × Int × Int × Bool

def refGood (r : Rf) : Bool := wordM r.1 && (decide (1 ≤ r.2.2.1) && decide (r.2.2.1 ≤ 1000000)) && (bif r.2.2.2 then r.2.1 == 0 else decide (1 ≤ r.2.1) && decide (r.2.1 ≤ 60))

def refAt (xs : List Rf) (name : List UInt8) : Int := match (List.range' 0 xs.length).find? (fun i => (xs.getD i ([], 0, 0, false)).1 == name) with | some j => (j : Int) | none => -1

def refsM (xs : List Rf) : Bool := decide (xs.length ≤ 8) && (List.range' 0 xs.length).all fun i => refGood (xs.getD i ([], 0, 0, false)) && (refAt xs (xs.getD i ([], 0, 0, false)).1 == (i : Int))

theorem l04At_eq (hK : 9223372036854775807 < K) (xs : List Rf) (hx : xs.length ≤ 9223372036854775807) (s : List UInt8) : R.spec_l04At K xs s = some ((refAt xs s, ()), ()) := by
  have := find_ok (L := fun n i => R.L_spec_l04At_0 K n (xs, s, 0, (i : Nat), ())) (len := xs.length) (p := fun i => (xs.getD i ([], 0, 0, false)).1 == s) (t := Sum.inl (0, ())) (f := fun i => Sum.inr ((i : Int), ()))
    (fun n => by simp [R.L_spec_l04At_0]) (fun n i hi => by
      simp only [R.L_spec_l04At_0, wrap_succ hi hx, Int.toNat_natCast]
      cases (xs.getD i ([], 0, 0, false)).1 == s <;> simp [hi]) xs.length 0 K (by omega) (by omega)
  have this : R.L_spec_l04At_0 K K (xs, s, 0, 0, ()) = _ := this
  unfold R.spec_l04At refAt
  rw [this]
  cases (List.range' 0 xs.length).find? (fun i => (xs.getD i ([], 0, 0, false)).1 == s) <;> rfl

theorem l04OK_eq (hK : 9223372036854775807 < K) (xs : List Rf) : R.spec_l04OK K xs = some ((refsM xs, ()), ()) := by
  unfold R.spec_l04OK refsM
  by_cases h8 : xs.length ≤ 8
  · have := all_ok (L := fun n i => R.L_spec_l04OK_0 K n (xs, false, (i : Nat), ())) (len := xs.length) (p := fun i => refGood (xs.getD i ([], 0, 0, false)) && (refAt xs (xs.getD i ([], 0, 0, false)).1 == (i : Int))) (t := Sum.inl (false, ())) (f := Sum.inr (false, ()))
      (fun n => by simp [R.L_spec_l04OK_0]) (fun n i hi => by
        simp only [R.L_spec_l04OK_0, wrap_succ hi (by omega), Int.toNat_natCast, word_eq hK, in_eq, l04At_eq hK xs (by omega), obind_some, refGood]
        have g : ((i : Nat) : Int) < (xs.length : Int) := by omega
        have g' : (0 : Int) ≤ ((i : Nat) : Int) := by omega
        simp only [g, g', decide_true, Bool.and_self, cond_true]
        generalize xs.getD i ([], 0, 0, false) = x
        cases wordM x.1 <;> cases decide (1 ≤ x.2.2.1) && decide (x.2.2.1 ≤ 1000000) <;> try rfl
        simp only [bne]
        cases refAt xs x.1 == (i : Int) <;> cases x.2.2.2 <;> cases x.2.1 == 0 <;> cases decide (1 ≤ x.2.1) && decide (x.2.1 ≤ 60) <;> rfl) xs.length 0 K (by omega) (by omega)
    have this : R.L_spec_l04OK_0 K K (xs, false, 0, ()) = _ := this
    simp only [this, h8, show ¬ ((xs.length : Int) > 8) by omega, obind_some, decide_true, decide_false, cond_false, Bool.true_and]
    cases (List.range' 0 xs.length).all fun i => refGood (xs.getD i ([], 0, 0, false)) && (refAt xs (xs.getD i ([], 0, 0, false)).1 == (i : Int)) <;> rfl
  · simp [h8, show (xs.length : Int) > 8 by omega]

theorem refsM_one (r : Rf) : refsM [r] = refGood r := by
  simp [refsM, refAt, List.range']

theorem isRef_eq (hK : 9223372036854775807 < K) (r : Rf) (h1 : r.1.length ≤ 9223372036854775807) : R.impl_isRef K r = some ((refGood r, ()), ()) := by
  unfold R.impl_isRef refGood R.impl_isHead
  simp only [NameOK_eq hK _ h1, within_eq, obind_some]
  cases wordM r.1 <;> cases decide (1 ≤ r.2.2.1) && decide (r.2.2.1 ≤ 1000000) <;> try rfl
  cases r.2.2.2 <;> cases r.2.1 == 0 <;> cases decide (1 ≤ r.2.1) && decide (r.2.1 ≤ 60) <;> rfl

/-- a watch that has noted a reference -/
def noteM (w : Wa) (r : Rf) : Wa := (w.1, r.2.2.1, if w.2.2.length = 4 then [(r.2.2.1, r.2.1, true)] else w.2.2 ++ [(r.2.2.1, r.2.1, false)])

theorem len4 {n : Nat} : ((n : Int) == 4) = decide (n = 4) := by
  by_cases h : n = 4
  · simp [h]
  · have : (n : Int) ≠ 4 := by omega
    simp [h, this]

theorem l06Note_eq (w : Wa) (r : Rf) (hx : w.2.2.length ≤ 1048576) : R.spec_l06Note K w r = some ((noteM w r, ()), ()) := by
  unfold R.spec_l06Note noteM
  rw [len4]
  by_cases h : w.2.2.length = 4
  · simp [h, dup_eq, alt_self, obind_some]
  · have e1 : Nat.ble (0 + w.2.2.length) 268435456 = true := Nat.ble_eq_true_of_le (by omega)
    have e2 : Nat.ble (w.2.2.length + 1) 268435456 = true := Nat.ble_eq_true_of_le (by omega)
    simp only [h, List.length_cons, List.length_nil, e1, e2, decide_false, cond_false, cond_true, dup_eq, alt_self, obind_some, if_false]

theorem Watch_note_eq (w : Wa) (r : Rf) (hx : w.2.2.length ≤ 1048576) : R.impl_Watch_note K w r = some ((noteM w r, ()), ()) := by
  unfold R.impl_Watch_note noteM
  simp only [implOwn_eq w (by omega), obind_some, len4]
  by_cases h : w.2.2.length = 4
  · simp [h]
  · have e2 : Nat.ble (w.2.2.length + 1) 268435456 = true := Nat.ble_eq_true_of_le (by omega)
    simp only [h, List.length_cons, List.length_nil, e2, decide_false, cond_false, cond_true, if_false]

/-- what NoteRef answers -/
def noteRefM (w : Wa) (r : Rf) : Wa × Int :=
  bif !watchM w then (([], 0, []), 1) else bif !refGood r then (([], 0, []), 1) else bif !(r.1 == w.1) then (w, 10) else bif r.2.2.1 != IntKind.i64.wrap (w.2.1 + 1) then (w, 16) else (noteM w r, 0)

theorem spec_NoteRef_eq (hK : 9223372036854775807 < K) (w : Wa) (r : Rf) (hx : w.2.2.length ≤ 1048576) (h3 : ∀ x ∈ w.2.2, I64 x.1) : R.spec_NoteRef K w r = some (((noteRefM w r).1, (noteRefM w r).2, ()), ()) := by
  unfold R.spec_NoteRef noteRefM
  have hn : (noteM w r).2.2.length ≤ 268435456 := by
    unfold noteM
    dsimp only
    split <;> simp <;> omega
  simp only [l06OK_eq hK w h3, l04OK_eq hK, refsM_one, own_eq w (by omega : w.2.2.length ≤ 268435456), l06Note_eq w r hx, own_eq (noteM w r) hn, obind_some]
  cases watchM w <;> cases refGood r <;> cases r.1 == w.1 <;> cases r.2.2.1 != IntKind.i64.wrap (w.2.1 + 1) <;> rfl

theorem impl_NoteRef_eq (hK : 9223372036854775807 < K) (w : Wa) (r : Rf) (hx : w.2.2.length ≤ 1048576) (h1 : w.1.length ≤ 9223372036854775807) (h2 : r.1.length ≤ 9223372036854775807) : R.impl_NoteRef K w r = some (((noteRefM w r).1, (noteRefM w r).2, ()), ()) := by
  unfold R.impl_NoteRef noteRefM
  have e : (w.1 == r.1) = (r.1 == w.1) := Bool.beq_comm
  simp only [WatchOK_eq hK w h1, isRef_eq hK r h2, implOwn_eq w (by omega : w.2.2.length ≤ 268435456), Watch_note_eq w r hx, obind_some, e]
  cases watchM w <;> cases refGood r <;> cases r.1 == w.1 <;> cases r.2.2.1 != IntKind.i64.wrap (w.2.1 + 1) <;> rfl

theorem law_NoteRef (hK : 9223372036854775807 < K) (w : Wa) (r : Rf) (h1 : w.1.length ≤ 9223372036854775807) (h2 : w.2.2.length ≤ 9223372036854775807) (h3 : ∀ x ∈ w.2.2, I64 x.1) (h4 : r.1.length ≤ 9223372036854775807) : R.laws_FnExactNoteRef K w r = some ((true, ()), ()) := by
  unfold R.laws_FnExactNoteRef
  rw [szWatch_eq w h1 h2]
  simp only [obind_some]
  by_cases hs : szM w < 0
  · simp [hs]
  · have hq : w.2.2.length ≤ 1048576 := by
      unfold szM at hs
      split at hs
      · omega
      · split at hs
        · omega
        · omega
    have hz : ∃ z, R.laws_szRef K r (szM w) = some ((z, ()), ()) := by
      unfold R.laws_szRef
      cases decide (IntKind.i64.wrap (szM w - (r.1.length : Int)) < 0)
      · exact ⟨_, rfl⟩
      · exact ⟨_, rfl⟩
    obtain ⟨z, hz⟩ := hz
    have ho : (noteRefM w r).1.2.2.length ≤ 1048577 := by
      unfold noteRefM
      cases watchM w <;> cases refGood r <;> cases r.1 == w.1 <;> cases r.2.2.1 != IntKind.i64.wrap (w.2.1 + 1) <;> simp [noteM] <;> (try omega)
      split <;> simp <;> omega
    have hh : ¬ (1 + 3 * (w.2.2.length : Int) < 0) := by omega
    have hg : ¬ (1 + 3 * ((noteRefM w r).1.2.2.length : Int) < 0) := by omega
    simp only [hs, hz, decide_false, cond_false, obind_some]
    cases decide (z < 0) with
    | true => rfl
    | false =>
      simp only [cond_false, toWatch_eq hK w (by omega), spec_NoteRef_eq hK w r hq h3, impl_NoteRef_eq hK w r hq h1 h4, dup_eq, alt_self, obind_some, pair_eta, eqWatch_self hK (noteRefM w r).1 (by omega), eqWatch_self hK w (by omega), markWatch_eq hK w (by omega), markWatch_eq hK (noteRefM w r).1 (by omega),
        heldWatch_eq hK _ _ _ (show (noteRefM w r).1.2.2.length ≤ 268435456 by omega), heldWatch_eq hK _ _ _ (show w.2.2.length ≤ 268435456 by omega), hh, hg, decide_false, Bool.not_true, bne_self_eq_false]
end Go.Proofs.Pure
