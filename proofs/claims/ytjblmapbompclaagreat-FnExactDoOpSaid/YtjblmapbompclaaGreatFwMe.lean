/- strings.Compare; sorting by a key: the contracts' form. -/
import Derived.Test.YtjblmapbompclaaGreatFwMs
import Derived.Lib.Bytealg
set_option linter.all false
namespace Go.Proofs.Fw
open Go Go.RowKit Go.Sort
set_option linter.all false
theorem cmpB_lt : ∀ a b : List UInt8, decide (Lib.compareBytes a b < 0) = sless a b
  | [], [] => rfl
  | [], _ :: _ => rfl
  | _ :: _, [] => rfl
  | a :: x, b :: y => by
    have ih := cmpB_lt x y
    show decide ((if a < b then -1 else if b < a then 1 else Lib.compareBytes x y) < 0) = (decide (a < b) || (a == b && sless x y))
    by_cases h1 : a < b
    · simp [h1]
    · by_cases h2 : b < a
      · have : ¬ a = b := fun e => by subst e; exact h1 h2
        simp [h1, h2, this]
      · have : a = b := by
          have h1' : ¬ a.toNat < b.toNat := h1
          have h2' : ¬ b.toNat < a.toNat := h2
          exact UInt8.toNat_inj.1 (by omega)
        subst this
        simp only [h1, if_false, decide_false, Bool.false_or, beq_self_eq_true, Bool.true_and]
        exact ih
theorem cmpB_eq : ∀ a b : List UInt8, decide (Lib.compareBytes a b = 0) = (a == b)
  | [], [] => rfl
  | [], _ :: _ => rfl
  | _ :: _, [] => rfl
  | a :: x, b :: y => by
    have ih := cmpB_eq x y
    rw [List.cons_beq_cons]
    show decide ((if a < b then -1 else if b < a then 1 else Lib.compareBytes x y) = 0) = (a == b && x == y)
    by_cases h1 : a < b
    · have : ¬ a = b := fun e => by subst e; exact UInt8.lt_irrefl _ h1
      simp [h1, this]
    · by_cases h2 : b < a
      · have : ¬ a = b := fun e => by subst e; exact h1 h2
        simp [h1, h2, this]
      · have : a = b := by
          have h1' : ¬ a.toNat < b.toNat := h1
          have h2' : ¬ b.toNat < a.toNat := h2
          exact UInt8.toNat_inj.1 (by omega)
        subst this
        simp only [h1, if_false, beq_self_eq_true, Bool.true_and]
        exact ih
theorem bless_irr : ∀ a : List UInt8, sless a a = false
  | [] => rfl
  | a :: x => by
    have : ¬ a < a := UInt8.lt_irrefl a
    show (decide (a < a) || (a == a && sless x x)) = false
    simp only [this, decide_false, Bool.false_or, beq_self_eq_true, Bool.true_and]
    exact bless_irr x
theorem bless_trans : ∀ a b c : List UInt8, sless a b = true → sless b c = true → sless a c = true
  | _, b, [], _, h => by cases b <;> cases h
  | a, [], _ :: _, h, _ => by cases a <;> cases h
  | [], _ :: _, _ :: _, _, _ => rfl
  | a :: x, b :: y, c :: z, h1, h2 => by
    have q1 : (decide (a < b) || (a == b && sless x y)) = true := h1
    have q2 : (decide (b < c) || (b == c && sless y z)) = true := h2
    show (decide (a < c) || (a == c && sless x z)) = true
    simp only [Bool.or_eq_true, Bool.and_eq_true, decide_eq_true_eq, beq_iff_eq] at q1 q2 ⊢
    clear h1 h2
    rcases q1 with q1 | ⟨e1, q1⟩
    · rcases q2 with q2 | ⟨e2, q2⟩
      · exact .inl (UInt8.lt_trans q1 q2)
      · exact .inl (by rw [← e2]; exact q1)
    · rcases q2 with q2 | ⟨e2, q2⟩
      · exact .inl (by rw [e1]; exact q2)
      · exact .inr ⟨e1.trans e2, bless_trans x y z q1 q2⟩
theorem bless_tri : ∀ a b : List UInt8, sless a b = false → sless b a = false → a = b
  | [], [], _, _ => rfl
  | [], _ :: _, h, _ => by cases h
  | _ :: _, [], _, h => by cases h
  | a :: x, b :: y, h1, h2 => by
    have h1 : (decide (a < b) || (a == b && sless x y)) = false := h1
    have h2 : (decide (b < a) || (b == a && sless y x)) = false := h2
    simp only [Bool.or_eq_false_iff, decide_eq_false_iff_not] at h1 h2
    have e : a = b := by
      have h1' : ¬ a.toNat < b.toNat := h1.1
      have h2' : ¬ b.toNat < a.toNat := h2.1
      exact UInt8.toNat_inj.1 (by omega)
    subst e
    simp only [beq_self_eq_true, Bool.true_and] at h1 h2
    rw [bless_tri x y h1.2 h2.2]
def keyCmp (x y : List UInt8 × (Int × Bool)) : Int := Lib.compareBytes x.1 y.1
theorem keyCmp_lt (x y : List UInt8 × (Int × Bool)) : ltOf keyCmp x y = sless x.1 y.1 := cmpB_lt x.1 y.1
theorem keyCmp_swo : SWO (ltOf keyCmp) where
  irrefl x := by rw [keyCmp_lt]; exact bless_irr _
  trans x y z h1 h2 := by rw [keyCmp_lt] at *; exact bless_trans _ _ _ h1 h2
  ntrans x y z h1 h2 := by
    rw [keyCmp_lt] at *
    cases h3 : sless x.1 z.1 with
    | false => rfl
    | true =>
      exfalso
      by_cases h4 : sless z.1 y.1 = true
      · have := bless_trans _ _ _ h3 h4
        rw [h1] at this; cases this
      · have e := bless_tri _ _ (by simpa using h4) h2
        rw [e] at h3
        rw [h1] at h3; cases h3
def cmpF (a b : List UInt8) : Option ((Int × Unit) × Unit) := some ((Lib.compareBytes a b, ()), ())
theorem ok_compare [GInv] {P : Program} {g : Nat} (hc : Callable P g) (h : ∀ (a b : ByteArray) (w : World), Calls P g #[.string a, .string b] w fun e w' => e = .returned (.int .i64 (Lib.compareBytes a.data.toList b.data.toList)) ∧ w' = w) :
    Ok P g { ins := [.val false .str, .val false .str], outs := [⟨false, .int .i64, false⟩], F := fun x => cmpF x.1 x.2.1 } := by
  refine ⟨hc, fun w vs x y bs B hJw hS hargs hB nd hbs hy => ?_⟩
  obtain ⟨v, us, S, rfl, h1, h2, v2, us2, S2, rfl, g1, g2, g3⟩ := hargs
  obtain ⟨rfl, rfl⟩ := g3
  simp only [ValRd, Bool.false_eq_true, if_false, Rd] at h1 g1
  obtain ⟨rfl, h1⟩ := h1
  obtain ⟨rfl, g1⟩ := g1
  obtain rfl : v = .string ⟨x.1.toArray⟩ := (List.cons.inj h1).1
  obtain rfl : v2 = .string ⟨x.2.1.toArray⟩ := (List.cons.inj g1).1
  have hy : cmpF x.1 x.2.1 = some y := hy
  have hy := Option.some.inj hy
  subst hy
  refine (h _ _ w).mono fun e w' ⟨he, hw⟩ => ?_
  subst hw
  exact ⟨[.int .i64 (Lib.compareBytes x.1 x.2.1)], B, [], [], he, Kept.refl _ _, fun _ h => h, fun _ h => .inl h, by simp, fun b hb => (by cases hb),
    ⟨_, _, [], [], rfl, by simp only [Bool.false_eq_true, if_false, ValRd, Rd]; exact ⟨⟨trivial, trivial⟩, fun _ h => (by cases h), trivial⟩, rfl, rfl⟩, rfl⟩

end Go.Proofs.Fw
