/- The table of types held against the program; what is known in the middle of a function: 'Inv', 'Post'. -/
import Derived.Test.YtjblmapbompclaaGreatFwF
set_option linter.all false
namespace Go.Proofs.Fw
open Go
def zOK : Ty → List Value → Option (List Value)
  | .bool, .bool false :: r => some r
  | .int k, .int k' n :: r => bif decide (k = k') && n == 0 then some r else none
  | .str, .string s :: r => bif s.data.size == 0 then some r else none
  | .sl _, .slice none 0 0 :: r => some r
  | .err, .nilIface :: r => some r
  | .unit, r => some r
  | .pair a b, r => match zOK a r with | some r => zOK b r | none => none
  | _, _ => none
def zCells (t : Ty) (v : Value) : Bool := match zOK t v.cells.toList with | some [] => true | _ => false
def leafIs : Ty → TypeDesc → Bool
  | .bool, .bool => true
  | .int k, .int k' => decide (k = k')
  | .str, .string => true
  | .err, .interface _ => true
  | _, _ => false
def isAgg' : Value → Bool
  | .agg _ => true
  | _ => false
def fieldsAre (P : Program) : List Field → List (Nat × Nat) → Bool
  | [], [] => true
  | f :: fs, (o, t) :: r => f.offset == o && f.type == t && (match P.info? f.type with | some i => !(i.size == 0) | none => false) && fieldsAre P fs r
  | _, _ => false
def chk (P : Program) (T : Nat) : TyI → Bool
  | .leaf t => match P.info? T, P.underlying T with
    | some i, some d => i.size == 1 && (match i.zero with | some z => zCells t z && !isAgg' z | none => false) && leafIs t d
    | _, _ => false
  | .slice e t _ => match P.info? T, P.underlying T, P.info? e with
    | some i, some (.slice e'), some ie => i.size == 1 && (match i.zero with | some z => zCells (.sl t) z && !isAgg' z | none => false) && e' == e &&
        ie.size == t.size && Nat.ble ie.bytes 65536 && (match ie.zero with | some z => zCells t z | none => false) && !(t.size == 0)
    | _, _, _ => false
  | .struct t fs => match P.info? T, P.underlying T with
    | some i, some (.struct gs) => i.size == t.size && (match i.zero with | some z => zCells t z && isAgg' z | none => false) && fieldsAre P gs.toList fs && !(t.size == 0)
    | _, _ => false
  | .one => match P.info? T, P.underlying T with
    | some i, some (.pointer _) => i.size == 1
    | some i, some (.func _ _ _) => i.size == 1
    | _, _ => false
  | .map e => match P.underlying T with
    | some (.map k e') => e' == e && (match P.underlying k with | some .string => true | _ => false)
    | _ => false
def chkAll (P : Program) : List (Nat × TyI) → Bool
  | [] => true
  | (T, i) :: r => chk P T i && chkAll P r
theorem assoc_chk {P : Program} {T : Nat} {i : TyI} : ∀ {l : List (Nat × TyI)}, chkAll P l = true → assoc T l = some i → chk P T i = true
  | [], _, h => by simp [assoc] at h
  | (U, j) :: r, hc, h => by
    simp only [chkAll, Bool.and_eq_true] at hc
    simp only [assoc] at h
    cases e : Nat.beq U T
    · rw [e] at h; exact assoc_chk hc.2 (by simpa using h)
    · rw [e] at h
      simp at h
      rw [← h, ← Nat.eq_of_beq_eq_true e]; exact hc.1
theorem zOK_rd (w : World) : ∀ (t : Ty) {vs r : List Value}, zOK t vs = some r → ∃ us, vs = us ++ r ∧ Rd w t t.dflt [] us
  | .bool, vs, r, h => by
    unfold zOK at h; split at h <;> simp_all
    exact ⟨[.bool false], rfl, by simp [Rd, Ty.dflt]⟩
  | .int k, vs, r, h => by
    cases vs with
    | nil => simp [zOK] at h
    | cons v vs =>
      cases v with
      | int k' n =>
        simp only [zOK] at h
        cases e' : (decide (k = k') && n == 0) <;> rw [e'] at h <;> simp at h
        simp at e'
        obtain ⟨rfl, rfl⟩ := e'
        exact ⟨[.int k 0], by simp [h], by simp [Rd, Ty.dflt]⟩
      | _ => simp [zOK] at h
  | .str, vs, r, h => by
    cases vs with
    | nil => simp [zOK] at h
    | cons v vs =>
      cases v with
      | string s =>
        simp only [zOK] at h
        cases e' : (s.data.size == 0) <;> rw [e'] at h <;> simp at h
        have e2 : s = ⟨#[]⟩ := by
          cases s with
          | mk d => congr 1; exact Array.eq_empty_of_size_eq_zero (by simpa using e')
        exact ⟨[.string s], by simp [h], by simp [Rd, Ty.dflt, e2]⟩
      | _ => simp [zOK] at h
  | .sl t, vs, r, h => by
    unfold zOK at h; split at h <;> simp_all
    exact ⟨[.slice none 0 0], rfl, by simp [Rd, Ty.dflt]⟩
  | .err, vs, r, h => by
    unfold zOK at h; split at h <;> simp_all
    exact ⟨[.nilIface], rfl, by simp [Rd, Ty.dflt]⟩
  | .unit, vs, r, h => by
    simp only [zOK, Option.some.injEq] at h
    exact ⟨[], by simp [h], by simp [Rd]⟩
  | .pair a b, vs, r, h => by
    simp only [zOK] at h
    cases ha : zOK a vs with
    | none => rw [ha] at h; simp at h
    | some ra =>
      rw [ha] at h
      obtain ⟨u1, e1, h1⟩ := zOK_rd w a ha
      obtain ⟨u2, e2, h2⟩ := zOK_rd w b h
      refine ⟨u1 ++ u2, by rw [e1, e2, List.append_assoc], ?_⟩
      simp only [Rd, Ty.dflt]
      exact ⟨[], [], u1, u2, rfl, rfl, h1, h2⟩
theorem zCells_rd {t : Ty} {z : Value} (h : zCells t z = true) (w : World) : Rd w t t.dflt [] z.cells.toList := by
  unfold zCells at h
  cases e : zOK t z.cells.toList with
  | none => rw [e] at h; simp at h
  | some r =>
    rw [e] at h
    cases r with
    | cons _ _ => simp at h
    | nil =>
      obtain ⟨us, e1, h1⟩ := zOK_rd w t e
      rw [e1]; simpa using h1
theorem zOK_own (w : World) : ∀ (t : Ty) {vs r : List Value}, zOK t vs = some r → ∃ us, vs = us ++ r ∧ OwnRd w t t.dflt [] us
  | .bool, vs, r, h => by
    unfold zOK at h; split at h <;> simp_all
    exact ⟨[.bool false], rfl, by simp [OwnRd, Rd, Ty.dflt]⟩
  | .int k, vs, r, h => by
    cases vs with
    | nil => simp [zOK] at h
    | cons v vs =>
      cases v with
      | int k' n =>
        simp only [zOK] at h
        cases e' : (decide (k = k') && n == 0) <;> rw [e'] at h <;> simp at h
        simp at e'
        obtain ⟨rfl, rfl⟩ := e'
        exact ⟨[.int k 0], by simp [h], by simp [OwnRd, Rd, Ty.dflt]⟩
      | _ => simp [zOK] at h
  | .str, vs, r, h => by
    cases vs with
    | nil => simp [zOK] at h
    | cons v vs =>
      cases v with
      | string s =>
        simp only [zOK] at h
        cases e' : (s.data.size == 0) <;> rw [e'] at h <;> simp at h
        have e2 : s = ⟨#[]⟩ := by
          cases s with
          | mk d => congr 1; exact Array.eq_empty_of_size_eq_zero (by simpa using e')
        exact ⟨[.string s], by simp [h], by simp [OwnRd, Rd, Ty.dflt, e2]⟩
      | _ => simp [zOK] at h
  | .sl t, vs, r, h => by
    unfold zOK at h; split at h <;> simp_all
    exact ⟨[.slice none 0 0], rfl, by simp [OwnRd, Rd, Ty.dflt]⟩
  | .err, vs, r, h => by
    unfold zOK at h; split at h <;> simp_all
    exact ⟨[.nilIface], rfl, by simp [OwnRd, Rd, Ty.dflt]⟩
  | .unit, vs, r, h => by
    simp only [zOK, Option.some.injEq] at h
    exact ⟨[], by simp [h], by simp [OwnRd, Rd]⟩
  | .pair a b, vs, r, h => by
    simp only [zOK] at h
    cases ha : zOK a vs with
    | none => rw [ha] at h; simp at h
    | some ra =>
      rw [ha] at h
      obtain ⟨u1, e1, h1⟩ := zOK_own w a ha
      obtain ⟨u2, e2, h2⟩ := zOK_own w b h
      refine ⟨u1 ++ u2, by rw [e1, e2, List.append_assoc], ?_⟩
      simp only [OwnRd, Ty.dflt]
      exact ⟨[], [], u1, u2, rfl, rfl, h1, h2⟩
theorem zCells_own {t : Ty} {z : Value} (h : zCells t z = true) (w : World) : OwnRd w t t.dflt [] z.cells.toList := by
  unfold zCells at h
  cases e : zOK t z.cells.toList with
  | none => rw [e] at h; simp at h
  | some r =>
    rw [e] at h
    cases r with
    | cons _ _ => simp at h
    | nil =>
      obtain ⟨us, e1, h1⟩ := zOK_own w t e
      rw [e1]; simpa using h1
structure TyFacts (P : Program) (T : Nat) (ag : Bool) (t : Ty) : Prop where
  agg : ∀ w, (isAgg T).run P w = .ok ag w
  size : ∀ w, (sizeOf T).run P w = .ok t.size w
  zero : ∃ z, (∀ w, (zeroValue T).run P w = .ok z w) ∧ zCells t z = true ∧ (isAgg' z = ag)
  one : ag = false → t.size = 1
  pos : t.size ≠ 0
theorem run_typeInfo' {P : Program} {t : TypeId} {i : TypeInfo} (h : P.info? t = some i) (w : World) : (typeInfo t).run P w = .ok i w := by
  simp [typeInfo, h]
theorem run_sizeOf' {P : Program} {t : TypeId} {i : TypeInfo} (h : P.info? t = some i) (w : World) : (sizeOf t).run P w = .ok i.size w := by
  simp [sizeOf, run_typeInfo' h]
theorem run_zeroValue' {P : Program} {t : TypeId} {i : TypeInfo} {z : Value} (h : P.info? t = some i) (hz : i.zero = some z) (w : World) : (zeroValue t).run P w = .ok z w := by
  simp [zeroValue, run_typeInfo' h, hz]
theorem run_underlying' {P : Program} {t : TypeId} {d : TypeDesc} (h : P.underlying t = some d) (w : World) : (underlying t).run P w = .ok d w := by
  simp [underlying, h]
theorem leaf_desc {t : Ty} {d : TypeDesc} (h : leafIs t d = true) : (∀ fs, d ≠ .struct fs) ∧ (∀ n e, d ≠ .array n e) ∧ t.size = 1 := by
  cases t <;> cases d <;> simp_all [leafIs, Ty.size]
theorem chk_leaf {P : Program} {T : Nat} {t : Ty} (h : chk P T (.leaf t) = true) :
    ∃ i d z, P.info? T = some i ∧ P.underlying T = some d ∧ i.size = 1 ∧ i.zero = some z ∧ zCells t z = true ∧ isAgg' z = false ∧ leafIs t d = true := by
  simp only [chk] at h
  cases hi : P.info? T with
  | none => rw [hi] at h; simp at h
  | some i =>
    cases hd : P.underlying T with
    | none => rw [hi, hd] at h; simp at h
    | some d =>
      rw [hi, hd] at h
      simp only [Bool.and_eq_true, beq_iff_eq] at h
      obtain ⟨⟨h1, h2⟩, h3⟩ := h
      cases hz : i.zero with
      | none => rw [hz] at h2; simp at h2
      | some z =>
        rw [hz] at h2
        simp only [Bool.and_eq_true, Bool.not_eq_true'] at h2
        exact ⟨i, d, z, rfl, rfl, h1, hz, h2.1, h2.2, h3⟩
theorem chk_slice {P : Program} {T e : Nat} {t : Ty} {n : Nat} (h : chk P T (.slice e t n) = true) :
    ∃ i z ie ze, P.info? T = some i ∧ P.underlying T = some (.slice e) ∧ P.info? e = some ie ∧ i.size = 1 ∧ i.zero = some z ∧ zCells (.sl t) z = true ∧ isAgg' z = false ∧
      ie.size = t.size ∧ ie.bytes ≤ 65536 ∧ ie.zero = some ze ∧ zCells t ze = true ∧ t.size ≠ 0 := by
  simp only [chk] at h
  cases hi : P.info? T with
  | none => rw [hi] at h; simp at h
  | some i =>
    cases hd : P.underlying T with
    | none => rw [hi, hd] at h; simp at h
    | some d =>
      cases hie : P.info? e with
      | none => rw [hi, hd, hie] at h; cases d <;> simp at h
      | some ie =>
        rw [hi, hd, hie] at h
        cases d with
        | slice e' =>
          simp only [Bool.and_eq_true, beq_iff_eq] at h
          obtain ⟨⟨⟨⟨⟨⟨h1, h2⟩, h3⟩, h4⟩, h5⟩, h6⟩, h7⟩ := h
          subst h3
          cases hz : i.zero with
          | none => rw [hz] at h2; simp at h2
          | some z =>
            rw [hz] at h2
            simp only [Bool.and_eq_true, Bool.not_eq_true'] at h2
            cases hze : ie.zero with
            | none => rw [hze] at h6; simp at h6
            | some ze =>
              rw [hze] at h6
              exact ⟨i, z, ie, ze, rfl, rfl, rfl, h1, hz, h2.1, h2.2, h4, Nat.le_of_ble_eq_true h5, hze, h6, by simpa using h7⟩
        | _ => simp at h
theorem chk_struct {P : Program} {T : Nat} {t : Ty} {fs : List (Nat × Nat)} (h : chk P T (.struct t fs) = true) :
    ∃ i gs z, P.info? T = some i ∧ P.underlying T = some (.struct gs) ∧ i.size = t.size ∧ i.zero = some z ∧ zCells t z = true ∧ isAgg' z = true ∧ fieldsAre P gs.toList fs = true ∧ t.size ≠ 0 := by
  simp only [chk] at h
  cases hi : P.info? T with
  | none => rw [hi] at h; simp at h
  | some i =>
    cases hd : P.underlying T with
    | none => rw [hi, hd] at h; simp at h
    | some d =>
      rw [hi, hd] at h
      cases d with
      | struct gs =>
        simp only [Bool.and_eq_true, beq_iff_eq] at h
        obtain ⟨⟨⟨h1, h2⟩, h3⟩, h4⟩ := h
        cases hz : i.zero with
        | none => rw [hz] at h2; simp at h2
        | some z =>
          rw [hz] at h2
          simp only [Bool.and_eq_true] at h2
          exact ⟨i, gs, z, rfl, rfl, h1, hz, h2.1, h2.2, h3, by simpa using h4⟩
      | _ => simp at h
theorem facts_of {c : Cfg} {P : Program} (hc : chkAll P c.tab = true) {T : Nat} {ag : Bool} {t : Ty} (h : tyOf c T = some (ag, t)) : TyFacts P T ag t := by
  unfold tyOf at h
  cases ha : assoc T c.tab with
  | none => rw [ha] at h; simp at h
  | some i =>
    rw [ha] at h
    have hk := assoc_chk hc ha
    cases i with
    | leaf t' =>
      simp only [TyI.ty, Option.some.injEq, Prod.mk.injEq] at h
      obtain ⟨rfl, rfl⟩ := h
      obtain ⟨i, d, z, hi, hd, h1, hz, h2, h3, h4⟩ := chk_leaf hk
      obtain ⟨k1, k2, k3⟩ := leaf_desc h4
      refine ⟨fun w => ?_, fun w => by rw [run_sizeOf' hi, h1, k3], ⟨z, run_zeroValue' hi hz, h2, h3⟩, fun _ => k3, by omega⟩
      simp only [isAgg, Sem.run_bind, run_underlying' hd, Result.andThen_ok]
      cases d <;> first | rfl | exact absurd rfl (k1 _) | exact absurd rfl (k2 _ _)
    | slice e t' by_ =>
      simp only [TyI.ty, Option.some.injEq, Prod.mk.injEq] at h
      obtain ⟨rfl, rfl⟩ := h
      obtain ⟨i, z, ie, ze, hi, hd, hie, h1, hz, h2, h3, _⟩ := chk_slice hk
      refine ⟨fun w => ?_, fun w => by rw [run_sizeOf' hi, h1]; rfl, ⟨z, run_zeroValue' hi hz, h2, h3⟩, fun _ => rfl, by simp [Ty.size]⟩
      simp [isAgg, run_underlying' hd]
    | struct t' fs =>
      simp only [TyI.ty, Option.some.injEq, Prod.mk.injEq] at h
      obtain ⟨rfl, rfl⟩ := h
      obtain ⟨i, gs, z, hi, hd, h1, hz, h2, h3, h4, h5⟩ := chk_struct hk
      refine ⟨fun w => ?_, fun w => by rw [run_sizeOf' hi, h1], ⟨z, run_zeroValue' hi hz, h2, h3⟩, fun h => (by cases h), h5⟩
      simp [isAgg, run_underlying' hd]
    | one => simp [TyI.ty] at h
    | map _ => simp [TyI.ty] at h
structure Ctx where
  M : Nat → Prop
  A0 : Nat → Prop
  W0 : Wit
  V0 : Nat → Value
  w0 : World
  f : Fm
  C : Nat → Prop
  wC : World

structure Kept (M : Nat → Prop) (w0 w : World) : Prop where
  os : w.os = w0.os
  tape : w.tape = w0.tape
  output : w.output = w0.output
  size : w0.heap.size ≤ w.heap.size
  block : ∀ b, b < w0.heap.size → ¬ M b → w.heap[b]? = w0.heap[b]?
theorem Lk.has_lt {k : Lk} {j : Nat} (h : k.has j = true) : j < k.n := by
  unfold Lk.has at h
  simp only [Bool.and_eq_true] at h
  exact Nat.le_of_ble_eq_true h.1
theorem sameL_spec : ∀ {a b : List Nat}, sameL a b = true → a = b
  | [], [], _ => rfl
  | [], _ :: _, h => by simp [sameL] at h
  | _ :: _, [], h => by simp [sameL] at h
  | x :: r, y :: s, h => by
    simp only [sameL, Bool.and_eq_true] at h
    rw [Nat.eq_of_beq_eq_true h.1, sameL_spec h.2]
theorem Lk.same_spec {k l : Lk} (h : k.same l = true) : k = l := by
  obtain ⟨n, fr⟩ := k
  obtain ⟨m, gr⟩ := l
  unfold Lk.same at h
  simp only [Bool.and_eq_true] at h
  rw [Nat.eq_of_beq_eq_true h.1, sameL_spec h.2]
theorem freeOf_ge {base : Fm} {st : St} {j : Nat} (hj : j < st.kb.n) : ∀ l : List Nat, notMem j (freeOf base st l) = true
  | [] => rfl
  | t :: r => by
    unfold freeOf
    split
    · rename_i id off e
      cases h : Nat.ble st.kb.n id
      · exact freeOf_ge hj r
      · have := Nat.le_of_ble_eq_true h
        simp only [cond_true, notMem, Bool.and_eq_true, Bool.not_eq_true']
        refine ⟨?_, freeOf_ge hj r⟩
        cases h' : Nat.beq id j
        · rfl
        · have := Nat.eq_of_beq_eq_true h'; omega
    · exact freeOf_ge hj r
theorem Lk.has_mk {base : Fm} {st : St} {n j : Nat} {l : List Nat} (h : st.kb.has j = true) (hn : j < n) : (Lk.mk n (freeOf base st l)).has j = true := by
  unfold Lk.has
  simp only [Bool.and_eq_true]
  exact ⟨Nat.ble_eq_true_of_le hn, freeOf_ge (Lk.has_lt h) l⟩
theorem Kept.refl (M : Nat → Prop) (w : World) : Kept M w w := ⟨rfl, rfl, rfl, Nat.le_refl _, fun _ _ _ => rfl⟩
theorem Kept.trans {M : Nat → Prop} {a b c : World} (h : Kept M a b) (k : Kept M b c) : Kept M a c :=
  ⟨k.os.trans h.os, k.tape.trans h.tape, k.output.trans h.output, Nat.le_trans h.size k.size, fun i hi hm => (k.block i (Nat.lt_of_lt_of_le hi h.size) hm).trans (h.block i hi hm)⟩
class GInv where
  J : World → Prop
  S : Nat → Prop
  stable : ∀ w w' : World, (∀ b, S b → w'.heap[b]? = w.heap[b]?) → J w → J w'
def GI [GInv] (X : Ctx) : Prop := GInv.J X.w0 ∧ ∀ b, GInv.S b → X.A0 b ∧ ¬ X.M b ∧ b < X.w0.heap.size

structure Inv [GInv] (X : Ctx) (st : St) (a : Act) (w : World) (A : Nat → Prop) (W : Wit) (V : Nat → Value) : Prop where
  rep : Rep st w X.M A W V
  size : a.tmps.size = X.f.n
  defers : a.defers = []
  cur : ∀ n, n < X.f.n → V (X.f.b + n) = a.tmps.getD n undef
  outer : ∀ k, k < X.f.b → V k = X.V0 k
  nb : X.f.b + X.f.n ≤ st.nb
  kept : Kept X.M X.w0 w
  up : ∀ b, X.A0 b → A b
  down : ∀ b, A b → X.A0 b ∨ X.M b
  box : ∀ j b F, X.W0 j = some (.box b, F) → W j = some (.box b, F)
  new : ∀ b, X.w0.heap.size ≤ b → X.M b
  keep : ∀ b, X.C b → A b ∨ ∃ j, st.kb.has j = true ∧ W j = some (.box b, [b])
  same : ∀ b, X.C b → w.heap[b]? = X.wC.heap[b]?
  z : ∀ j p, X.W0 j = some p → j < X.f.l0
  gi : GI X
def Post [GInv] {R : Type} (X : Ctx) (k : St → Option R) (r : R) (a : Act) (w : World) : Prop := ∃ st A W V, k st = some r ∧ Inv X st a w A W V

section
variable [GInv] {X : Ctx} {st : St} {a : Act} {w : World} {A : Nat → Prop} {W : Wit} {V : Nat → Value}
theorem Inv.at (h : Inv X st a w A W V) (t : Nat) : RepAV A W w (st.at X.f t) (a.tmps.getD t undef) := by
  unfold St.at
  cases e : Nat.blt t X.f.n
  · simp [RepAV]
  · have hlt : t < X.f.n := Nat.le_of_ble_eq_true e
    rw [← h.cur t hlt]
    exact h.rep.slots _
theorem constAV_rep (v : Value) : RepAV A W w (constAV v) v := by
  unfold constAV
  split
  · simp [RepAV, Rd]
  · simp [RepAV, Rd]
  · rename_i s
    simp only [RepAV, Rd, unc]
    exact ⟨[], by simp, rfl, by cases s; simp⟩
  · simp [RepAV]
  · simp [RepAV, Rd]
  · simp [RepAV]
theorem Inv.opnd (h : Inv X st a w A W V) (x : Operand) : RepAV A W w (opnd X.f st x) (a.eval x) := by
  cases x with
  | tmp t => exact h.at t
  | const v => exact constAV_rep v
  | global g => simp [Fw.opnd, RepAV]
  | func f =>
    simp only [Fw.opnd, RepAV, Act.eval]
    exact ⟨[], rfl, by simp [RepL]⟩
theorem Act.put_size (a : Act) (d : Option Tmp) (v : Value) : (a.put d v).tmps.size = a.tmps.size := by
  cases d <;> simp [Act.put]
theorem Act.put_defers (a : Act) (d : Option Tmp) (v : Value) : (a.put d v).defers = a.defers := by
  cases d <;> simp [Act.put]
theorem Inv.put (h : Inv X st a w A W V) {dst : Option Tmp} (hd : ∀ d : Nat, dst = some d → d < X.f.n) {v : AV} {u : Value} (hv : RepAV A W w v u) :
    ∃ V', Inv X (st.put X.f dst v) (a.put dst u) w A W V' := by
  cases dst with
  | none => exact ⟨V, h⟩
  | some d =>
    have hlt : @LT.lt Nat _ d X.f.n := hd d rfl
    have hnb := h.nb
    refine ⟨updV V (X.f.b + d) u, ?_⟩
    refine ⟨h.rep.put (by omega) hv, by rw [Act.put_size]; exact h.size, by rw [Act.put_defers]; exact h.defers, ?_, ?_, h.nb, h.kept, h.up, h.down, h.box, h.new, h.keep, h.same, h.z, h.gi⟩
    · intro n hn
      unfold updV
      simp only [Act.put]
      by_cases e : d = n
      · subst e
        rw [if_pos rfl]
        simp [h.size, hlt]
      · rw [if_neg (fun h => e (Nat.add_left_cancel h)), h.cur n hn]
        simp only [Array.getD_eq_getD_getElem?, Array.getElem?_setIfInBounds, if_neg e]
    · intro k hk
      unfold updV
      rw [if_neg (by omega)]
      exact h.outer k hk
theorem wp_value {R : Type} {P : Program} {o : Oper} {k : St → Option R} {r : R} {Q : Exit → Act → World → Prop} {v : Value} {w' : World} {av : AV} {st' : St} {W' : Wit} {A' : Nat → Prop} {V' : Nat → Value}
    (hd : ∀ d : Nat, o.dst = some d → d < X.f.n) (hrun : (execOp a.eval o).run P w = .ok (.value v) w') (hi : Inv X st' a w' A' W' V') (hv : RepAV A' W' w' av v) (hk : k (st'.put X.f o.dst av) = some r) :
    o.wp P a w (Post X k r) Q := by
  unfold Oper.wp
  rw [hrun]
  obtain ⟨V'', h⟩ := hi.put hd hv
  exact ⟨_, A', W', V'', hk, h⟩
theorem wp_skip' {R : Type} {P : Program} {o : Oper} {k : St → Option R} {r : R} {Q : Exit → Act → World → Prop} {w' : World} {st' : St} {W' : Wit} {A' : Nat → Prop} {V' : Nat → Value}
    (hd : o.dst = none) (hrun : (execOp a.eval o).run P w = .ok .skip w') (hi : Inv X st' a w' A' W' V') (hk : k st' = some r) :
    o.wp P a w (Post X k r) Q := by
  unfold Oper.wp
  rw [hrun]
  simp only [Oper.upon, hd]
  exact ⟨_, A', W', V', hk, hi⟩
theorem Inv.turn (h : Inv X st a w A W V) {st' : St} {w' : World} {A' : Nat → Prop} {W' : Wit} (hr : Rep st' w' X.M A' W' V) (hnb : st.nb ≤ st'.nb) (hk : Kept X.M w w') (hA : ∀ b, A b → A' b)
    (hA' : ∀ b, A' b → A b ∨ X.M b) (hb : ∀ j b F, W j = some (.box b, F) → W' j = some (.box b, F))
    (hs : ∀ b, (A b ∨ ∃ j, st.kb.has j = true ∧ W j = some (.box b, [b])) → w'.heap[b]? = w.heap[b]? := by intros; rfl) (hkb : st'.kb = st.kb := by rfl) : Inv X st' a w' A' W' V :=
  ⟨hr, h.size, h.defers, h.cur, h.outer, Nat.le_trans h.nb hnb, h.kept.trans hk, fun b hb => hA b (h.up b hb), fun b hb => (hA' b hb).elim (h.down b) .inr, fun j b F e => hb j b F (h.box j b F e), h.new,
    fun b hC => (h.keep b hC).imp (hA b) (fun ⟨j, hj, e⟩ => ⟨j, by rw [hkb]; exact hj, hb j b _ e⟩), fun b hC => (hs b (h.keep b hC)).trans (h.same b hC), h.z, h.gi⟩
theorem Inv.glob (h : Inv X st a w A W V) : GInv.J w ∧ ∀ b, GInv.S b → A b ∧ ¬ X.M b ∧ b < w.heap.size :=
  ⟨GInv.stable X.w0 w (fun b hb => h.kept.block b (h.gi.2 b hb).2.2 (h.gi.2 b hb).2.1) h.gi.1, fun b hb => ⟨h.up b (h.gi.2 b hb).1, (h.gi.2 b hb).2.1, Nat.lt_of_lt_of_le (h.gi.2 b hb).2.2 h.kept.size⟩⟩
theorem Inv.old (h : Inv X st a w A W V) {b : Nat} (hb : A b ∨ ∃ j, st.kb.has j = true ∧ W j = some (.box b, [b])) : b < w.heap.size := by
  rcases hb with hb | ⟨j, _, e⟩
  · exact h.rep.ltA b hb
  · exact (h.rep.own j _ _ e b (by simp)).1
theorem Inv.newM (h : Inv X st a w A W V) {b : Nat} (hb : w.heap.size ≤ b) : X.M b := h.new b (Nat.le_trans h.kept.size hb)
end

end Go.Proofs.Fw
