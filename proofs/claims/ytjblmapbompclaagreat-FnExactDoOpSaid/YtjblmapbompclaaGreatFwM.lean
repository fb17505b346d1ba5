/- Structs and slice literals built out of parts. -/
import Derived.Test.YtjblmapbompclaaGreatFwL
import Derived.Great.BuildSlice
set_option linter.all false
namespace Go.Proofs.Fw
open Go

section
variable [GInv] {R : Type} {P : Program} {c : Cfg} {X : Ctx} {st : St} {a : Act} {w : World} {A : Nat → Prop} {W : Wit} {V : Nat → Value} {o : Oper} {k : St → Option R} {r : R} {Q : Exit → Act → World → Prop}
theorem fold_set : ∀ (us : List Value) (n off : Nat) (cells : Array Value), ((us.zipIdx n).foldl (fun cs (x : Value × Nat) => cs.setIfInBounds (off + x.2) x.1) cells).toList = setVs (off + n) us cells.toList
  | [], n, off, cells => by
    have : ∀ (m : Nat) (l : List Value), setVs m [] l = l := by
      intro m
      induction m with
      | zero => intro l; cases l <;> rfl
      | succ m ih => intro l; cases l <;> simp [setVs, ih]
    simp [this]
  | u :: us, n, off, cells => by
    simp only [List.zipIdx_cons, List.foldl_cons]
    rw [fold_set us (n + 1) off]
    simp only [Array.toList_setIfInBounds]
    have : ∀ (m : Nat) (l : List Value), setVs (m + 1) us (l.set m u) = setVs m (u :: us) l := by
      intro m
      induction m with
      | zero => intro l; cases l <;> simp [setVs]
      | succ m ih => intro l; cases l <;> simp [setVs, ih]
    exact this (off + n) cells.toList
theorem fill_cons {place : Nat → Option (Nat × Nat)} {cells : Array Value} {i off : Nat} {v : Value} {rest : List (Nat × Value)} (h1 : place i = some (off, v.cells.size)) (h2 : off + v.cells.size ≤ cells.size) :
    Instr.fill place cells ((i, v) :: rest) = Instr.fill place (setVs off v.cells.toList cells.toList).toArray rest := by
  rw [Instr.fill]
  simp only [h1]
  rw [if_neg (by simp; omega)]
  congr 1
  apply Array.ext'
  have := fold_set v.cells.toList 0 off cells
  simp only [Nat.add_zero] at this
  rw [← this, ← Array.foldl_toList, Array.toList_zipIdx]
theorem places_of {P : Program} : ∀ {gs : List Field} {fs : List (Nat × Nat)}, fieldsAre P gs fs = true → ∃ places, gs.mapM (fun f => (P.info? f.type).map fun i => (f.offset, i.size)) = some places ∧
    ∀ (f off FT : Nat), fs[f]? = some (off, FT) → ∃ i, P.info? FT = some i ∧ places[f]? = some (off, i.size)
  | [], [], _ => ⟨[], rfl, by simp⟩
  | [], _ :: _, h => by simp [fieldsAre] at h
  | _ :: _, [], h => by simp [fieldsAre] at h
  | g :: gs, (o, T) :: fs, h => by
    simp only [fieldsAre, Bool.and_eq_true, beq_iff_eq] at h
    obtain ⟨⟨⟨h1, h2⟩, h3⟩, h4⟩ := h
    obtain ⟨pl, p1, p2⟩ := places_of h4
    cases hi : P.info? g.type with
    | none => rw [hi] at h3; simp at h3
    | some i =>
      refine ⟨(o, i.size) :: pl, by simp [hi, p1, h1], ?_⟩
      intro f off FT e
      cases f with
      | zero =>
        simp only [List.getElem?_cons_zero, Option.some.injEq, Prod.mk.injEq] at e
        obtain ⟨rfl, rfl⟩ := e
        exact ⟨i, by rw [← h2]; exact hi, rfl⟩
      | succ f => simpa using p2 f off FT (by simpa using e)
theorem fillAll_ok (hc : chkAll P c.tab = true) {T : Nat} {places : List (Nat × Nat)}
    (hp : ∀ (f off FT : Nat), fieldOf c T f = some (off, FT) → ∃ i, P.info? FT = some i ∧ places[f]? = some (off, i.size)) :
    ∀ (parts : List (Nat × Operand)) (cs cs' : List AV) (vs : List Value) (st st' : St) (W : Wit), Inv X st a w A W V → RepL A W w cs vs → fillAll c T X.f parts cs st = some (cs', st') →
    ∃ W' vs', Inv X st' a w A W' V ∧ RepL A W' w cs' vs' ∧ Instr.fill (places[·]?) vs.toArray (parts.map fun (i, x) => (i, a.eval x)) = some vs'.toArray
  | [], cs, cs', vs, st, st', W, hi, hr, e => by
    simp only [fillAll, Option.some.injEq, Prod.mk.injEq] at e
    obtain ⟨rfl, rfl⟩ := e
    exact ⟨W, vs, hi, hr, rfl⟩
  | (i, x) :: parts, cs, cs', vs, st, st', W, hi, hr, e => by
    simp only [fillAll] at e
    split at e
    · rename_i off FT hf
      split at e
      · rename_i ag t ht
        obtain ⟨h1, e⟩ := cond_some e
        simp only [Bool.and_eq_true] at h1
        rcases em : matCells t (opnd X.f st x) st with ⟨ms, s1⟩
        rw [em] at e
        obtain ⟨W1, g1, g2, g3, g4, g5, _⟩ := matCells_ok hi (hi.opnd x) h1.1.1 (Nat.eq_of_beq_eq_true h1.1.2) em
        have fa := facts_of hc ht
        obtain ⟨ie, hie, hpl⟩ := hp i off FT hf
        have hsz : ie.size = t.size := by
          have := fa.size default
          rw [run_sizeOf' hie] at this
          exact (Result.ok.inj this).1
        obtain ⟨W2, vs2, q1, q2, q3⟩ := fillAll_ok hc hp parts _ cs' _ s1 st' W1 g1 (setN_rep off g3 (RepL.ext g2 hr)) e
        refine ⟨W2, vs2, q1, q2, ?_⟩
        simp only [List.map_cons]
        rw [fill_cons (off := off) (by rw [hpl, hsz, g5]) (by rw [g5]; have := Nat.le_of_ble_eq_true h1.2; have h2 := RepL.length hr; simp; omega)]
        exact q3
      · cases e
    · cases e
theorem op_build (hc : chkAll P c.tab = true) {T : Nat} {parts : Array (Nat × Operand)} (hd : ∀ d : Nat, o.dst = some d → d < X.f.n) (ho : o.op = .build T parts) (hi : Inv X st a w A W V)
    (hk : (match assoc T c.tab with
    | some (.struct t _) => match zeroMat t st with
      | (cs, st) => match fillAll c T X.f parts.toList cs st with
        | some (cs, st) => k (st.put X.f o.dst (.agg cs))
        | none => none
    | _ => none) = some r) : o.wp P a w (Post X k r) Q := by
  split at hk
  · rename_i t fs ha
    rcases e : zeroMat t st with ⟨cs, st1⟩
    rw [e] at hk
    simp only at hk
    split at hk
    · rename_i cs2 st2 hf
      obtain ⟨it, gs, z, hit, hu, hsz, hz, hzc, hza, hfs, _⟩ := chk_struct (assoc_chk hc ha)
      obtain ⟨W1, g1, g2, g3, g4⟩ := zeroMat_ok hi t hzc e
      obtain ⟨places, p1, p2⟩ := places_of hfs
      have hp : ∀ (f off FT : Nat), fieldOf c T f = some (off, FT) → ∃ i, P.info? FT = some i ∧ places[f]? = some (off, i.size) := fun f off FT h => by
        unfold fieldOf at h
        rw [ha] at h
        exact p2 f off FT h
      obtain ⟨W2, vs2, q1, q2, q3⟩ := fillAll_ok hc hp parts.toList cs cs2 _ st1 st2 W1 g1 g3 hf
      refine wp_value hd (v := .agg vs2.toArray) ?_ q1 (by simp only [RepAV]; exact ⟨vs2, rfl, q2⟩) hk
      have hb : P.built T (parts.map fun (i, x) => (i, a.eval x)).toList = some vs2.toArray := by
        simp only [Program.built, hit, hu, hz, p1]
        have : z.cells.toList.toArray = z.cells := by simp
        rw [this] at q3
        rw [Array.toList_map]
        simpa using q3
      simp only [execOp, ho, Sem.run_bind, run_build w T _ _ hb, Result.andThen_ok, Sem.run_pure]
    · cases hk
  · cases hk

end
end Go.Proofs.Fw
