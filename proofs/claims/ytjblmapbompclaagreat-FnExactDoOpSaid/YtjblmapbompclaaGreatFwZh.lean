/- From a law's contract to the row that says it. -/
import Derived.Test.YtjblmapbompclaaGreatFwZg
import Derived.ProofKit
import Derived.OpenShut
import Derived.WideKeyArgs
set_option linter.all false
namespace Go.Proofs.Fw
open Go Go.ChangeShapes Go.WideShapes Go.ChangeAt Go.RowKit
variable [GInv]
def WfD : (t : Ty) → t.den → Prop
  | .int k, n => k.min ≤ n ∧ n ≤ k.max
  | .str, l => l.length ≤ Go.maxLen
  | .sl t, xs => xs.length ≤ Go.maxLen ∧ ∀ x ∈ xs, WfD t x
  | .pair a b, x => WfD a x.1 ∧ WfD b x.2
  | _, _ => True
def fldsIs (f : TypeId → Ty → Bool) (cs : TypeId → Nat) : List Field → Nat → Ty → Bool
  | [g], off, t => f g.type t && g.offset == off && cs g.type == t.size
  | g :: g' :: r, off, .pair a b => f g.type a && g.offset == off && cs g.type == a.size && fldsIs f cs (g' :: r) (off + a.size) b
  | _, _, _ => false
def tyIs (P : Program) : Nat → TypeId → Ty → Bool
  | 0, _, _ => false
  | n + 1, T, t => match P.underlying T, t with
    | some .bool, .bool => true
    | some (.int k), .int k' => decide (k = k')
    | some .string, .str => true
    | some (.slice e), .sl t' => tyIs P n e t' && P.cellsOf e == t'.size && !(t'.size == 0)
    | some (.struct fs), t => fldsIs (tyIs P n) P.cellsOf fs.toList 0 t && P.cellsOf T == t.size
    | _, _ => false
def isStruct (P : Program) (T : TypeId) : Bool := match P.underlying T with | some (.struct _) => true | _ => false

section
variable {H : Type} {enc : TypeId × Value → H} {P : Program} {w : World}
def Fits (w : World) (t : Ty) (cs : List Value) (ps : List MemPlace) : Prop := ∃ (x : t.den) (S : List Nat), Rd w t x S cs ∧ (∀ b ∈ S, ∃ off, MemPlace.cell b off ∈ ps) ∧ WfD t x
theorem flds_rd {f : TypeId → Ty → Bool} {tr : TypeId → List Value → Option (DataW H × List MemPlace)} {cz : TypeId → Nat}
    (ih : ∀ T t cs d ps, f T t = true → tr T cs = some (d, ps) → Fits w t cs ps) :
    ∀ (fs : List Field) (off : Nat) (t : Ty) (cs : List Value) (ys : List (DataW H × List MemPlace)), fldsIs f cz fs off t = true → cs.length = off + t.size →
      (fs.mapM fun g => tr g.type ((cs.drop g.offset).take (cz g.type))) = some ys → Fits w t (cs.drop off) (ys.flatMap (·.2))
  | [], _, _, _, _, h, _, _ => by simp [fldsIs] at h
  | [g], off, t, cs, ys, h, hl, hm => by
    simp only [fldsIs, Bool.and_eq_true, beq_iff_eq] at h
    obtain ⟨⟨h1, h2⟩, h3⟩ := h
    simp only [List.mapM_cons, List.mapM_nil, Option.pure_def, Option.bind_eq_bind] at hm
    cases e : tr g.type ((cs.drop g.offset).take (cz g.type)) with
    | none => rw [e] at hm; simp at hm
    | some y =>
      rw [e] at hm
      simp only [Option.bind_some, Option.some.injEq] at hm
      subst hm
      rw [h2, h3] at e
      rw [List.take_of_length_le (by simp; omega)] at e
      obtain ⟨x, S, q1, q2, q3⟩ := ih _ _ _ _ _ h1 e
      exact ⟨x, S, q1, by simpa using q2, q3⟩
  | g :: g' :: r, off, t, cs, ys, h, hl, hm => by
    cases t with
    | pair a b =>
      simp only [fldsIs, Bool.and_eq_true, beq_iff_eq] at h
      obtain ⟨⟨⟨h1, h2⟩, h3⟩, h4⟩ := h
      rw [List.mapM_cons] at hm
      simp only [Option.pure_def, Option.bind_eq_bind] at hm
      cases e : tr g.type ((cs.drop g.offset).take (cz g.type)) with
      | none => rw [e] at hm; simp at hm
      | some y =>
        rw [e] at hm
        simp only [Option.bind_some] at hm
        cases e2 : (g' :: r).mapM (fun g => tr g.type ((cs.drop g.offset).take (cz g.type))) with
        | none => rw [e2] at hm; simp at hm
        | some ys' =>
          rw [e2] at hm
          simp only [Option.bind_some, Option.some.injEq] at hm
          subst hm
          simp only [Ty.size] at hl
          obtain ⟨x2, S2, q1, q2, q3⟩ := flds_rd ih (g' :: r) (off + a.size) b cs ys' h4 (by omega) e2
          rw [h2, h3] at e
          obtain ⟨x1, S1, p1, p2, p3⟩ := ih _ _ _ _ _ h1 e
          refine ⟨(x1, x2), S1 ++ S2, ?_, fun b hb => ?_, p3, q3⟩
          · unfold Rd
            refine ⟨S1, S2, _, _, rfl, ?_, p1, q1⟩
            have := List.take_append_drop a.size (cs.drop off)
            rw [List.drop_drop] at this
            exact this.symm
          · rcases List.mem_append.1 hb with h | h
            · obtain ⟨o, h⟩ := p2 b h; exact ⟨o, by simp [h]⟩
            · obtain ⟨o, h⟩ := q2 b h; exact ⟨o, by simp only [List.flatMap_cons, List.mem_append]; exact .inr h⟩
    | _ => simp [fldsIs] at h
theorem rows_rd {t : Ty} {b off : Nat} {ps : List MemPlace} : ∀ (len k : Nat), (∀ i, k ≤ i → i < k + len → ∃ cs : List Value, cs.length = t.size ∧ (∀ j, j < t.size → w.cell? ⟨b, off + i * t.size + j, none⟩ = cs[j]?) ∧ Fits w t cs ps) →
    ∃ (xs : List t.den) (S : List Nat), RdRow (Rd w t) w b t.size (off + k * t.size) xs S ∧ xs.length = len ∧ (∀ c ∈ S, ∃ o, MemPlace.cell c o ∈ ps) ∧ ∀ x ∈ xs, WfD t x
  | 0, k, _ => ⟨[], [], rfl, rfl, by simp, by simp⟩
  | len + 1, k, h => by
    obtain ⟨cs, h1, h2, x, S, h3, h4, h5⟩ := h k (Nat.le_refl _) (by omega)
    obtain ⟨xs, S2, g1, g2, g3, g4⟩ := rows_rd len (k + 1) (fun i hi hi2 => h i (by omega) (by omega))
    rw [Nat.add_mul, Nat.one_mul, ← Nat.add_assoc] at g1
    refine ⟨x :: xs, S ++ S2, ⟨S, S2, cs, rfl, h1, fun j hj => ?_, h3, g1⟩, by simp [g2], fun c hc => ?_, fun y hy => ?_⟩
    · rw [h2 j (by omega), List.getElem?_eq_getElem hj]
    · rcases List.mem_append.1 hc with h | h
      · exact h4 c h
      · exact g3 c h
    · rcases List.mem_cons.1 hy with rfl | hy
      · exact h5
      · exact g4 y hy
theorem trod_bool {fuel : Nat} {T : TypeId} {cs : List Value} {x : DataW H × List MemPlace} (hu : P.underlying T = some .bool) (h : DataW.trod enc P w 0 (fun _ => true) true (fuel + 1) T cs = some x) : ∃ b, cs = [.bool b] := by
  unfold DataW.trod at h
  rw [hu] at h
  cases cs with
  | nil => cases h
  | cons v r =>
    cases r with
    | nil => cases v <;> first | exact ⟨_, rfl⟩ | cases h
    | cons _ _ => cases v <;> cases h
theorem trod_int {fuel : Nat} {T : TypeId} {k : IntKind} {cs : List Value} {x : DataW H × List MemPlace} (hu : P.underlying T = some (.int k)) (h : DataW.trod enc P w 0 (fun _ => true) true (fuel + 1) T cs = some x) : ∃ n, cs = [.int k n] ∧ (Lit.int k n).wf = true := by
  unfold DataW.trod at h
  rw [hu] at h
  cases cs with
  | nil => cases h
  | cons v r =>
    cases r with
    | nil =>
      cases v with
      | int k' n =>
        have h : (if k' = k ∧ (Lit.int k n).wf = true then some (.lit (.int k n), []) else none) = some x := h
        split at h
        · rename_i h1; obtain ⟨rfl, h1⟩ := h1; exact ⟨n, rfl, h1⟩
        · cases h
      | _ => cases h
    | cons _ _ => cases v <;> cases h
theorem trod_string {fuel : Nat} {T : TypeId} {cs : List Value} {x : DataW H × List MemPlace} (hu : P.underlying T = some .string) (h : DataW.trod enc P w 0 (fun _ => true) true (fuel + 1) T cs = some x) : ∃ s, cs = [.string s] ∧ s.size ≤ Go.maxLen := by
  unfold DataW.trod at h
  rw [hu] at h
  cases cs with
  | nil => cases h
  | cons v r =>
    cases r with
    | nil =>
      cases v with
      | string s =>
        have h : (if s.size ≤ Go.maxLen then some (.lit (.string s.data.toList), []) else none) = some x := h
        split at h
        · rename_i h1; exact ⟨s, rfl, h1⟩
        · cases h
      | _ => cases h
    | cons _ _ => cases v <;> cases h
theorem trod_slice {fuel : Nat} {T e : TypeId} {cs : List Value} {x : DataW H × List MemPlace} (hu : P.underlying T = some (.slice e)) (h : DataW.trod enc P w 0 (fun _ => true) true (fuel + 1) T cs = some x) :
    cs = [.slice none 0 0] ∨ ∃ a len cap elems rest, cs = [.slice (some a) len cap] ∧ len ≤ cap ∧ cap ≤ Go.maxLen ∧
      (List.range len).mapM (fun i => (w.cells? 0 (a.add (i * P.cellsOf e)) (P.cellsOf e)).bind (DataW.trod enc P w 0 (fun _ => true) true fuel e)) = some elems ∧
      (List.range (cap - len)).mapM (fun j => (w.cells? 0 (a.add ((len + j) * P.cellsOf e)) (P.cellsOf e)).bind (DataW.trod enc P w 0 (fun _ => true) true fuel e)) = some rest ∧
      x.2 = MemPlace.row a ((elems.length + rest.length) * P.cellsOf e) ++ (elems ++ rest).flatMap (·.2) := by
  unfold DataW.trod at h
  rw [hu] at h
  cases cs with
  | nil => cases h
  | cons v r =>
    cases r with
    | cons _ _ => cases v with
      | slice a n c => cases a <;> cases n <;> cases c <;> cases h
      | _ => cases h
    | nil =>
      cases v with
      | slice a len cap =>
        cases a with
        | none => cases len <;> cases cap <;> first | exact .inl rfl | cases h
        | some a =>
          have h : (if 0 ≤ a.block ∧ len ≤ cap ∧ cap ≤ Go.maxLen then
            ((List.range len).mapM (fun i => (w.cells? 0 (a.add (i * P.cellsOf e)) (P.cellsOf e)).bind (DataW.trod enc P w 0 (fun _ => true) true fuel e))).bind fun elems =>
              (if (fun _ : Nat => true) a.block then (List.range (cap - len)).mapM (fun j => (w.cells? 0 (a.add ((len + j) * P.cellsOf e)) (P.cellsOf e)).bind (DataW.trod enc P w 0 (fun _ => true) true fuel e)) else some []).map fun rest =>
                (DataW.slice (elems.map (·.1)) (rest.map (·.1)), MemPlace.row a ((elems.length + rest.length) * P.cellsOf e) ++ (elems ++ rest).flatMap (·.2))
            else none) = some x := h
          right
          split at h
          · rename_i h1
            cases e1 : (List.range len).mapM (fun i => (w.cells? 0 (a.add (i * P.cellsOf e)) (P.cellsOf e)).bind (DataW.trod enc P w 0 (fun _ => true) true fuel e)) with
            | none => rw [e1] at h; cases h
            | some elems =>
              rw [e1] at h
              cases e2 : (List.range (cap - len)).mapM (fun j => (w.cells? 0 (a.add ((len + j) * P.cellsOf e)) (P.cellsOf e)).bind (DataW.trod enc P w 0 (fun _ => true) true fuel e)) with
              | none => simp only [if_true, Option.bind_some, e2, Option.map_none] at h; cases h
              | some rest =>
                simp only [if_true, Option.bind_some, e2, Option.map_some, Option.some.injEq] at h
                exact ⟨a, len, cap, elems, rest, rfl, h1.2.1, h1.2.2, e1, e2, by rw [← h]⟩
          · cases h
      | _ => cases h
theorem trod_struct {fuel : Nat} {T : TypeId} {fs : Array Field} {cs : List Value} {x : DataW H × List MemPlace} (hu : P.underlying T = some (.struct fs)) (h : DataW.trod enc P w 0 (fun _ => true) true (fuel + 1) T cs = some x) :
    cs.length = P.cellsOf T ∧ ∃ ys, (fs.toList.mapM fun f => DataW.trod enc P w 0 (fun _ => true) true fuel f.type ((cs.drop f.offset).take (P.cellsOf f.type))) = some ys ∧ x.2 = ys.flatMap (·.2) := by
  unfold DataW.trod at h
  rw [hu] at h
  have h : (if cs.length = P.cellsOf T then (fs.toList.mapM fun f => DataW.trod enc P w 0 (fun _ => true) true fuel f.type ((cs.drop f.offset).take (P.cellsOf f.type))).map (fun xs => (DataW.agg (xs.map (·.1)), xs.flatMap (·.2))) else none) = some x := by
    cases cs with
    | nil => exact h
    | cons v r => cases r <;> cases v <;> exact h
  split at h
  · rename_i hl
    refine ⟨hl, ?_⟩
    cases e : (fs.toList.mapM fun f => DataW.trod enc P w 0 (fun _ => true) true fuel f.type ((cs.drop f.offset).take (P.cellsOf f.type))) with
    | none => rw [e] at h; cases h
    | some ys =>
      rw [e] at h
      simp only [Option.map_some, Option.some.injEq] at h
      exact ⟨ys, rfl, by rw [← h]⟩
  · cases h
theorem trod_rd : ∀ (n fuel : Nat) (T : TypeId) (t : Ty) (cs : List Value) (d : DataW H) (ps : List MemPlace), tyIs P n T t = true → DataW.trod enc P w 0 (fun _ => true) true fuel T cs = some (d, ps) → Fits w t cs ps
  | 0, _, _, _, _, _, _, h, _ => by simp [tyIs] at h
  | n + 1, 0, _, _, _, _, _, _, h => by simp [DataW.trod] at h
  | n + 1, fuel + 1, T, t, cs, d, ps, h, hd => by
    unfold tyIs at h
    cases hu : P.underlying T with
    | none => rw [hu] at h; simp at h
    | some u =>
      rw [hu] at h
      cases u with
      | bool =>
        cases t <;> simp only [reduceCtorEq, Bool.false_eq_true] at h
        obtain ⟨b, rfl⟩ := trod_bool hu hd
        exact ⟨b, [], by unfold Rd; exact ⟨rfl, rfl⟩, by simp, trivial⟩
      | int k =>
        cases t <;> simp only [reduceCtorEq, Bool.false_eq_true, decide_eq_true_eq] at h
        subst h
        obtain ⟨z, rfl, hw⟩ := trod_int hu hd
        simp only [Lit.wf, Bool.and_eq_true, decide_eq_true_eq] at hw
        exact ⟨z, [], by unfold Rd; exact ⟨rfl, rfl⟩, by simp, hw⟩
      | string =>
        cases t <;> simp only [reduceCtorEq, Bool.false_eq_true] at h
        obtain ⟨s, rfl, hs⟩ := trod_string hu hd
        refine ⟨s.data.toList, [], by unfold Rd; exact ⟨rfl, by simp⟩, by simp, ?_⟩
        show s.data.toList.length ≤ Go.maxLen
        rw [Array.length_toList]
        exact hs
      | slice e =>
        cases t <;> simp only [reduceCtorEq, Bool.false_eq_true, Bool.and_eq_true, beq_iff_eq, Bool.not_eq_true', beq_eq_false_iff_ne] at h
        rename_i t'
        obtain ⟨⟨h1, h2⟩, h3⟩ := h
        rcases trod_slice hu hd with rfl | ⟨a, len, cap, elems, rest, rfl, hle, hcap, e1, e2, e3⟩
        · exact ⟨[], [], by unfold Rd; exact .inl ⟨rfl, rfl, none, rfl⟩, by simp, by unfold WfD; exact ⟨by simp, by simp⟩⟩
        · simp only at e3
          have l1 := mapM_some_length e1
          have l2 := mapM_some_length e2
          simp only [List.length_range] at l1 l2
          by_cases hc0 : cap = 0
          · have hl0 : len = 0 := by omega
            subst hc0 hl0
            exact ⟨[], [], by unfold Rd; exact .inl ⟨rfl, rfl, some a, rfl⟩, by simp, by unfold WfD; exact ⟨by simp, by simp⟩⟩
          · -- each element's cells
            have each : ∀ i, i < cap → ∃ cs : List Value, w.cells? 0 (a.add (i * P.cellsOf e)) (P.cellsOf e) = some cs ∧ ∃ y, DataW.trod enc P w 0 (fun _ => true) true fuel e cs = some y ∧ y ∈ elems ++ rest := fun i hi => by
              by_cases hlt : i < len
              · have := mapM_some_get e1 i i (by simp [hlt])
                cases ec : w.cells? 0 (a.add (i * P.cellsOf e)) (P.cellsOf e) with
                | none => rw [ec] at this; rw [List.getElem?_eq_getElem (by omega)] at this; cases this
                | some cs =>
                  rw [ec] at this
                  rw [List.getElem?_eq_getElem (by omega)] at this
                  exact ⟨cs, rfl, _, this, List.mem_append_left _ (List.getElem_mem _)⟩
              · have := mapM_some_get e2 (i - len) (i - len) (List.getElem?_range (by omega))
                simp only [show len + (i - len) = i by omega] at this
                cases ec : w.cells? 0 (a.add (i * P.cellsOf e)) (P.cellsOf e) with
                | none => rw [ec] at this; rw [List.getElem?_eq_getElem (by omega)] at this; cases this
                | some cs =>
                  rw [ec] at this
                  rw [List.getElem?_eq_getElem (by omega)] at this
                  exact ⟨cs, rfl, _, this, List.mem_append_right _ (List.getElem_mem _)⟩
            have hsp : a.spot = none := by
              obtain ⟨cs, q1, _⟩ := each 0 (by omega)
              obtain ⟨_, q2, q3⟩ := World.cells?_some q1
              have := q3 0 (by omega)
              rw [List.getElem?_eq_getElem (by omega)] at this
              have := World.cell?_spot this
              simpa [Addr.add] using this
            obtain ⟨b, off, sp⟩ := a
            simp only at hsp
            subst hsp
            have ih := trod_rd n fuel e t'
            obtain ⟨xs, S, r1, r2, r3, r4⟩ := rows_rd (w := w) (t := t') (b := b) (off := off) (ps := ps) len 0 (fun i _ hi => by
              obtain ⟨cs, q1, y, q2, q3⟩ := each i (by omega)
              obtain ⟨_, q4, q5⟩ := World.cells?_some q1
              rw [h2] at q4 q5
              refine ⟨cs, q4, fun j hj => ?_, ?_⟩
              · have := q5 j hj
                rw [add_mk, add_mk] at this
                exact this
              · obtain ⟨x, S, p1, p2, p3⟩ := ih cs y.1 y.2 h1 q2
                refine ⟨x, S, p1, fun c hc => ?_, p3⟩
                obtain ⟨o, ho⟩ := p2 c hc
                exact ⟨o, by rw [e3]; exact List.mem_append_right _ (List.mem_flatMap.2 ⟨y, q3, ho⟩)⟩)
            rw [Nat.zero_mul, Nat.add_zero] at r1
            subst r2
            refine ⟨xs, b :: S, by unfold Rd; exact .inr ⟨b, off, cap, S, rfl, rfl, hle, r1⟩, fun c hc => ?_, by unfold WfD; exact ⟨by omega, r4⟩⟩
            rcases List.mem_cons.1 hc with rfl | hc
            · refine ⟨off, ?_⟩
              rw [e3]
              refine List.mem_append_left _ ?_
              simp only [MemPlace.row, List.mem_map, List.mem_range]
              refine ⟨0, ?_, by simp⟩
              rw [l1, l2, h2]
              exact Nat.mul_pos (by omega) (by omega)
            · exact r3 c hc
      | struct fs =>
        have h : (fldsIs (tyIs P n) P.cellsOf fs.toList 0 t && P.cellsOf T == t.size) = true := by
          cases t <;> exact h
        simp only [Bool.and_eq_true, beq_iff_eq] at h
        obtain ⟨hl, ys, e1, e2⟩ := trod_struct hu hd
        simp only at e2
        have := flds_rd (tr := DataW.trod enc P w 0 (fun _ => true) true fuel) (cz := P.cellsOf) (fun T t cs d ps h h' => trod_rd n fuel T t cs d ps h h') fs.toList 0 t cs ys h.1 (by rw [hl, h.2]; omega) e1
        rw [e2]
        simpa using this
      | _ => cases t <;> simp at h
end
end Go.Proofs.Fw
