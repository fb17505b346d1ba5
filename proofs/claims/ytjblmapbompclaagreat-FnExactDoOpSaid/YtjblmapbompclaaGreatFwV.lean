/- A state brought into a shape. -/
import Derived.Test.YtjblmapbompclaaGreatFwU
set_option linter.all false
namespace Go.Proofs.Fw
open Go
def renW (l0 : Nat) (ρ : List (Nat × Nat)) (W : Wit) : Wit := fun j => if j < l0 then W j else match assoc j ρ with | some a => W a | none => none

section
variable [GInv] {X : Ctx} {st : St} {a : Act} {w : World} {A : Nat → Prop} {W : Wit} {V : Nat → Value} {l0 : Nat} {ρ : List (Nat × Nat)}
theorem assoc_mem {α : Type} {i : Nat} {x : α} : ∀ {l : List (Nat × α)}, assoc i l = some x → (i, x) ∈ l
  | [], h => by simp [assoc] at h
  | (j, y) :: r, h => by
    simp only [assoc] at h
    cases e : Nat.beq j i
    · rw [e] at h; exact List.mem_cons_of_mem _ (assoc_mem (by simpa using h))
    · rw [e] at h
      simp at h
      rw [h, ← Nat.eq_of_beq_eq_true e]; simp
theorem okPair_spec {i a : Nat} : ∀ {r : List (Nat × Nat)}, okPair i a r = true → ∀ q ∈ r, (i = q.1 ↔ a = q.2)
  | [], _ => by simp
  | q :: r, h => by
    simp only [okPair, Bool.and_eq_true, beq_iff_eq] at h
    intro q' hq
    rcases List.mem_cons.1 hq with rfl | hq
    · have := h.1
      rw [Bool.eq_iff_iff] at this
      simpa using this
    · exact okPair_spec h.2 q' hq
theorem okPairs_spec {nl : Nat} : ∀ {ρ : List (Nat × Nat)}, okPairs l0 nl ρ = true → (∀ q ∈ ρ, (q.1 = q.2 ∨ (l0 ≤ q.1 ∧ l0 ≤ q.2)) ∧ q.1 < nl) ∧ ∀ q ∈ ρ, ∀ q' ∈ ρ, (q.1 = q'.1 ↔ q.2 = q'.2)
  | [], _ => by simp
  | q :: r, h => by
    simp only [okPairs, Bool.and_eq_true, Bool.or_eq_true] at h
    obtain ⟨⟨⟨h1, h2⟩, h3⟩, h4⟩ := h
    obtain ⟨g1, g2⟩ := okPairs_spec h4
    have hp := okPair_spec h3
    refine ⟨fun q' hq => ?_, fun q1 hq1 q2 hq2 => ?_⟩
    · rcases List.mem_cons.1 hq with rfl | hq
      · exact ⟨h1.imp (fun h => Nat.eq_of_beq_eq_true h) (fun h => ⟨Nat.le_of_ble_eq_true h.1, Nat.le_of_ble_eq_true h.2⟩), Nat.le_of_ble_eq_true h2⟩
      · exact g1 q' hq
    · rcases List.mem_cons.1 hq1 with e1 | m1 <;> rcases List.mem_cons.1 hq2 with e2 | m2
      · subst e1; subst e2; simp
      · subst e1; exact okPair_spec h3 q2 m2
      · subst e2
        have := okPair_spec h3 q1 m1
        exact ⟨fun h => (this.1 h.symm).symm, fun h => (this.2 h.symm).symm⟩
      · exact g2 q1 m1 q2 m2
theorem renW_at {nl : Nat} (ho : okPairs l0 nl ρ = true) {i a : Nat} (h : assoc i ρ = some a) : renW l0 ρ W i = W a := by
  obtain ⟨g1, _⟩ := okPairs_spec ho
  have := (g1 _ (assoc_mem h)).1
  unfold renW
  split
  · rename_i hlt
    rcases this with e | ⟨e, _⟩
    · simp only at e; rw [e]
    · simp only at e; omega
  · rw [h]
theorem isAt_spec {i a : Nat} (h : isAt ρ i a = true) : assoc i ρ = some a := by
  unfold isAt at h
  split at h
  · rename_i b e; rw [e, Nat.eq_of_beq_eq_true h]
  · cases h
theorem aggOf_spec {v : AV} {vs : List AV} (h : aggOf v = some vs) : v = .agg vs := by cases v <;> simp_all [aggOf]
theorem tupOf_spec {v : AV} {vs : List AV} (h : tupOf v = some vs) : v = .tup vs := by cases v <;> simp_all [tupOf]
theorem fnOf_spec {g : Nat} {v : AV} {vs : List AV} (h : fnOf g v = some vs) : v = .fn g vs := by
  unfold fnOf at h
  split at h
  · obtain ⟨h1, h⟩ := cond_some h
    rw [Nat.eq_of_beq_eq_true h1]
    simp at h; rw [h]
  · cases h
theorem fitD_spec {t r : Ty} {v : AV} {q : r.den} {p : t.den × r.den} (h : fitD t v q = some p) : v = .d t p.1 ∧ p.2 = q := by
  unfold fitD at h
  split at h
  · rename_i t' x
    cases hc : castTy t' t x with
    | none => rw [hc] at h; simp at h
    | some y =>
      rw [hc] at h
      simp only [Option.some.injEq] at h
      subst h
      obtain ⟨rfl, _⟩ := castTy_eq hc
      have := castTy_self hc
      subst this
      exact ⟨rfl, rfl⟩
  · cases h
theorem fitDref_spec {t r : Ty} {off : Nat} {v : AV} {q : r.den} {p : t.den × r.den} (h : fitDref t off v q = some p) : v = .dref t p.1 off ∧ p.2 = q := by
  unfold fitDref at h
  split at h
  · rename_i t' x off'
    obtain ⟨h1, h2⟩ := cond_some h
    clear h
    have h := h2
    clear h2
    have e := Nat.eq_of_beq_eq_true h1
    clear h1
    subst e
    cases hc : castTy t' t x with
    | none => rw [hc] at h; simp at h
    | some y =>
      rw [hc] at h
      simp only [Option.some.injEq] at h
      subst h
      obtain ⟨rfl, _⟩ := castTy_eq hc
      have := castTy_self hc
      subst this
      exact ⟨rfl, rfl⟩
  · cases h
theorem fitEref_spec {r : Ty} {id off : Nat} {v : AV} {q : r.den} {p : Int × r.den} (h : fitEref ρ id off v q = some p) : ∃ id' i, v = .eref id' i off ∧ assoc id ρ = some id' ∧ p = ((i : Int), q) := by
  unfold fitEref at h
  split at h
  · rename_i id' i off'
    obtain ⟨h1, h2⟩ := cond_some h
    simp only [Bool.and_eq_true] at h1
    have h3 := Nat.eq_of_beq_eq_true h1.2
    subst h3
    exact ⟨id', i, rfl, isAt_spec h1.1, (Option.some.inj h2).symm⟩
  · cases h

mutual
theorem Sh.fit_ok {nl : Nat} (ho : okPairs l0 nl ρ = true) : ∀ (s : Sh) (v : AV) (r : Ty) (q : r.den) (p : (s.ty r).den), s.fit ρ v r q = some p →
    ∃ av, s.build r p = (av, q) ∧ (v = .any → av = .any) ∧ ∀ u, RepAV A W w v u → RepAV A (renW l0 ρ W) w av u
  | .d t, v, r, q, p, h => by
    simp only [Sh.fit] at h
    obtain ⟨rfl, e⟩ := fitD_spec h
    exact ⟨.d t p.1, by simp only [Sh.build]; rw [e], (fun e => by cases e), fun u hu => by simpa only [RepAV] using hu⟩
  | .nils, v, r, q, p, h => by
    simp only [Sh.fit] at h
    obtain ⟨hv, h⟩ := cond_some h
    have hv : v = .nils := by cases v <;> simp_all [isNils]
    subst hv
    have h : q = p := Option.some.inj h
    subst h
    exact ⟨.nils, by simp only [Sh.build], (fun e => by cases e), fun u hu => by simpa only [RepAV] using hu⟩
  | .agg cs, v, r, q, p, h => by
    simp only [Sh.fit] at h
    cases hv : aggOf v with
    | none => rw [hv] at h; simp at h
    | some vs =>
      rw [hv] at h
      obtain ⟨avs, h1, h2⟩ := fitL_ok ho cs vs r q p h
      rw [aggOf_spec hv]
      refine ⟨.agg avs, by simp only [Sh.build]; rw [h1], (fun e => by cases e), fun u hu => ?_⟩
      simp only [RepAV] at hu ⊢
      obtain ⟨us, e, hu⟩ := hu
      exact ⟨us, e, h2 us hu⟩
  | .tup cs, v, r, q, p, h => by
    simp only [Sh.fit] at h
    cases hv : tupOf v with
    | none => rw [hv] at h; simp at h
    | some vs =>
      rw [hv] at h
      obtain ⟨avs, h1, h2⟩ := fitL_ok ho cs vs r q p h
      rw [tupOf_spec hv]
      refine ⟨.tup avs, by simp only [Sh.build]; rw [h1], (fun e => by cases e), fun u hu => ?_⟩
      simp only [RepAV] at hu ⊢
      obtain ⟨us, e, hu⟩ := hu
      exact ⟨us, e, h2 us hu⟩
  | .fn g cs, v, r, q, p, h => by
    simp only [Sh.fit] at h
    cases hv : fnOf g v with
    | none => rw [hv] at h; simp at h
    | some vs =>
      rw [hv] at h
      obtain ⟨avs, h1, h2⟩ := fitL_ok ho cs vs r q p h
      rw [fnOf_spec hv]
      refine ⟨.fn g avs, by simp only [Sh.build]; rw [h1], (fun e => by cases e), fun u hu => ?_⟩
      simp only [RepAV] at hu ⊢
      obtain ⟨us, e, hu⟩ := hu
      exact ⟨us, e, h2 us hu⟩
  | .ref id off, v, r, q, p, h => by
    simp only [Sh.fit] at h
    obtain ⟨hv, h⟩ := cond_some h
    have h : q = p := Option.some.inj h
    subst h
    refine ⟨.ref id off, by simp only [Sh.build], (fun e => by subst e; simp [isRef] at hv), fun u hu => ?_⟩
    unfold isRef at hv
    split at hv
    · simp only [Bool.and_eq_true] at hv
      have e2 := Nat.eq_of_beq_eq_true hv.2
      subst e2
      simp only [RepAV] at hu ⊢
      rw [renW_at ho (isAt_spec hv.1)]
      exact hu
    · cases hv
  | .row id, v, r, q, p, h => by
    simp only [Sh.fit] at h
    obtain ⟨hv, h⟩ := cond_some h
    have h : q = p := Option.some.inj h
    subst h
    refine ⟨.row id, by simp only [Sh.build], (fun e => by subst e; simp [isRow] at hv), fun u hu => ?_⟩
    unfold isRow at hv
    split at hv
    · simp only [RepAV] at hu ⊢
      rw [renW_at ho (isAt_spec hv)]
      exact hu
    · cases hv
  | .eref id off, v, r, q, p, h => by
    simp only [Sh.fit] at h
    obtain ⟨id', i, rfl, hat, rfl⟩ := fitEref_spec h
    refine ⟨.eref id i off, by simp [Sh.build], (fun e => by cases e), fun u hu => ?_⟩
    simp only [RepAV] at hu ⊢
    rw [renW_at ho hat]
    exact hu
  | .dref t off, v, r, q, p, h => by
    simp only [Sh.fit] at h
    obtain ⟨rfl, e⟩ := fitDref_spec h
    exact ⟨.dref t p.1 off, by simp only [Sh.build]; rw [e], (fun e => by cases e), fun u hu => by simpa only [RepAV] using hu⟩
  | .any, v, r, q, p, h => by
    simp only [Sh.fit] at h
    have h : q = p := Option.some.inj h
    subst h
    exact ⟨.any, by simp only [Sh.build], fun _ => rfl, fun u _ => by simp only [RepAV]⟩
theorem fitL_ok {nl : Nat} (ho : okPairs l0 nl ρ = true) : ∀ (ss : List Sh) (vs : List AV) (r : Ty) (q : r.den) (p : (shTyL ss r).den), fitL ρ ss vs r q = some p →
    ∃ avs, buildL ss r p = (avs, q) ∧ ∀ us, RepL A W w vs us → RepL A (renW l0 ρ W) w avs us
  | [], [], r, q, p, h => by
    simp only [fitL] at h
    have h : q = p := Option.some.inj h
    subst h
    exact ⟨[], rfl, fun us hu => by simpa only [RepL] using hu⟩
  | s :: ss, v :: vs, r, q, p, h => by
    simp only [fitL] at h
    cases hf : fitL ρ ss vs r q with
    | none => rw [hf] at h; simp at h
    | some q' =>
      rw [hf] at h
      obtain ⟨av, h1, _, h2⟩ := Sh.fit_ok ho s v (shTyL ss r) q' p h
      obtain ⟨avs, h3, h4⟩ := fitL_ok ho ss vs r q q' hf
      refine ⟨av :: avs, by simp only [buildL]; rw [h1]; simp only; rw [h3], fun us hu => ?_⟩
      simp only [RepL] at hu ⊢
      obtain ⟨u, us', rfl, g1, g2⟩ := hu
      exact ⟨u, us', rfl, h2 u g1, h4 us' g2⟩
  | [], _ :: _, _, _, _, h | _ :: _, [], _, _, _, h => by simp [fitL] at h
end
theorem fitSlots_ok {nl : Nat} (ho : okPairs l0 nl ρ = true) (tail : List Ev) (ht : ∀ k, look k tail [] = .any) : ∀ (ss : List (Nat × Sh)) (r : Ty) (q : r.den) (p : (slotsTy ss r).den), fitSlots ρ st ss r q = some p →
    ∃ es, buildSlots ss r p = (es, q) ∧ (∀ k, (st.get k = .any → look k (es ++ tail) [] = .any) ∧ ∀ u, RepAV A W w (st.get k) u → RepAV A (renW l0 ρ W) w (look k (es ++ tail) []) u) ∧ ∀ id, lookLoc id (es ++ tail) [] = lookLoc id tail []
  | [], r, q, p, h => by
    simp only [fitSlots] at h
    have h : q = p := Option.some.inj h
    subst h
    exact ⟨[], rfl, fun k => ⟨fun _ => ht k, fun u _ => by rw [List.nil_append, ht]; simp only [RepAV]⟩, fun _ => rfl⟩
  | s :: ss, r, q, p, h => by
    simp only [fitSlots] at h
    cases hf : fitSlots ρ st ss r q with
    | none => rw [hf] at h; simp at h
    | some q' =>
      rw [hf] at h
      obtain ⟨av, h1, h0, h2⟩ := Sh.fit_ok (A := A) (W := W) (w := w) ho s.2 (st.get s.1) (slotsTy ss r) q' p h
      obtain ⟨es, h3, h4, h5⟩ := fitSlots_ok ho tail ht ss r q q' hf
      refine ⟨.slot s.1 av :: es, by simp only [buildSlots]; rw [h1]; simp only; rw [h3], fun k => ?_, fun id => by simp only [List.cons_append, lookLoc]; exact h5 id⟩
      simp only [List.cons_append, look]
      cases e : Nat.beq s.1 k
      · exact h4 k
      · have := Nat.eq_of_beq_eq_true e
        subst this
        simp only [cond, res]
        exact ⟨h0, h2⟩
theorem placeOf_ren {nl : Nat} (ho : okPairs l0 nl ρ = true) {i b : Nat} (h : placeOf l0 ρ i = some b) : renW l0 ρ W i = W b := by
  unfold placeOf at h
  split at h
  · rename_i a e; simp at h; subst h; exact renW_at ho e
  · obtain ⟨h1, h⟩ := cond_some h
    simp at h; subst h
    unfold renW
    have h1 : i < l0 := Nat.le_of_ble_eq_true h1
    rw [if_pos h1]
theorem fitLocs_ok {nl : Nat} (ho : okPairs l0 nl ρ = true) : ∀ (ss : List (Nat × LSh)) (q : (locsTy ss).den), fitLocs l0 ρ st ss = some q →
    (∀ k, look k (buildLocs ss q) [] = .any) ∧ ∀ id l, lookLoc id (buildLocs ss q) [] = some l → ∃ b l', placeOf l0 ρ id = some b ∧ st.loc b = some l' ∧ (LocRep A W w b l' → LocRep A (renW l0 ρ W) w id l)
  | [], q, h => ⟨fun _ => rfl, fun id l e => by simp [buildLocs, lookLoc] at e⟩
  | s :: ss, p, h => by
    simp only [fitLocs] at h
    cases hf : fitLocs l0 ρ st ss with
    | none => rw [hf] at h; simp at h
    | some q =>
      rw [hf] at h
      obtain ⟨h1, h2⟩ := fitLocs_ok ho ss q hf
      have hh : ∃ l, s.2.build (locsTy ss) p = (l, q) ∧ ∃ b l', placeOf l0 ρ s.1 = some b ∧ st.loc b = some l' ∧ (LocRep A W w b l' → LocRep A (renW l0 ρ W) w s.1 l) := by
        obtain ⟨id, sh⟩ := s
        cases sh with
        | box cs =>
          simp only [LSh.fit] at h
          cases hp : placeOf l0 ρ id with
          | none => rw [hp] at h; simp at h
          | some b =>
            rw [hp] at h
            simp only at h
            cases hl : st.loc b with
            | none => rw [hl] at h; cases h
            | some l =>
              rw [hl] at h
              cases l with
              | row _ _ _ => cases h
              | mp _ _ _ => cases h
              | opn _ _ _ _ => cases h
              | box vs =>
                obtain ⟨avs, g1, g2⟩ := fitL_ok (A := A) (W := W) (w := w) ho cs vs (locsTy ss) q p h
                refine ⟨.box avs, by simp only [LSh.build]; rw [g1], b, _, rfl, hl, fun hr => ?_⟩
                obtain ⟨bb, us, k1, k2, k3, k4⟩ := hr
                exact ⟨bb, us, by rw [placeOf_ren ho hp]; exact k1, k2, k3, g2 us k4⟩
        | row t dp =>
          simp only [LSh.fit] at h
          cases hp : placeOf l0 ρ id with
          | none => rw [hp] at h; simp at h
          | some b =>
            rw [hp] at h
            simp only at h
            split at h
            · rename_i t' xs dp' hl
              split at h
              · rename_i hd
                have hd : dp = dp' := by simpa using hd
                subst hd
                cases hc : castTy (.sl t') (.sl t) xs with
                | none => rw [hc] at h; simp at h
                | some y =>
                  rw [hc] at h
                  have h : (y, q) = p := Option.some.inj h
                  subst h
                  obtain ⟨e, _⟩ := castTy_eq hc
                  injection e with e
                  subst e
                  have := castTy_self hc
                  subst this
                  refine ⟨_, rfl, b, _, rfl, hl, fun hr => ?_⟩
                  simp only [LocRep] at hr ⊢
                  rw [placeOf_ren ho hp]
                  exact hr
              · cases h
            · cases h
        | mp dp t =>
          simp only [LSh.fit] at h
          cases hp : placeOf l0 ρ id with
          | none => rw [hp] at h; simp at h
          | some b =>
            rw [hp] at h
            simp only at h
            split at h
            · rename_i dp' t' xs hl
              split at h
              · rename_i hd
                have hd : dp = dp' := by simpa using hd
                subst hd
                cases hc : castTy (.sl (.pair .str t')) (.sl (.pair .str t)) xs with
                | none => rw [hc] at h; simp at h
                | some y =>
                  rw [hc] at h
                  have h : (y, q) = p := Option.some.inj h
                  subst h
                  obtain ⟨e, _⟩ := castTy_eq hc
                  injection e with e
                  injection e with _ e
                  subst e
                  have := castTy_self hc
                  subst this
                  refine ⟨_, rfl, b, _, rfl, hl, fun hr => ?_⟩
                  simp only [LocRep] at hr ⊢
                  rw [placeOf_ren ho hp]
                  exact hr
              · cases h
            · cases h
      obtain ⟨l, e1, b, l', e2, e3, e4⟩ := hh
      refine ⟨fun k => by simp only [buildLocs]; rw [e1]; simp only [look]; exact h1 k, fun id l1 hl1 => ?_⟩
      simp only [buildLocs] at hl1
      rw [e1] at hl1
      simp only [lookLoc] at hl1
      cases e : Nat.beq s.1 id
      · rw [e] at hl1; exact h2 id l1 hl1
      · have := Nat.eq_of_beq_eq_true e
        subst this
        rw [e] at hl1
        have : l1 = l := by
          cases l <;> simp [cond, resL] at hl1 <;> exact hl1.symm
        subst this
        exact ⟨b, l', e2, e3, e4⟩
theorem renW_inj {nl : Nat} (ho : okPairs l0 nl ρ = true) {i j : Nat} {p p' : LW × List Nat} (hij : i ≠ j) (hi : renW l0 ρ W i = some p) (hj : renW l0 ρ W j = some p') : ∃ b b', b ≠ b' ∧ W b = some p ∧ W b' = some p' := by
  obtain ⟨g1, g2⟩ := okPairs_spec ho
  unfold renW at hi hj
  split at hi <;> split at hj
  · exact ⟨i, j, hij, hi, hj⟩
  · rename_i h1 h2
    split at hj
    · rename_i b e
      have hm := assoc_mem e
      refine ⟨i, b, fun e' => ?_, hi, hj⟩
      rcases (g1 _ hm).1 with e2 | ⟨e2, e3⟩ <;> simp only at e2
      · omega
      · simp only at e3; omega
    · cases hj
  · rename_i h1 h2
    split at hi
    · rename_i b e
      have hm := assoc_mem e
      refine ⟨b, j, fun e' => ?_, hi, hj⟩
      rcases (g1 _ hm).1 with e2 | ⟨e2, e3⟩ <;> simp only at e2
      · omega
      · simp only at e3; omega
    · cases hi
  · split at hi
    · rename_i b e
      split at hj
      · rename_i b' e'
        exact ⟨b, b', fun e2 => hij ((g2 _ (assoc_mem e) _ (assoc_mem e')).2 e2), hi, hj⟩
      · cases hj
    · cases hi
theorem renW_some {i : Nat} {p : LW × List Nat} (hi : renW l0 ρ W i = some p) : ∃ b, W b = some p := by
  unfold renW at hi
  split at hi
  · exact ⟨_, hi⟩
  · split at hi
    · exact ⟨_, hi⟩
    · cases hi
theorem keysLt_look (tail : List Ev) (k n : Nat) (hk : n ≤ k) : ∀ (ss : List (Nat × Sh)) (r : Ty) (p : (slotsTy ss r).den), keysLt n ss = true → look k ((buildSlots ss r p).1 ++ tail) [] = look k tail []
  | [], _, _, _ => rfl
  | s :: ss, r, p, h => by
    simp only [keysLt, Bool.and_eq_true] at h
    have hlt : s.1 < n := Nat.le_of_ble_eq_true h.1
    simp only [buildSlots, List.cons_append, look]
    have : Nat.beq s.1 k = false := by
      cases e : Nat.beq s.1 k
      · rfl
      · have := Nat.eq_of_beq_eq_true e; omega
    rw [this]
    exact keysLt_look tail k n hk ss r _ h.2
theorem fit0_ok (hi : Inv X st a w A W V) {s : StSh} {p : s.ty.den} (h : s.fit0 X.f st = some p) : ∃ W', Inv X (s.build p) a w A W' V := by
  unfold StSh.fit0 at h
  generalize locPairs st (slotPairs st s.slots []) s.locs = ρ at h
  simp only at h
  obtain ⟨h1, h⟩ := cond_some h
  simp only [Bool.and_eq_true] at h1
  obtain ⟨⟨⟨⟨ho, hl0⟩, hnb⟩, hkb⟩, hkl⟩ := h1
  have hkl := Nat.le_of_ble_eq_true hkl
  have hl0 := Nat.le_of_ble_eq_true hl0
  obtain ⟨hnb, hks⟩ := hnb
  have hnb := Nat.le_of_ble_eq_true hnb
  have hkb := Lk.same_spec hkb
  cases hf : fitLocs X.f.l0 ρ st s.locs with
  | none => rw [hf] at h; simp at h
  | some q =>
    rw [hf] at h
    obtain ⟨k1, k2⟩ := fitLocs_ok (A := A) (W := W) (w := w) ho s.locs q hf
    obtain ⟨es, e1, e2, e3⟩ := fitSlots_ok (A := A) (W := W) (w := w) ho (buildLocs s.locs q) k1 s.slots (locsTy s.locs) q p h
    have hfr : ∀ k, s.nb ≤ k → look k (es ++ buildLocs s.locs q) [] = .any := fun k hk => by
      have := keysLt_look (buildLocs s.locs q) k s.nb hk s.slots (locsTy s.locs) p hks
      rw [e1] at this
      rw [this]; exact k1 k
    have hb : s.build p = { log := es ++ buildLocs s.locs q, nl := s.nl, nb := s.nb, kb := s.kb } := by
      unfold StSh.build
      rw [e1]
    have hr := hi.rep
    obtain ⟨g1, _⟩ := okPairs_spec ho
    rw [hb]
    refine ⟨renW X.f.l0 ρ W, ⟨⟨hr.ltA, ?_, ?_, ?_, ?_, fun k => (e2 k).2 _ (hr.slots k), ?_, fun k hk => hfr k hk⟩, hi.size, hi.defers, hi.cur, hi.outer, hnb, hi.kept, hi.up, hi.down, fun j b F e => ?_, hi.new, fun b hC => ?_, hi.same, hi.z, hi.gi⟩⟩
    · intro i lw F e
      obtain ⟨b, e⟩ := renW_some e
      exact hr.nodup _ _ _ e
    · intro i lw F e
      obtain ⟨b, e⟩ := renW_some e
      exact hr.own _ _ _ e
    · intro i j lw F lw' F' hij ei ej
      obtain ⟨b, b', hb, e1, e2⟩ := renW_inj ho hij ei ej
      exact hr.apart b b' _ _ _ _ hb e1 e2
    · intro i hni
      unfold renW
      have hni : s.nl ≤ i := hni
      rw [if_neg (by omega)]
      split
      · rename_i b e
        have := (g1 _ (assoc_mem e)).2
        simp only at this
        omega
      · rfl
    · intro i l p' hp hl
      have hl : lookLoc i (es ++ buildLocs s.locs q) [] = some l := hl
      rw [e3] at hl
      obtain ⟨b, l', m1, m2, m3⟩ := k2 i l hl
      refine m3 (hr.locs b l' p' ?_ m2)
      rw [placeOf_ren ho m1] at hp
      exact hp
    · have hlt := hi.z j _ e
      unfold renW
      rw [if_pos hlt]
      exact hi.box j b F e
    · rcases hi.keep b hC with h | ⟨j, hj, e⟩
      · exact .inl h
      · rw [hkb] at hj
        refine .inr ⟨j, hj, ?_⟩
        unfold renW
        rw [if_pos (Nat.lt_of_lt_of_le (Lk.has_lt hj) hkl)]
        exact e
theorem fit_ok (hi : Inv X st a w A W V) {s : StSh} {p : s.ty.den} (h : s.fit X.f st = some p) : ∃ W', Inv X (s.build p) a w A W' V := by
  obtain ⟨W1, h1⟩ := settle_ok hi
  exact fit0_ok h1 h

end
end Go.Proofs.Fw
