/- A call under a contract. -/
import Derived.Test.YtilfjfappnpfoaaDoorFwZa
set_option linter.all false
namespace Go.Proofs.Fw
open Go

section
variable [GInv] {R : Type} {P : Program} {c : Cfg} {X : Ctx} {st : St} {a : Act} {w w' : World} {A A' : Nat → Prop} {W : Wit} {V : Nat → Value} {r : R} {M : Nat → Prop}

/-- another world, in which some places hold something else -/
theorem Rep.upd (h : Rep st w M A W V) {st' : St} (hget : ∀ k, st'.get k = st.get k) (hnl : st'.nl = st.nl) (hnb : st'.nb = st.nb) (hsz : w.heap.size ≤ w'.heap.size) (hA : ∀ b, A b → w'.heap[b]? = w.heap[b]?)
    (hA1 : ∀ b, A b → A' b) (hA2 : ∀ b, A' b → b < w'.heap.size) (hA3 : ∀ id lw F, W id = some (lw, F) → ∀ b ∈ F, ¬ A' b)
    (hl : ∀ id l p, W id = some p → st'.loc id = some l → (st.loc id = some l ∧ ∀ b ∈ p.2, w'.heap[b]? = w.heap[b]?) ∨ LocRep A' W w' id l) : Rep st' w' M A' W V := by
  refine ⟨hA2, h.nodup, fun id lw F e b hb => ?_, h.apart, fun id hid => h.fresh id (by rw [← hnl]; exact hid), fun k => ?_, fun id l p hp hl' => ?_, fun k hk => by rw [hget]; exact h.freshb k (by rw [← hnb]; exact hk)⟩
  · obtain ⟨h1, h2, _⟩ := h.own id lw F e b hb
    exact ⟨by omega, h2, hA3 id lw F e b hb⟩
  · rw [hget]
    exact RepAV.mono hA1 hA (fun id lw F e => ⟨F, e⟩) _ _ (h.slots k)
  · rcases hl id l p hp hl' with ⟨h1, h2⟩ | h1
    · exact LocRep.mono hA1 hA (fun id lw F e => ⟨F, e⟩) hp hp h2 (h.locs id l p hp h1)
    · exact h1

/-- a place for blocks that belong to nobody -/
theorem Inv.newFree (hi : Inv X st a w A W V) {l : Loc} {lw : LW} {F G : List Nat} (hF : Free X w A W (F ++ G)) (hnb : ∀ b, lw ≠ .box b) (hl : LocRep A (updW W st.nl (some (lw, F))) w st.nl l) :
    Inv X (st.newLoc l) a w A (updW W st.nl (some (lw, F))) V ∧ Free X w A (updW W st.nl (some (lw, F))) G ∧ Ext W (updW W st.nl (some (lw, F))) := by
  have h := hi.rep
  have hW : Ext W (updW W st.nl (some (lw, F))) := ext_newLoc h
  have he : ∀ j lw' F', updW W st.nl (some (lw, F)) j = some (lw', F') → (j = st.nl ∧ F' = F) ∨ (j ≠ st.nl ∧ W j = some (lw', F')) := fun j lw' F' e => by
    by_cases e' : j = st.nl
    · subst e'; rw [updW_same] at e; simp only [Option.some.injEq, Prod.mk.injEq] at e; exact .inl ⟨rfl, e.2.symm⟩
    · rw [updW_other e'] at e; exact .inr ⟨e', e⟩
  have nd := List.nodup_append.1 hF.nodup
  have hFl : ∀ b ∈ F, b ∈ F ++ G := fun b hb => by simp [hb]
  have hrep : Rep (st.newLoc l) w X.M A (updW W st.nl (some (lw, F))) V := by
    refine ⟨h.ltA, ?_, ?_, ?_, ?_, fun k => RepAV.mono (fun _ h => h) (fun _ _ => rfl) hW _ _ (h.slots k), ?_, h.freshb⟩
    · intro j lw' F' e
      rcases he j lw' F' e with ⟨_, rfl⟩ | ⟨_, e⟩
      · exact nd.1
      · exact h.nodup j lw' F' e
    · intro j lw' F' e b hb
      rcases he j lw' F' e with ⟨_, rfl⟩ | ⟨_, e⟩
      · exact hF.own b (hFl b hb)
      · exact h.own j lw' F' e b hb
    · intro i j lwi Fi lwj Fj hij ei ej b hb hb'
      rcases he i lwi Fi ei with ⟨rfl, rfl⟩ | ⟨_, ei2⟩ <;> rcases he j lwj Fj ej with ⟨rfl, rfl⟩ | ⟨_, ej2⟩
      · exact hij rfl
      · exact hF.apart j lwj Fj ej2 b (hFl b hb) hb'
      · exact hF.apart i lwi Fi ei2 b (hFl b hb') hb
      · exact h.apart i j lwi Fi lwj Fj hij ei2 ej2 b hb hb'
    · intro j hj
      have : st.nl + 1 ≤ j := hj
      rw [updW_other (by omega)]
      exact h.fresh j (by omega)
    · intro j l' p hp hl'
      have hl' : (st.ev (.loc st.nl l)).loc j = some l' := hl'
      rw [loc_loc] at hl'
      by_cases e : st.nl = j
      · subst e
        simp only [if_true, Option.some.injEq] at hl'
        rw [← hl']; exact hl
      · rw [if_neg e] at hl'
        rw [updW_other (Ne.symm e)] at hp
        exact LocRep.mono (fun _ h => h) (fun _ _ => rfl) hW hp (by rw [updW_other (Ne.symm e)]; exact hp) (fun _ _ => rfl) (h.locs j l' p hp hl')
  refine ⟨hi.turn hrep (Nat.le_refl _) (Kept.refl _ _) (fun _ h => h) (fun _ h => .inl h) (fun j b F' e => ?_), ⟨nd.2.1, fun b hb => hF.own b (by simp [hb]), fun j lw' F' e b hb => ?_⟩, hW⟩
  · rw [updW_other (fun e' => by subst e'; rw [h.fresh st.nl (Nat.le_refl _)] at e; cases e)]; exact e
  · rcases he j lw' F' e with ⟨_, rfl⟩ | ⟨_, e⟩
    · exact fun hb' => nd.2.2 b hb' b hb rfl
    · exact hF.apart j lw' F' e b (by simp [hb])

theorem ownCells_ok : ∀ (t : Ty) {x : t.den} {S G : List Nat} {cs : List Value} {st : St} {W : Wit}, OwnRd w t x S cs → Inv X st a w A W V → Free X w A W (S ++ G) → ∀ avs st', t.ownCells x st = (avs, st') →
    ∃ W', Inv X st' a w A W' V ∧ Ext W W' ∧ RepL A W' w avs cs ∧ Free X w A W' G
  | .unit, x, S, G, cs, st, W, h, hi, hF, avs, st', e => by
    simp only [OwnRd] at h
    obtain ⟨rfl, rfl⟩ := h
    simp only [Ty.ownCells, Prod.mk.injEq] at e
    obtain ⟨rfl, rfl⟩ := e
    exact ⟨W, hi, Ext.refl W, by simp [RepL], by simpa using hF⟩
  | .bool, x, S, G, cs, st, W, h, hi, hF, avs, st', e => by
    simp only [OwnRd, Rd] at h
    obtain ⟨rfl, _, rfl⟩ := h
    simp only [Ty.ownCells, Prod.mk.injEq] at e
    obtain ⟨rfl, rfl⟩ := e
    exact ⟨W, hi, Ext.refl W, by simp only [RepL]; exact ⟨_, [], rfl, RepAV.mkBool _, rfl⟩, by simpa using hF⟩
  | .int k, x, S, G, cs, st, W, h, hi, hF, avs, st', e => by
    simp only [OwnRd, Rd] at h
    obtain ⟨rfl, _, rfl⟩ := h
    simp only [Ty.ownCells, Prod.mk.injEq] at e
    obtain ⟨rfl, rfl⟩ := e
    exact ⟨W, hi, Ext.refl W, by simp only [RepL]; exact ⟨_, [], rfl, RepAV.mkInt _ _, rfl⟩, by simpa using hF⟩
  | .str, x, S, G, cs, st, W, h, hi, hF, avs, st', e => by
    simp only [OwnRd, Rd] at h
    obtain ⟨rfl, _, rfl⟩ := h
    simp only [Ty.ownCells, Prod.mk.injEq] at e
    obtain ⟨rfl, rfl⟩ := e
    exact ⟨W, hi, Ext.refl W, by simp only [RepL]; exact ⟨_, [], rfl, RepAV.mkStr _, rfl⟩, by simpa using hF⟩
  | .err, x, S, G, cs, st, W, h, hi, hF, avs, st', e => by
    simp only [OwnRd] at h
    obtain ⟨rfl, h⟩ := h
    simp only [Ty.ownCells, Prod.mk.injEq] at e
    obtain ⟨rfl, rfl⟩ := e
    have hl := h.length
    simp only [Ty.size] at hl
    obtain ⟨v, rfl⟩ := List.length_eq_one_iff.1 hl
    exact ⟨W, hi, Ext.refl W, by simp only [RepL, RepAV]; exact ⟨v, [], rfl, ⟨[], by simp, h⟩, rfl⟩, by simpa using hF⟩
  | .sl t, x, S, G, cs, st, W, h, hi, hF, avs, st', e => by
    simp only [Ty.ownCells, Prod.mk.injEq] at e
    obtain ⟨rfl, rfl⟩ := e
    simp only [OwnRd] at h
    rcases h with ⟨rfl, rfl, rfl⟩ | ⟨b, off, cap, S', rfl, rfl, h1, h2, h3, h4⟩
    · obtain ⟨g1, g2, g3⟩ := hi.newFree (l := .row t [] true) (lw := .nil) (F := []) (G := G) (by simpa using hF) (fun b e => by cases e) (.inl ⟨updW_same _ _ _, rfl⟩)
      exact ⟨_, g1, g3, by simp only [RepL, RepAV]; exact ⟨_, [], rfl, ⟨.nil, [], updW_same _ _ _, fun b e => (by cases e), rfl⟩, rfl⟩, g2⟩
    · obtain ⟨g1, g2, g3⟩ := hi.newFree (l := .row t x true) (lw := .row b off t.size x.length cap) (F := b :: S') (G := G) hF (fun b e => by cases e)
        (.inr ⟨b, off, cap, S', updW_same _ _ _, h1, h2, h3, h4, fun e => by cases e⟩)
      exact ⟨_, g1, g3, by simp only [RepL, RepAV]; exact ⟨_, [], rfl, ⟨_, _, updW_same _ _ _, fun b e => (by cases e), rfl⟩, rfl⟩, g2⟩
  | .pair p q, x, S, G, cs, st, W, h, hi, hF, avs, st', e => by
    simp only [OwnRd] at h
    obtain ⟨S1, S2, c1, c2, rfl, rfl, h1, h2⟩ := h
    simp only [Ty.ownCells] at e
    rcases ep : p.ownCells x.1 st with ⟨xs, s1⟩
    rw [ep] at e
    simp only at e
    rcases eq : q.ownCells x.2 s1 with ⟨ys, s2⟩
    rw [eq] at e
    simp only [Prod.mk.injEq] at e
    obtain ⟨rfl, rfl⟩ := e
    rw [List.append_assoc] at hF
    obtain ⟨W1, i1, x1, r1, f1⟩ := ownCells_ok p h1 hi hF xs s1 ep
    obtain ⟨W2, i2, x2, r2, f2⟩ := ownCells_ok q h2 i1 f1 ys s2 eq
    exact ⟨W2, i2, x1.trans x2, RepL.append (RepL.ext x2 r1) r2, f2⟩

theorem OwnRd.length : ∀ (t : Ty) {x : t.den} {S : List Nat} {cs : List Value}, OwnRd w t x S cs → cs.length = t.size
  | .unit, _, _, _, h => by simp only [OwnRd] at h; simp [h.2, Ty.size]
  | .bool, _, _, _, h => by simp only [OwnRd] at h; exact h.2.length
  | .int _, _, _, _, h => by simp only [OwnRd] at h; exact h.2.length
  | .str, _, _, _, h => by simp only [OwnRd] at h; exact h.2.length
  | .err, _, _, _, h => by simp only [OwnRd] at h; exact h.2.length
  | .sl _, _, _, _, h => by
    simp only [OwnRd] at h
    rcases h with h | ⟨_, _, _, _, _, h, _⟩
    · simp [h.2.2, Ty.size]
    · simp [h, Ty.size]
  | .pair a b, _, _, _, h => by
    simp only [OwnRd] at h
    obtain ⟨_, _, c1, c2, _, e2, h1, h2⟩ := h
    simp [e2, Ty.size, OwnRd.length a h1, OwnRd.length b h2]

theorem outAVs_ok : ∀ (outs : List OutK) {y : (outsTy outs).den} {us : List Value} {O : List Nat} {st : St} {W : Wit}, OutsRd w A outs us y O → Inv X st a w A W V → Free X w A W O → ∀ avs st', outAVs outs y st = (avs, st') →
    ∃ W', Inv X st' a w A W' V ∧ Ext W W' ∧ RepL A W' w avs us
  | [], y, us, O, st, W, h, hi, hF, avs, st', e => by
    simp only [outAVs, Prod.mk.injEq] at e
    obtain ⟨rfl, rfl⟩ := e
    exact ⟨W, hi, Ext.refl W, by simp only [RepL]; exact h.1⟩
  | o :: rr, y, us, O, st, W, h, hi, hF, avs, st', e => by
    obtain ⟨u, us', S, O', rfl, h1, h2⟩ := h
    simp only [outAVs] at e
    cases ho : o.own with
    | true =>
      rw [ho] at h1 e
      simp only [if_true, cond] at h1 e
      obtain ⟨h1, rfl⟩ := h1
      rcases e1 : o.t.ownCells y.1 st with ⟨cs, s1⟩
      rw [e1] at e
      simp only at e
      rcases e2 : outAVs rr y.2 s1 with ⟨vs, s2⟩
      rw [e2] at e
      simp only [Prod.mk.injEq] at e
      obtain ⟨rfl, rfl⟩ := e
      have key : ∀ {cc : List Value}, OwnRd w o.t y.1 S cc → (RepL A W w [] [] → True) → (∀ {W' : Wit}, RepL A W' w cs cc → RepAV A W' w (mkAV o.agg cs) u) → ∃ W', Inv X s2 a w A W' V ∧ Ext W W' ∧ RepL A W' w (mkAV o.agg cs :: vs) (u :: us') := fun {cc} hc _ hm => by
        obtain ⟨W1, i1, x1, r1, f1⟩ := ownCells_ok o.t hc hi hF cs s1 e1
        obtain ⟨W2, i2, x2, r2⟩ := outAVs_ok rr h2 i1 f1 vs s2 e2
        exact ⟨W2, i2, x1.trans x2, by simp only [RepL]; exact ⟨u, us', rfl, RepAV.ext x2 (hm r1), r2⟩⟩
      unfold OwnV at h1
      cases hag : o.agg with
      | true =>
        rw [hag] at h1 key
        simp only [if_true] at h1
        obtain ⟨cc, rfl, h1⟩ := h1
        exact key h1 (fun _ => trivial) (fun hr => by simpa using mkAV_rep (ag := true) hr (fun e => by cases e))
      | false =>
        rw [hag] at h1 key
        simp only [Bool.false_eq_true, if_false] at h1
        exact key h1 (fun _ => trivial) (fun hr => by simpa using mkAV_rep (ag := false) hr (fun _ => rfl))
    | false =>
      rw [ho] at h1 e
      simp only [Bool.false_eq_true, if_false, cond] at h1 e
      obtain ⟨h1, hS, rfl⟩ := h1
      rcases e2 : outAVs rr y.2 st with ⟨vs, s2⟩
      rw [e2] at e
      simp only [Prod.mk.injEq] at e
      obtain ⟨rfl, rfl⟩ := e
      obtain ⟨W2, i2, x2, r2⟩ := outAVs_ok rr h2 hi hF vs s2 e2
      suffices hu : RepAV A W2 w (mkAV o.agg (o.t.unpack y.1)) u from ⟨W2, i2, x2, by simp only [RepL]; exact ⟨u, us', rfl, hu, r2⟩⟩
      unfold ValRd at h1
      cases hag : o.agg with
      | true =>
        rw [hag] at h1
        simp only [if_true] at h1
        obtain ⟨cc, rfl, h1⟩ := h1
        simpa using mkAV_rep (ag := true) (unpack_rep (W := W2) o.t h1 hS) (fun e => by cases e)
      | false =>
        rw [hag] at h1
        simp only [Bool.false_eq_true, if_false] at h1
        simpa using mkAV_rep (ag := false) (unpack_rep (W := W2) o.t h1 hS) (fun _ => rfl)

theorem putRows_rest : ∀ (t : Ty) (x : t.den) (cs : List AV) (st : St), (t.putRows x cs st).2.nl = st.nl ∧ (t.putRows x cs st).2.nb = st.nb ∧ (t.putRows x cs st).2.kb = st.kb ∧ ∀ k, (t.putRows x cs st).2.get k = st.get k
  | .pair a b, x, cs, st => by
    obtain ⟨h1, h2, h3, h4⟩ := putRows_rest a x.1 cs st
    obtain ⟨g1, g2, g3, g4⟩ := putRows_rest b x.2 (a.putRows x.1 cs st).1 (a.putRows x.1 cs st).2
    simp only [Ty.putRows]
    exact ⟨g1.trans h1, g2.trans h2, g3.trans h3, fun k => (g4 k).trans (h4 k)⟩
  | .unit, _, _, _ => ⟨rfl, rfl, rfl, fun _ => rfl⟩
  | .sl t, x, [], st => ⟨rfl, rfl, rfl, fun _ => rfl⟩
  | .sl t, x, v :: r, st => by
    cases v with
    | row id => exact ⟨rfl, rfl, rfl, fun k => get_loc st id _ k⟩
    | _ => exact ⟨rfl, rfl, rfl, fun _ => rfl⟩
  | .bool, _, [], _ => ⟨rfl, rfl, rfl, fun _ => rfl⟩
  | .bool, _, _ :: _, _ => ⟨rfl, rfl, rfl, fun _ => rfl⟩
  | .int _, _, [], _ => ⟨rfl, rfl, rfl, fun _ => rfl⟩
  | .int _, _, _ :: _, _ => ⟨rfl, rfl, rfl, fun _ => rfl⟩
  | .str, _, [], _ => ⟨rfl, rfl, rfl, fun _ => rfl⟩
  | .str, _, _ :: _, _ => ⟨rfl, rfl, rfl, fun _ => rfl⟩
  | .err, _, [], _ => ⟨rfl, rfl, rfl, fun _ => rfl⟩
  | .err, _, _ :: _, _ => ⟨rfl, rfl, rfl, fun _ => rfl⟩

theorem putPtrs_rest : ∀ (ins : List PK) (avs : List AV) (y : (ptrTy ins).den) (st : St), (putPtrs ins avs y st).nl = st.nl ∧ (putPtrs ins avs y st).nb = st.nb ∧ (putPtrs ins avs y st).kb = st.kb ∧ ∀ k, (putPtrs ins avs y st).get k = st.get k
  | [], _, _, _ => ⟨rfl, rfl, rfl, fun _ => rfl⟩
  | .val _ _ :: r, [], _, _ => ⟨rfl, rfl, rfl, fun _ => rfl⟩
  | .val _ _ :: r, _ :: avs, y, st => putPtrs_rest r avs y st
  | .fn _ _ :: r, [], _, _ => ⟨rfl, rfl, rfl, fun _ => rfl⟩
  | .fn _ _ :: r, _ :: avs, y, st => putPtrs_rest r avs y st
  | .mut _ _ :: r, [], _, _ => ⟨rfl, rfl, rfl, fun _ => rfl⟩
  | .mut _ t :: r, v :: avs, y, st => by
    obtain ⟨h1, h2, h3, h4⟩ := putPtrs_rest r avs y.2 (t.putRows y.1 v.cells st).2
    obtain ⟨g1, g2, g3, g4⟩ := putRows_rest t y.1 v.cells st
    exact ⟨h1.trans g1, h2.trans g2, h3.trans g3, fun k => (h4 k).trans (g4 k)⟩
  | .ptr t :: r, [], _, _ => ⟨rfl, rfl, rfl, fun _ => rfl⟩
  | .ptr t :: r, v :: avs, y, st => by
    cases v with
    | ref id n =>
      obtain ⟨h1, h2, h3, h4⟩ := putPtrs_rest r avs y.2 (st.ev (.loc id (.box (t.unpack y.1))))
      exact ⟨h1, h2, h3, fun k => (h4 k).trans (get_loc st id _ k)⟩
    | _ => exact ⟨rfl, rfl, rfl, fun _ => rfl⟩

theorem rowIds_append : ∀ l l' : List AV, rowIds (l ++ l') = rowIds l ++ rowIds l'
  | [], _ => rfl
  | v :: l, l' => by cases v <;> simp [rowIds, rowIds_append l l']

theorem OwnL.length : ∀ (t : Ty) {x : t.den} {Ss : List (List Nat)} {cs : List Value}, OwnL w t x Ss cs → cs.length = t.size ∧ Ss.length = nSl t
  | .sl t, x, Ss, cs, h => by
    obtain ⟨S, rfl, h⟩ := h
    have := OwnRd.length (.sl t) h
    exact ⟨this, rfl⟩
  | .pair a b, x, Ss, cs, h => by
    obtain ⟨S1, S2, c1, c2, rfl, rfl, h1, h2⟩ := h
    have g1 := OwnL.length a h1
    have g2 := OwnL.length b h2
    simp [Ty.size, nSl, g1, g2]
  | .unit, x, Ss, cs, h => by obtain ⟨rfl, rfl⟩ := h; exact ⟨rfl, rfl⟩
  | .bool, x, Ss, cs, h => by obtain ⟨rfl, h⟩ := h; exact ⟨h.length, rfl⟩
  | .int _, x, Ss, cs, h => by obtain ⟨rfl, h⟩ := h; exact ⟨h.length, rfl⟩
  | .str, x, Ss, cs, h => by obtain ⟨rfl, h⟩ := h; exact ⟨h.length, rfl⟩
  | .err, x, Ss, cs, h => by obtain ⟨rfl, h⟩ := h; exact ⟨h.length, rfl⟩

theorem MutAt.length : ∀ (t : Ty) {cs : List AV} {Ss : List (List Nat)} {us : List Value}, MutAt W t cs Ss us → us.length = t.size ∧ Ss.length = nSl t
  | .sl t, cs, Ss, us, h => by
    unfold MutAt at h
    rcases h with ⟨_, rfl, rfl⟩ | ⟨id, lw, F, _, _, rfl, rfl, _⟩ <;> exact ⟨rfl, rfl⟩
  | .pair a b, cs, Ss, us, h => by
    obtain ⟨c1, c2, S1, S2, u1, u2, rfl, rfl, rfl, h1, h2⟩ := h
    have g1 := MutAt.length a h1
    have g2 := MutAt.length b h2
    simp [Ty.size, nSl, g1, g2]
  | .unit, cs, Ss, us, h => by obtain ⟨_, rfl, rfl⟩ := h; exact ⟨rfl, rfl⟩
  | .bool, cs, Ss, us, h => by obtain ⟨rfl, c, u, _, rfl, _⟩ := h; exact ⟨rfl, rfl⟩
  | .int _, cs, Ss, us, h => by obtain ⟨rfl, c, u, _, rfl, _⟩ := h; exact ⟨rfl, rfl⟩
  | .str, cs, Ss, us, h => by obtain ⟨rfl, c, u, _, rfl, _⟩ := h; exact ⟨rfl, rfl⟩
  | .err, cs, Ss, us, h => by obtain ⟨rfl, c, u, _, rfl, _⟩ := h; exact ⟨rfl, rfl⟩

/-- rows written: each is there as told -/
theorem putRows_loc : ∀ (t : Ty) {x : t.den} {cs rest : List AV} {Ss : List (List Nat)} {us : List Value} {st : St}, MutAt W t cs Ss us → OwnL w t x Ss us →
    (t.putRows x (cs ++ rest) st).1 = rest ∧ ∀ id l, (t.putRows x (cs ++ rest) st).2.loc id = some l → (st.loc id = some l ∧ id ∉ rowIds cs) ∨ LocRep A W w id l
  | .sl t, x, cs, rest, Ss, us, st, h, ho => by
    unfold MutAt at h
    obtain ⟨S, rfl, ho⟩ := ho
    rcases h with ⟨rfl, e1, rfl⟩ | ⟨id, lw, F, rfl, hW, e1, rfl, hlw⟩
    · exact ⟨rfl, fun id l e => .inl ⟨e, by simp [rowIds]⟩⟩
    · simp only [List.cons.injEq, and_true] at e1
      subst e1
      refine ⟨rfl, fun id' l e => ?_⟩
      simp only [List.cons_append, List.nil_append, Ty.putRows] at e
      rw [loc_loc] at e
      by_cases e' : id = id'
      · subst e'
        simp only [if_true, Option.some.injEq] at e
        subst e
        right
        unfold OwnRd at ho
        rcases ho with ⟨rfl, rfl, h3⟩ | ⟨b, off, cap, S', rfl, h3, h4, h5, h6, h7⟩
        · rcases hlw with rfl | ⟨b, off, len, cap, rfl⟩
          · exact .inl ⟨hW, rfl⟩
          · simp [LW.val] at h3
        · rcases hlw with rfl | ⟨b', off', len', cap', rfl⟩
          · simp [LW.val] at h3
          · simp only [LW.val, List.cons.injEq, Value.slice.injEq, Option.some.injEq, Addr.mk.injEq, and_true] at h3
            obtain ⟨⟨rfl, rfl⟩, rfl, rfl⟩ := h3
            exact .inr ⟨_, _, _, S', by simpa using hW, h4, h5, h6, h7, fun h => by cases h⟩
      · rw [if_neg e'] at e
        exact .inl ⟨e, by simp [rowIds, Ne.symm e']⟩
  | .pair a b, x, cs, rest, Ss, us, st, h, ho => by
    obtain ⟨c1, c2, S1, S2, u1, u2, rfl, rfl, rfl, h1, h2⟩ := h
    obtain ⟨T1, T2, v1, v2, e1, e2, h3, h4⟩ := ho
    have l1 := MutAt.length a h1
    have l2 := OwnL.length a h3
    obtain ⟨rfl, rfl⟩ := List.append_inj e1 (by rw [l1.2, l2.2])
    obtain ⟨rfl, rfl⟩ := List.append_inj e2 (by rw [l1.1, l2.1])
    obtain ⟨g1, g2⟩ := putRows_loc a (rest := c2 ++ rest) (st := st) h1 h3
    obtain ⟨g3, g4⟩ := putRows_loc b (rest := rest) (st := (a.putRows x.1 (c1 ++ (c2 ++ rest)) st).2) h2 h4
    simp only [Ty.putRows, List.append_assoc]
    rw [g1]
    refine ⟨g3, fun id l e => ?_⟩
    rcases g4 id l e with ⟨k1, k2⟩ | k
    · rcases g2 id l k1 with ⟨k3, k4⟩ | k
      · exact .inl ⟨k3, by rw [rowIds_append]; simp [k2, k4]⟩
      · exact .inr k
    · exact .inr k
  | .unit, x, cs, rest, Ss, us, st, h, ho => by
    obtain ⟨rfl, _, _⟩ := h
    exact ⟨rfl, fun id l e => .inl ⟨e, by simp [rowIds]⟩⟩
  | .bool, x, cs, rest, Ss, us, st, h, ho => by obtain ⟨_, c, u, rfl, _, hr⟩ := h; exact ⟨rfl, fun id l e => .inl ⟨e, by rw [hr]; simp⟩⟩
  | .int _, x, cs, rest, Ss, us, st, h, ho => by obtain ⟨_, c, u, rfl, _, hr⟩ := h; exact ⟨rfl, fun id l e => .inl ⟨e, by rw [hr]; simp⟩⟩
  | .str, x, cs, rest, Ss, us, st, h, ho => by obtain ⟨_, c, u, rfl, _, hr⟩ := h; exact ⟨rfl, fun id l e => .inl ⟨e, by rw [hr]; simp⟩⟩
  | .err, x, cs, rest, Ss, us, st, h, ho => by obtain ⟨_, c, u, rfl, _, hr⟩ := h; exact ⟨rfl, fun id l e => .inl ⟨e, by rw [hr]; simp⟩⟩

theorem MutV.open {ag : Bool} {t : Ty} {v : AV} {cs : List AV} {Ss Ss' : List (List Nat)} {u : Value} {y : t.den} (hc : argCells ag v = some cs) (h : MutV W ag t cs Ss u) (ho : OwnLV w ag t y Ss' u) :
    v.cells = cs ∧ Ss.length = nSl t ∧ Ss'.length = nSl t ∧ ∃ us, MutAt W t cs Ss us ∧ OwnL w t y Ss' us := by
  unfold MutV at h
  unfold OwnLV at ho
  have hv : v.cells = cs := by
    unfold argCells at hc
    split at hc
    · obtain ⟨_, hc⟩ := cond_some hc
      simp only [Option.some.injEq] at hc
      rw [← hc]; rfl
    · rename_i hne
      cases hag : ag with
      | true => rw [hag] at hc; simp at hc
      | false =>
        rw [hag] at hc
        simp only [cond, Option.some.injEq] at hc
        rw [← hc]
        cases v <;> first | rfl | exact absurd rfl (hne _)
  cases hag : ag with
  | true =>
    rw [hag] at h ho
    simp only [if_true] at h ho
    obtain ⟨ws, rfl, h⟩ := h
    obtain ⟨ws', e, ho⟩ := ho
    simp only [Value.agg.injEq] at e
    have e : ws = ws' := by simpa using e
    subst e
    exact ⟨hv, (MutAt.length t h).2, (OwnL.length t ho).2, ws, h, ho⟩
  | false =>
    rw [hag] at h ho
    simp only [Bool.false_eq_true, if_false] at h ho
    exact ⟨hv, (MutAt.length t h).2, (OwnL.length t ho).2, [u], h, ho⟩

theorem putPtrs_loc : ∀ (ins : List PK) (avs : List AV) (y : (ptrTy ins).den) (vs : List Value) (bs : List (List Nat)) (st : St), PtrOf W ins avs vs bs → PtrsRd w A ins vs bs y → ∀ id l, (putPtrs ins avs y st).loc id = some l →
    (st.loc id = some l ∧ id ∉ ptrIds ins avs ∧ id ∉ mutIds ins avs) ∨ LocRep A W w id l
  | [], avs, _, _, _, st, h, _, id, l, e => by
    cases avs with
    | nil => exact .inl ⟨e, by simp [ptrIds], by simp [mutIds]⟩
    | cons _ _ => exact h.elim
  | .val _ _ :: r, [], _, _, _, st, h, _, id, l, e => h.elim
  | .val _ _ :: r, v :: avs, y, vs, bs, st, h, hp, id, l, e => by
    have := putPtrs_loc r avs y vs.tail bs st h hp id l e
    simpa only [ptrIds, mutIds] using this
  | .fn _ _ :: r, [], _, _, _, st, h, _, id, l, e => h.elim
  | .fn _ _ :: r, v :: avs, y, vs, bs, st, h, hp, id, l, e => by
    have := putPtrs_loc r avs y vs.tail bs st h hp id l e
    simpa only [ptrIds, mutIds] using this
  | .mut _ _ :: r, [], _, _, _, st, h, _, id, l, e => h.elim
  | .mut ag t :: r, v :: avs, y, vs, bs, st, h, hp, id, l, e => by
    obtain ⟨u, us, Ss, bs', cs, rfl, rfl, hc, hrc, hm, h2⟩ := h
    obtain ⟨u', us', Ss', bs'', e1, e2, ho, h3⟩ := hp
    simp only [List.cons.injEq] at e1
    obtain ⟨rfl, rfl⟩ := e1
    obtain ⟨hv, l1, l2, ws, q1, q2⟩ := hm.open hc ho
    obtain ⟨rfl, rfl⟩ := List.append_inj e2 (by rw [l1, l2])
    have := (putRows_loc (A := A) t (rest := []) (st := st) q1 q2).2
    rw [List.append_nil] at this
    simp only [putPtrs, hv] at e
    rcases putPtrs_loc r avs y.2 us bs' _ h2 h3 id l e with ⟨g1, g2, g3⟩ | g
    · rcases this id l g1 with ⟨k1, k2⟩ | k
      · refine .inl ⟨k1, by simpa only [ptrIds] using g2, ?_⟩
        simp only [mutIds, hv, List.mem_append, not_or]
        exact ⟨k2, g3⟩
      · exact .inr k
    · exact .inr g
  | .ptr t :: r, [], _, _, _, st, h, _, id, l, e => h.elim
  | .ptr t :: r, v :: avs, y, vs, bs, st, h, hp, id, l, e => by
    cases v with
    | ref i n =>
      obtain ⟨b, bs', rfl, h1, h2⟩ := h
      obtain ⟨b', bs'', cs, S, e1, p1, p2, p3, p4, p5⟩ := hp
      simp only [List.cons.injEq, and_true] at e1
      obtain ⟨rfl, rfl⟩ := e1
      rcases putPtrs_loc r avs y.2 vs.tail bs' _ h2 p5 id l e with ⟨g1, g2, g3⟩ | g
      · rw [loc_loc] at g1
        by_cases e' : i = id
        · subst e'
          simp only [if_true, Option.some.injEq] at g1
          subst g1
          exact .inr ⟨b, cs, h1, p1, p2, unpack_rep t p3 p4⟩
        · rw [if_neg e'] at g1
          refine .inl ⟨g1, ?_, by simpa only [mutIds] using g3⟩
          simp only [ptrIds, List.mem_cons, not_or]
          exact ⟨fun e => e' e.symm, g2⟩
      · exact .inr g
    | _ => exact h.elim

theorem MutAt.mem : ∀ (t : Ty) {cs : List AV} {Ss : List (List Nat)} {us : List Value}, MutAt W t cs Ss us → ∀ b ∈ Ss.flatten, ∃ id ∈ rowIds cs, ∃ lw F, W id = some (lw, F) ∧ (∀ b, lw ≠ .box b) ∧ b ∈ F
  | .sl t, cs, Ss, us, h, b, hb => by
    unfold MutAt at h
    rcases h with ⟨rfl, rfl, _⟩ | ⟨id, lw, F, rfl, hW, rfl, _, hlw⟩
    · simp at hb
    · refine ⟨id, by simp [rowIds], lw, F, hW, fun b e => ?_, by simpa using hb⟩
      rcases hlw with h | ⟨_, _, _, _, h⟩ <;> rw [h] at e <;> cases e
  | .pair p q, cs, Ss, us, h, b, hb => by
    obtain ⟨c1, c2, S1, S2, u1, u2, rfl, rfl, rfl, h1, h2⟩ := h
    rw [List.flatten_append, List.mem_append] at hb
    rcases hb with hb | hb
    · obtain ⟨id, h3, h4⟩ := MutAt.mem p h1 b hb
      exact ⟨id, by rw [rowIds_append]; simp [h3], h4⟩
    · obtain ⟨id, h3, h4⟩ := MutAt.mem q h2 b hb
      exact ⟨id, by rw [rowIds_append]; simp [h3], h4⟩
  | .unit, cs, Ss, us, h, b, hb => by obtain ⟨_, rfl, _⟩ := h; simp at hb
  | .bool, cs, Ss, us, h, b, hb => by obtain ⟨rfl, _⟩ := h; simp at hb
  | .int _, cs, Ss, us, h, b, hb => by obtain ⟨rfl, _⟩ := h; simp at hb
  | .str, cs, Ss, us, h, b, hb => by obtain ⟨rfl, _⟩ := h; simp at hb
  | .err, cs, Ss, us, h, b, hb => by obtain ⟨rfl, _⟩ := h; simp at hb

theorem MutAt.nodup {hr : Rep st w M A W V} : ∀ (t : Ty) {cs : List AV} {Ss : List (List Nat)} {us : List Value}, MutAt W t cs Ss us → (rowIds cs).Nodup → Ss.flatten.Nodup
  | .sl t, cs, Ss, us, h, hn => by
    unfold MutAt at h
    rcases h with ⟨rfl, rfl, _⟩ | ⟨id, lw, F, rfl, hW, rfl, _, _⟩
    · simp
    · simpa using hr.nodup id lw F hW
  | .pair p q, cs, Ss, us, h, hn => by
    obtain ⟨c1, c2, S1, S2, u1, u2, rfl, rfl, rfl, h1, h2⟩ := h
    rw [rowIds_append, List.nodup_append] at hn
    rw [List.flatten_append, List.nodup_append]
    refine ⟨MutAt.nodup (hr := hr) p h1 hn.1, MutAt.nodup (hr := hr) q h2 hn.2.1, fun x hx y hy e => ?_⟩
    subst e
    obtain ⟨i, i1, lw, F, i2, _, i3⟩ := MutAt.mem p h1 x hx
    obtain ⟨j, j1, lw', F', j2, _, j3⟩ := MutAt.mem q h2 x hy
    exact hr.apart i j _ _ _ _ (fun e => hn.2.2 i i1 j j1 e) i2 j2 x i3 j3
  | .unit, cs, Ss, us, h, hn => by obtain ⟨_, rfl, _⟩ := h; simp
  | .bool, cs, Ss, us, h, hn => by obtain ⟨rfl, _⟩ := h; simp
  | .int _, cs, Ss, us, h, hn => by obtain ⟨rfl, _⟩ := h; simp
  | .str, cs, Ss, us, h, hn => by obtain ⟨rfl, _⟩ := h; simp
  | .err, cs, Ss, us, h, hn => by obtain ⟨rfl, _⟩ := h; simp

theorem MutAt.ext {W' : Wit} : ∀ (t : Ty) {cs : List AV} {Ss : List (List Nat)} {us : List Value}, (∀ id ∈ rowIds cs, W' id = W id) → MutAt W t cs Ss us → MutAt W' t cs Ss us
  | .sl t, cs, Ss, us, hx, h => by
    unfold MutAt at h ⊢
    rcases h with h | ⟨id, lw, F, rfl, hW, h⟩
    · exact .inl h
    · exact .inr ⟨id, lw, F, rfl, by rw [hx id (by simp [rowIds])]; exact hW, h⟩
  | .pair p q, cs, Ss, us, hx, h => by
    obtain ⟨c1, c2, S1, S2, u1, u2, rfl, rfl, rfl, h1, h2⟩ := h
    rw [rowIds_append] at hx
    exact ⟨c1, c2, S1, S2, u1, u2, rfl, rfl, rfl, MutAt.ext p (fun id h => hx id (by simp [h])) h1, MutAt.ext q (fun id h => hx id (by simp [h])) h2⟩
  | .unit, _, _, _, _, h => h
  | .bool, _, _, _, _, h => h
  | .int _, _, _, _, _, h => h
  | .str, _, _, _, _, h => h
  | .err, _, _, _, _, h => h

theorem MutV.at {ag : Bool} {t : Ty} {cs : List AV} {Ss : List (List Nat)} {u : Value} (h : MutV W ag t cs Ss u) : ∃ us, MutAt W t cs Ss us := by
  unfold MutV at h
  split at h
  · obtain ⟨ws, _, h⟩ := h; exact ⟨ws, h⟩
  · exact ⟨_, h⟩

theorem MutV.ext {W' : Wit} {ag : Bool} {t : Ty} {cs : List AV} {Ss : List (List Nat)} {u : Value} (hx : ∀ id ∈ rowIds cs, W' id = W id) (h : MutV W ag t cs Ss u) : MutV W' ag t cs Ss u := by
  unfold MutV at h ⊢
  split at h
  · rename_i hag
    obtain ⟨ws, e, h⟩ := h; rw [if_pos hag]; exact ⟨ws, e, MutAt.ext t hx h⟩
  · rename_i hag
    rw [if_neg hag]; exact MutAt.ext t hx h

theorem PtrOf.mem : ∀ (ins : List PK) (avs : List AV) (vs : List Value) (bs : List (List Nat)), PtrOf W ins avs vs bs → ∀ b ∈ bs.flatten, (∃ id ∈ ptrIds ins avs, W id = some (.box b, [b])) ∨ ∃ id ∈ mutIds ins avs, ∃ lw F, W id = some (lw, F) ∧ (∀ b, lw ≠ .box b) ∧ b ∈ F
  | [], avs, vs, bs, h, b, hb => by
    cases avs with
    | nil => rw [show bs = [] from h] at hb; simp at hb
    | cons _ _ => exact h.elim
  | .val _ _ :: r, [], _, _, h, _, _ => h.elim
  | .val _ _ :: r, v :: avs, vs, bs, h, b, hb => by
    have := PtrOf.mem r avs vs.tail bs h b hb
    simpa only [ptrIds, mutIds] using this
  | .fn _ _ :: r, [], _, _, h, _, _ => h.elim
  | .fn _ _ :: r, v :: avs, vs, bs, h, b, hb => by
    have := PtrOf.mem r avs vs.tail bs h b hb
    simpa only [ptrIds, mutIds] using this
  | .mut _ _ :: r, [], _, _, h, _, _ => h.elim
  | .mut ag t :: r, v :: avs, vs, bs, h, b, hb => by
    obtain ⟨u, us, Ss, bs', cs, rfl, rfl, hc, hrc, hm, h2⟩ := h
    rw [List.flatten_append, List.mem_append] at hb
    rcases hb with hb | hb
    · obtain ⟨ws, hm⟩ := hm.at
      obtain ⟨id, h3, h4⟩ := MutAt.mem t hm b hb
      exact .inr ⟨id, by simp only [mutIds, hrc, List.mem_append]; exact .inl h3, h4⟩
    · rcases PtrOf.mem r avs us bs' h2 b hb with ⟨id, h3, h4⟩ | ⟨id, h3, h4⟩
      · exact .inl ⟨id, by simpa only [ptrIds] using h3, h4⟩
      · exact .inr ⟨id, by simp only [mutIds, List.mem_append]; exact .inr h3, h4⟩
  | .ptr t :: r, [], _, _, h, _, _ => h.elim
  | .ptr t :: r, v :: avs, vs, bs, h, b, hb => by
    cases v with
    | ref i n =>
      obtain ⟨b', bs', rfl, h1, h2⟩ := h
      simp only [List.flatten_cons, List.cons_append, List.nil_append, List.mem_cons] at hb
      rcases hb with rfl | hb
      · exact .inl ⟨i, by simp [ptrIds], h1⟩
      · rcases PtrOf.mem r avs vs.tail bs' h2 b hb with ⟨id, g1, g2⟩ | ⟨id, g1, g2⟩
        · exact .inl ⟨id, by simp [ptrIds, g1], g2⟩
        · exact .inr ⟨id, by simpa only [mutIds] using g1, g2⟩
    | _ => exact h.elim

theorem PtrOf.nodup {hr : Rep st w M A W V} : ∀ (ins : List PK) (avs : List AV) (vs : List Value) (bs : List (List Nat)), PtrOf W ins avs vs bs → (ptrIds ins avs).Nodup → (mutIds ins avs).Nodup → bs.flatten.Nodup
  | [], avs, vs, bs, h, _, _ => by
    cases avs with
    | nil => rw [show bs = [] from h]; simp
    | cons _ _ => exact h.elim
  | .val _ _ :: r, [], _, _, h, _, _ => h.elim
  | .val _ _ :: r, v :: avs, vs, bs, h, hn, hm => PtrOf.nodup (hr := hr) r avs vs.tail bs h (by simpa only [ptrIds] using hn) (by simpa only [mutIds] using hm)
  | .fn _ _ :: r, [], _, _, h, _, _ => h.elim
  | .fn _ _ :: r, v :: avs, vs, bs, h, hn, hm => PtrOf.nodup (hr := hr) r avs vs.tail bs h (by simpa only [ptrIds] using hn) (by simpa only [mutIds] using hm)
  | .mut _ _ :: r, [], _, _, h, _, _ => h.elim
  | .mut ag t :: r, v :: avs, vs, bs, h, hn, hd => by
    obtain ⟨u, us, Ss, bs', cs, rfl, rfl, hc, hrc, hm, h2⟩ := h
    obtain ⟨ws, hm⟩ := hm.at
    simp only [mutIds, hrc] at hd
    rw [List.nodup_append] at hd
    rw [List.flatten_append, List.nodup_append]
    refine ⟨MutAt.nodup (hr := hr) t hm hd.1, PtrOf.nodup (hr := hr) r avs us bs' h2 (by simpa only [ptrIds] using hn) hd.2.1, fun x hx y hy e => ?_⟩
    subst e
    obtain ⟨i, i1, lw, F, i2, i4, i3⟩ := MutAt.mem t hm x hx
    rcases PtrOf.mem r avs us bs' h2 x hy with ⟨j, j1, j2⟩ | ⟨j, j1, lw', F', j2, _, j3⟩
    · exact hr.apart i j _ _ _ _ (fun e => by subst e; rw [i2] at j2; cases j2; exact i4 _ rfl) i2 j2 x i3 (by simp)
    · exact hr.apart i j _ _ _ _ (fun e => hd.2.2 i i1 j j1 e) i2 j2 x i3 j3
  | .ptr t :: r, [], _, _, h, _, _ => h.elim
  | .ptr t :: r, v :: avs, vs, bs, h, hn, hm => by
    cases v with
    | ref i n =>
      obtain ⟨b', bs', rfl, h1, h2⟩ := h
      simp only [ptrIds, List.nodup_cons] at hn
      simp only [List.flatten_cons, List.cons_append, List.nil_append]
      rw [List.nodup_cons]
      refine ⟨fun hb => ?_, PtrOf.nodup (hr := hr) r avs vs.tail bs' h2 hn.2 (by simpa only [mutIds] using hm)⟩
      rcases PtrOf.mem r avs vs.tail bs' h2 b' hb with ⟨id, g1, g2⟩ | ⟨id, g1, lw, F, g2, g4, g3⟩
      · exact hr.apart i id _ _ _ _ (fun e => by subst e; exact hn.1 g1) h1 g2 b' (by simp) (by simp)
      · exact hr.apart i id _ _ _ _ (fun e => by subst e; rw [h1] at g2; cases g2; exact g4 _ rfl) h1 g2 b' (by simp) g3
    | _ => exact h.elim

theorem PtrOf.ext {W' : Wit} (hx : ∀ j b, W j = some (.box b, [b]) → W' j = some (.box b, [b])) : ∀ (ins : List PK) (avs : List AV) (vs : List Value) (bs : List (List Nat)), (∀ id ∈ mutIds ins avs, W' id = W id) → PtrOf W ins avs vs bs → PtrOf W' ins avs vs bs
  | [], [], _, _, _, h => h
  | [], _ :: _, _, _, _, h => h.elim
  | .val _ _ :: r, [], _, _, _, h => h.elim
  | .val _ _ :: r, v :: avs, vs, bs, hm, h => PtrOf.ext hx r avs vs.tail bs (by simpa only [mutIds] using hm) h
  | .fn _ _ :: r, [], _, _, _, h => h.elim
  | .fn _ _ :: r, v :: avs, vs, bs, hm, h => PtrOf.ext hx r avs vs.tail bs (by simpa only [mutIds] using hm) h
  | .mut _ _ :: r, [], _, _, _, h => h.elim
  | .mut ag t :: r, v :: avs, vs, bs, hm, h => by
    obtain ⟨u, us, Ss, bs', cs, rfl, rfl, hc, hrc, h1, h2⟩ := h
    simp only [mutIds, hrc, List.mem_append] at hm
    exact ⟨u, us, Ss, bs', cs, rfl, rfl, hc, hrc, h1.ext (fun id h => hm id (.inl h)), PtrOf.ext hx r avs us bs' (fun id h => hm id (.inr h)) h2⟩
  | .ptr t :: r, [], _, _, _, h => h.elim
  | .ptr t :: r, v :: avs, vs, bs, hm, h => by
    cases v with
    | ref i n =>
      obtain ⟨b', bs', rfl, h1, h2⟩ := h
      exact ⟨b', bs', rfl, hx _ _ h1, PtrOf.ext hx r avs vs.tail bs' (by simpa only [mutIds] using hm) h2⟩
    | _ => exact h.elim

/-- behind a call: what it left -/
theorem after_call (hi : Inv X st a w A W V) {ins : List PK} {outs : List OutK} {avs : List AV} {vs : List Value} {bs : List (List Nat)} {O : List Nat} {y : (outsTy outs).den × (ptrTy ins).den} {us : List Value} (hp : PtrOf W ins avs vs bs) (hkb : ∀ id ∈ ptrIds ins avs, st.kb.has id = false)
    (hk : Kept (fun b => w.heap.size ≤ b ∨ b ∈ bs.flatten) w w') (hA1 : ∀ b, A b → A' b) (hA2 : ∀ b, A' b → A b ∨ (w.heap.size ≤ b ∧ b < w'.heap.size)) (hOn : O.Nodup) (hO : ∀ b ∈ O, w.heap.size ≤ b ∧ b < w'.heap.size ∧ ¬ A' b)
    (ho : OutsRd w' A' outs us y.1 O) (hpt : PtrsRd w' A' ins vs bs y.2) {os : List AV} {st' : St} (e : outAVs outs y.1 (putPtrs ins avs y.2 st) = (os, st')) :
    ∃ W', Inv X st' a w' A' W' V ∧ RepL A' W' w' os us := by
  have hr := hi.rep
  obtain ⟨q1, q2, q3, q4⟩ := putPtrs_rest ins avs y.2 st
  have hold : ∀ b, b < w.heap.size → b ∉ bs.flatten → w'.heap[b]? = w.heap[b]? := fun b hb hn => hk.block b hb (fun h => h.elim (fun h => by omega) hn)
  have hbsM : ∀ b ∈ bs.flatten, (∃ id ∈ ptrIds ins avs, W id = some (.box b, [b])) ∨ ∃ id ∈ mutIds ins avs, ∃ lw F, W id = some (lw, F) ∧ (∀ b, lw ≠ .box b) ∧ b ∈ F := PtrOf.mem ins avs vs bs hp
  have hbsO : ∀ b ∈ bs.flatten, b < w.heap.size ∧ X.M b ∧ ¬ A b := fun b h => by
    rcases hbsM b h with ⟨id, _, e⟩ | ⟨id, _, lw, F, e, _, hF⟩
    · exact hr.own id _ _ e b (by simp)
    · exact hr.own id _ _ e b hF
  have hAbs : ∀ b, A b → b ∉ bs.flatten := fun b hb h => (hbsO b h).2.2 hb
  have hAsame : ∀ b, A b → w'.heap[b]? = w.heap[b]? := fun b hb => hold b (hr.ltA b hb) (hAbs b hb)
  have hrep : Rep (putPtrs ins avs y.2 st) w' X.M A' W V := by
    refine hr.upd q4 q1 q2 hk.size hAsame hA1 (fun b hb => ?_) (fun id lw F e b hb hA => ?_) (fun id l p hp' hl => ?_)
    · rcases hA2 b hb with h | h
      · exact Nat.lt_of_lt_of_le (hr.ltA b h) hk.size
      · exact h.2
    · obtain ⟨o1, o2, o3⟩ := hr.own id lw F e b hb
      rcases hA2 b hA with h | h
      · exact o3 h
      · omega
    · rcases putPtrs_loc ins avs y.2 vs bs st hp hpt id l hl with ⟨g1, g2, g3⟩ | g
      · refine .inl ⟨g1, fun b hb => hold b (hr.own id p.1 p.2 hp' b hb).1 (fun h => ?_)⟩
        rcases hbsM b h with ⟨id', h1, h2⟩ | ⟨id', h1, lw, F, h2, _, hF⟩
        · exact hr.apart id id' _ _ _ _ (fun e => by subst e; exact g2 h1) hp' h2 b hb (by simp)
        · exact hr.apart id id' _ _ _ _ (fun e => by subst e; exact g3 h1) hp' h2 b hb hF
      · exact .inr g
  have hkM : Kept X.M w w' := ⟨hk.os, hk.tape, hk.output, hk.size, fun b hb hM => hold b hb (fun h => hM (hbsO b h).2.1)⟩
  have hi1 : Inv X (putPtrs ins avs y.2 st) a w' A' W V := by
    refine hi.turn hrep (by rw [q2]; exact Nat.le_refl _) hkM hA1 (fun b hb => (hA2 b hb).imp (fun h => h) (fun h => hi.newM h.1)) (fun _ _ _ h => h) (fun b hb => ?_) q3
    refine hold b (hi.old hb) (fun h => ?_)
    rcases hb with hb | ⟨j, hj, e⟩
    · exact (hbsO b h).2.2 hb
    · rcases hbsM b h with ⟨id, h1, h2⟩ | ⟨id, h1, lw, F, h2, h3, hF⟩
      · by_cases e' : j = id
        · subst e'; have := hkb j h1; rw [hj] at this; cases this
        · exact hr.apart j id _ _ _ _ e' e h2 b (by simp) (by simp)
      · exact hr.apart j id _ _ _ _ (fun e' => by subst e'; rw [e] at h2; cases h2; exact h3 _ rfl) e h2 b (by simp) hF
  obtain ⟨W', h1, _, h3⟩ := outAVs_ok outs ho hi1 ⟨hOn, fun b hb => ⟨(hO b hb).2.1, hi.newM (hO b hb).1, (hO b hb).2.2⟩, fun j lw F e b hb h => by
    have := (hr.own j lw F e b h).1
    have := (hO b hb).1
    omega⟩ os st' e
  exact ⟨W', h1, h3⟩

end
end Go.Proofs.Fw
