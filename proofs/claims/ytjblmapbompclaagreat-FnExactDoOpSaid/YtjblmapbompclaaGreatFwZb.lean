/- A call under a contract. -/
import Derived.Test.YtjblmapbompclaaGreatFwZa
set_option linter.all false
namespace Go.Proofs.Fw
open Go

section
variable [GInv] {R : Type} {P : Program} {c : Cfg} {X : Ctx} {st : St} {a : Act} {w w' : World} {A A' : Nat → Prop} {W : Wit} {V : Nat → Value} {r : R} {M : Nat → Prop}
theorem Rep.upd (h : Rep st w M A W V) {W' : Wit} {st' : St} (hget : ∀ k, st'.get k = st.get k) (hnb : st'.nb = st.nb) (hA : ∀ b, A b → w'.heap[b]? = w.heap[b]?)
    (hA1 : ∀ b, A b → A' b) (hA2 : ∀ b, A' b → b < w'.heap.size) (hx : Ext W W') (hf : ∀ id, st'.nl ≤ id → W' id = none) (hnd : ∀ id lw F, W' id = some (lw, F) → F.Nodup)
    (hown : ∀ id lw F, W' id = some (lw, F) → ∀ b ∈ F, b < w'.heap.size ∧ M b ∧ ¬ A' b) (hap : ∀ id id' lw F lw' F', id ≠ id' → W' id = some (lw, F) → W' id' = some (lw', F') → ∀ b ∈ F, b ∉ F')
    (hl : ∀ id l p, W' id = some p → st'.loc id = some l → LocRep A' W' w' id l) : Rep st' w' M A' W' V :=
  ⟨hA2, hnd, hown, hap, hf, fun k => by rw [hget]; exact RepAV.mono hA1 hA hx _ _ (h.slots k), hl, fun k hk => by rw [hget]; exact h.freshb k (by rw [← hnb]; exact hk)⟩
theorem OwnRd.length : ∀ (t : Ty) {x : t.den} {S : List Nat} {cs : List Value}, OwnRd w t x S cs → cs.length = t.size
  | .unit, _, _, _, h => by simp only [OwnRd] at h; simp [h.2, Ty.size]
  | .bool, _, _, _, h => by simp only [OwnRd] at h; exact h.2.length
  | .int _, _, _, _, h => by simp only [OwnRd] at h; exact h.2.length
  | .str, _, _, _, h => by simp only [OwnRd] at h; exact h.2.length
  | .err, _, _, _, h => by simp only [OwnRd] at h; exact h.2.length
  | .sl _, _, _, _, h => by
    simp only [OwnRd] at h
    rcases h with h | ⟨_, _, _, _, _, h, _⟩
    · simp [h.2.2, Ty.size]
    · simp [h, Ty.size]
  | .pair a b, _, _, _, h => by
    simp only [OwnRd] at h
    obtain ⟨_, _, c1, c2, _, e2, h1, h2⟩ := h
    simp [e2, Ty.size, OwnRd.length a h1, OwnRd.length b h2]
theorem outAVs_ok : ∀ (outs : List OutK) {y : (outsTy outs).den} {us : List Value} {O : List Nat} {st : St} {W : Wit}, OutsRd w A outs us y O → Inv X st a w A W V → Free X w A W O → ∀ avs st', outAVs outs y st = (avs, st') →
    ∃ W', Inv X st' a w A W' V ∧ Ext W W' ∧ RepL A W' w avs us
  | [], y, us, O, st, W, h, hi, hF, avs, st', e => by
    simp only [outAVs, Prod.mk.injEq] at e
    obtain ⟨rfl, rfl⟩ := e
    exact ⟨W, hi, Ext.refl W, by simp only [RepL]; exact h.1⟩
  | o :: rr, y, us, O, st, W, h, hi, hF, avs, st', e => by
    obtain ⟨u, us', S, O', rfl, h1, h2⟩ := h
    simp only [outAVs] at e
    cases ho : o.own with
    | true =>
      rw [ho] at h1 e
      simp only [if_true, cond] at h1 e
      obtain ⟨h1, rfl⟩ := h1
      rcases e1 : o.t.ownCells y.1 st with ⟨cs, s1⟩
      rw [e1] at e
      simp only at e
      rcases e2 : outAVs rr y.2 s1 with ⟨vs, s2⟩
      rw [e2] at e
      simp only [Prod.mk.injEq] at e
      obtain ⟨rfl, rfl⟩ := e
      have key : ∀ {cc : List Value}, OwnRd w o.t y.1 S cc → (RepL A W w [] [] → True) → (∀ {W' : Wit}, RepL A W' w cs cc → RepAV A W' w (mkAV o.agg cs) u) → ∃ W', Inv X s2 a w A W' V ∧ Ext W W' ∧ RepL A W' w (mkAV o.agg cs :: vs) (u :: us') := fun {cc} hc _ hm => by
        obtain ⟨W1, i1, x1, r1, f1⟩ := ownCells_ok o.t hc hi hF cs s1 e1
        obtain ⟨W2, i2, x2, r2⟩ := outAVs_ok rr h2 i1 f1 vs s2 e2
        exact ⟨W2, i2, x1.trans x2, by simp only [RepL]; exact ⟨u, us', rfl, RepAV.ext x2 (hm r1), r2⟩⟩
      unfold OwnV at h1
      cases hag : o.agg with
      | true =>
        rw [hag] at h1 key
        simp only [if_true] at h1
        obtain ⟨cc, rfl, h1⟩ := h1
        exact key h1 (fun _ => trivial) (fun hr => by simpa using mkAV_rep (ag := true) hr (fun e => by cases e))
      | false =>
        rw [hag] at h1 key
        simp only [Bool.false_eq_true, if_false] at h1
        exact key h1 (fun _ => trivial) (fun hr => by simpa using mkAV_rep (ag := false) hr (fun _ => rfl))
    | false =>
      rw [ho] at h1 e
      simp only [Bool.false_eq_true, if_false, cond] at h1 e
      obtain ⟨h1, hS, rfl⟩ := h1
      rcases e2 : outAVs rr y.2 st with ⟨vs, s2⟩
      rw [e2] at e
      simp only [Prod.mk.injEq] at e
      obtain ⟨rfl, rfl⟩ := e
      obtain ⟨W2, i2, x2, r2⟩ := outAVs_ok rr h2 hi hF vs s2 e2
      suffices hu : RepAV A W2 w (mkAV o.agg (o.t.unpack y.1)) u from ⟨W2, i2, x2, by simp only [RepL]; exact ⟨u, us', rfl, hu, r2⟩⟩
      unfold ValRd at h1
      cases hag : o.agg with
      | true =>
        rw [hag] at h1
        simp only [if_true] at h1
        obtain ⟨cc, rfl, h1⟩ := h1
        simpa using mkAV_rep (ag := true) (unpack_rep (W := W2) o.t h1 hS) (fun e => by cases e)
      | false =>
        rw [hag] at h1
        simp only [Bool.false_eq_true, if_false] at h1
        simpa using mkAV_rep (ag := false) (unpack_rep (W := W2) o.t h1 hS) (fun _ => rfl)
theorem putRows_rest : ∀ (t : Ty) (x : t.den) (cs : List AV) (st : St), (t.putRows x cs st).2.nl = st.nl ∧ (t.putRows x cs st).2.nb = st.nb ∧ (t.putRows x cs st).2.kb = st.kb ∧ ∀ k, (t.putRows x cs st).2.get k = st.get k
  | .pair a b, x, cs, st => by
    obtain ⟨h1, h2, h3, h4⟩ := putRows_rest a x.1 cs st
    obtain ⟨g1, g2, g3, g4⟩ := putRows_rest b x.2 (a.putRows x.1 cs st).1 (a.putRows x.1 cs st).2
    simp only [Ty.putRows]
    exact ⟨g1.trans h1, g2.trans h2, g3.trans h3, fun k => (g4 k).trans (h4 k)⟩
  | .unit, _, _, _ => ⟨rfl, rfl, rfl, fun _ => rfl⟩
  | .sl t, x, [], st => ⟨rfl, rfl, rfl, fun _ => rfl⟩
  | .sl t, x, v :: r, st => by
    cases v with
    | row id => exact ⟨rfl, rfl, rfl, fun k => get_loc st id _ k⟩
    | _ => exact ⟨rfl, rfl, rfl, fun _ => rfl⟩
  | .bool, _, [], _ => ⟨rfl, rfl, rfl, fun _ => rfl⟩
  | .bool, _, _ :: _, _ => ⟨rfl, rfl, rfl, fun _ => rfl⟩
  | .int _, _, [], _ => ⟨rfl, rfl, rfl, fun _ => rfl⟩
  | .int _, _, _ :: _, _ => ⟨rfl, rfl, rfl, fun _ => rfl⟩
  | .str, _, [], _ => ⟨rfl, rfl, rfl, fun _ => rfl⟩
  | .str, _, _ :: _, _ => ⟨rfl, rfl, rfl, fun _ => rfl⟩
  | .err, _, [], _ => ⟨rfl, rfl, rfl, fun _ => rfl⟩
  | .err, _, _ :: _, _ => ⟨rfl, rfl, rfl, fun _ => rfl⟩
theorem putPtrs_rest : ∀ (ins : List PK) (avs : List AV) (y : (ptrTy ins).den) (st : St), (putPtrs ins avs y st).nl = st.nl ∧ (putPtrs ins avs y st).nb = st.nb ∧ (putPtrs ins avs y st).kb = st.kb ∧ ∀ k, (putPtrs ins avs y st).get k = st.get k
  | [], _, _, _ => ⟨rfl, rfl, rfl, fun _ => rfl⟩
  | .val _ _ :: r, [], _, _ => ⟨rfl, rfl, rfl, fun _ => rfl⟩
  | .val _ _ :: r, _ :: avs, y, st => putPtrs_rest r avs y st
  | .fn _ _ :: r, [], _, _ => ⟨rfl, rfl, rfl, fun _ => rfl⟩
  | .fn _ _ :: r, _ :: avs, y, st => putPtrs_rest r avs y st
  | .take _ _ :: r, [], _, _ => ⟨rfl, rfl, rfl, fun _ => rfl⟩
  | .take _ _ :: r, _ :: avs, y, st => putPtrs_rest r avs y st
  | .mut _ _ :: r, [], _, _ => ⟨rfl, rfl, rfl, fun _ => rfl⟩
  | .mut _ t :: r, v :: avs, y, st => by
    obtain ⟨h1, h2, h3, h4⟩ := putPtrs_rest r avs y.2 (t.putRows y.1 v.cells st).2
    obtain ⟨g1, g2, g3, g4⟩ := putRows_rest t y.1 v.cells st
    exact ⟨h1.trans g1, h2.trans g2, h3.trans g3, fun k => (h4 k).trans (g4 k)⟩
  | .ptr t :: r, [], _, _ => ⟨rfl, rfl, rfl, fun _ => rfl⟩
  | .ptr t :: r, v :: avs, y, st => by
    cases v with
    | ref id n =>
      obtain ⟨h1, h2, h3, h4⟩ := putPtrs_rest r avs y.2 (st.ev (.loc id (.box (t.unpack y.1))))
      exact ⟨h1, h2, h3, fun k => (h4 k).trans (get_loc st id _ k)⟩
    | _ => exact ⟨rfl, rfl, rfl, fun _ => rfl⟩
theorem rowIds_append : ∀ l l' : List AV, rowIds (l ++ l') = rowIds l ++ rowIds l'
  | [], _ => rfl
  | v :: l, l' => by cases v <;> simp [rowIds, rowIds_append l l']
theorem OwnL.length : ∀ (t : Ty) {x : t.den} {Ss : List (List Nat)} {cs : List Value}, OwnL w t x Ss cs → cs.length = t.size ∧ Ss.length = nSl t
  | .sl t, x, Ss, cs, h => by
    obtain ⟨S, rfl, h⟩ := h
    have := OwnRd.length (.sl t) h
    exact ⟨this, rfl⟩
  | .pair a b, x, Ss, cs, h => by
    obtain ⟨S1, S2, c1, c2, rfl, rfl, h1, h2⟩ := h
    have g1 := OwnL.length a h1
    have g2 := OwnL.length b h2
    simp [Ty.size, nSl, g1, g2]
  | .unit, x, Ss, cs, h => by obtain ⟨rfl, rfl⟩ := h; exact ⟨rfl, rfl⟩
  | .bool, x, Ss, cs, h => by obtain ⟨rfl, h⟩ := h; exact ⟨h.length, rfl⟩
  | .int _, x, Ss, cs, h => by obtain ⟨rfl, h⟩ := h; exact ⟨h.length, rfl⟩
  | .str, x, Ss, cs, h => by obtain ⟨rfl, h⟩ := h; exact ⟨h.length, rfl⟩
  | .err, x, Ss, cs, h => by obtain ⟨rfl, h⟩ := h; exact ⟨h.length, rfl⟩
theorem MutAt.length : ∀ (t : Ty) {cs : List AV} {Ss : List (List Nat)} {us : List Value}, MutAt W t cs Ss us → us.length = t.size ∧ Ss.length = nSl t
  | .sl t, cs, Ss, us, h => by
    unfold MutAt at h
    rcases h with ⟨_, rfl, rfl⟩ | ⟨id, lw, F, _, _, rfl, rfl, _⟩ <;> exact ⟨rfl, rfl⟩
  | .pair a b, cs, Ss, us, h => by
    obtain ⟨c1, c2, S1, S2, u1, u2, rfl, rfl, rfl, h1, h2⟩ := h
    have g1 := MutAt.length a h1
    have g2 := MutAt.length b h2
    simp [Ty.size, nSl, g1, g2]
  | .unit, cs, Ss, us, h => by obtain ⟨_, rfl, rfl⟩ := h; exact ⟨rfl, rfl⟩
  | .bool, cs, Ss, us, h => by obtain ⟨rfl, c, u, _, rfl, _⟩ := h; exact ⟨rfl, rfl⟩
  | .int _, cs, Ss, us, h => by obtain ⟨rfl, c, u, _, rfl, _⟩ := h; exact ⟨rfl, rfl⟩
  | .str, cs, Ss, us, h => by obtain ⟨rfl, c, u, _, rfl, _⟩ := h; exact ⟨rfl, rfl⟩
  | .err, cs, Ss, us, h => by obtain ⟨rfl, c, u, _, rfl, _⟩ := h; exact ⟨rfl, rfl⟩
theorem rows_ends : ∀ (t : Ty) {x : t.den} {cs : List AV} {Ss Ss' : List (List Nat)} {us : List Value}, MutAt W t cs Ss us → OwnL w t x Ss' us →
    ∃ es : List (Nat × List Nat), (es.map Prod.snd).flatten = Ss'.flatten ∧ es.map Prod.fst = rowIds cs ∧ (∀ p ∈ es, ∃ lw F, W p.1 = some (lw, F) ∧ ∀ b, lw ≠ .box b) ∧
      ∀ W' : Wit, (∀ p ∈ es, ∀ lw F, W p.1 = some (lw, F) → W' p.1 = some (lw, p.2)) → ∀ (rest : List AV) (st : St),
        (t.putRows x (cs ++ rest) st).1 = rest ∧ ∀ id l, (t.putRows x (cs ++ rest) st).2.loc id = some l → (st.loc id = some l ∧ id ∉ rowIds cs) ∨ LocRep A W' w id l
  | .sl t, x, cs, Ss, Ss', us, h, ho => by
    unfold MutAt at h
    obtain ⟨S, rfl, ho⟩ := ho
    unfold OwnRd at ho
    rcases h with ⟨rfl, rfl, rfl⟩ | ⟨id, lw, F, rfl, hW, rfl, rfl, hlw⟩
    · have hS : S = [] := by
        rcases ho with ⟨_, h, _⟩ | ⟨b, off, cap, S', _, h3, _⟩
        · exact h
        · simp at h3
      subst hS
      exact ⟨[], rfl, rfl, by simp, fun W' _ rest st => ⟨rfl, fun id l e => .inl ⟨e, by simp [rowIds]⟩⟩⟩
    · refine ⟨[(id, S)], rfl, rfl, fun p hp => ?_, fun W' hW' rest st => ⟨rfl, fun id' l e => ?_⟩⟩
      · simp only [List.mem_singleton] at hp
        subst hp
        refine ⟨lw, F, hW, fun b e => ?_⟩
        rcases hlw with h | ⟨_, _, _, _, h⟩ <;> rw [h] at e <;> cases e
      · have hw := hW' (id, S) (by simp) lw F hW
        simp only at hw
        simp only [List.cons_append, List.nil_append, Ty.putRows] at e
        rw [loc_loc] at e
        by_cases e' : id = id'
        · subst e'
          simp only [if_true, Option.some.injEq] at e
          subst e
          right
          rcases ho with ⟨rfl, rfl, h3⟩ | ⟨b, off, cap, S', rfl, h3, h4, h5, h6, h7⟩
          · rcases hlw with rfl | ⟨b, off, len, cap, rfl⟩
            · exact .inl ⟨hw, rfl⟩
            · simp [LW.val] at h3
          · rcases hlw with rfl | ⟨b', off', len', cap', rfl⟩
            · simp [LW.val] at h3
            · simp only [LW.val, List.cons.injEq, Value.slice.injEq, Option.some.injEq, Addr.mk.injEq, and_true] at h3
              obtain ⟨⟨rfl, rfl⟩, rfl, rfl⟩ := h3
              exact .inr ⟨_, _, _, S', by simpa using hw, h4, h5, h6, h7, fun h => by cases h⟩
        · rw [if_neg e'] at e
          exact .inl ⟨e, by simp [rowIds, Ne.symm e']⟩
  | .pair a b, x, cs, Ss, Ss', us, h, ho => by
    obtain ⟨c1, c2, S1, S2, u1, u2, rfl, rfl, rfl, h1, h2⟩ := h
    obtain ⟨T1, T2, v1, v2, rfl, e2, h3, h4⟩ := ho
    have l1 := MutAt.length a h1
    have l2 := OwnL.length a h3
    obtain ⟨rfl, rfl⟩ := List.append_inj e2 (by rw [l1.1, l2.1])
    obtain ⟨es1, g1, g2, g3, g4⟩ := rows_ends a h1 h3
    obtain ⟨es2, k1, k2, k3, k4⟩ := rows_ends b h2 h4
    refine ⟨es1 ++ es2, by simp only [List.map_append, List.flatten_append, g1, k1], by rw [List.map_append, g2, k2, rowIds_append], fun p hp => (List.mem_append.1 hp).elim (g3 p) (k3 p), fun W' hW' rest st => ?_⟩
    obtain ⟨m1, m2⟩ := g4 W' (fun p hp => hW' p (by simp [hp])) (c2 ++ rest) st
    obtain ⟨n1, n2⟩ := k4 W' (fun p hp => hW' p (by simp [hp])) rest (a.putRows x.1 (c1 ++ (c2 ++ rest)) st).2
    simp only [Ty.putRows, List.append_assoc]
    rw [m1]
    refine ⟨n1, fun id l e => ?_⟩
    rcases n2 id l e with ⟨q1, q2⟩ | q
    · rcases m2 id l q1 with ⟨q3, q4⟩ | q
      · exact .inl ⟨q3, by rw [rowIds_append]; simp [q2, q4]⟩
      · exact .inr q
    · exact .inr q
  | .unit, x, cs, Ss, Ss', us, h, ho => by
    obtain ⟨rfl, _, _⟩ := h
    obtain ⟨rfl, _⟩ := ho
    exact ⟨[], rfl, rfl, by simp, fun W' _ rest st => ⟨rfl, fun id l e => .inl ⟨e, by simp [rowIds]⟩⟩⟩
  | .bool, x, cs, Ss, Ss', us, h, ho => by
    obtain ⟨_, c, u, rfl, _, hr⟩ := h
    obtain ⟨rfl, _⟩ := ho
    exact ⟨[], rfl, by rw [hr]; rfl, by simp, fun W' _ rest st => ⟨rfl, fun id l e => .inl ⟨e, by rw [hr]; simp⟩⟩⟩
  | .int _, x, cs, Ss, Ss', us, h, ho => by
    obtain ⟨_, c, u, rfl, _, hr⟩ := h
    obtain ⟨rfl, _⟩ := ho
    exact ⟨[], rfl, by rw [hr]; rfl, by simp, fun W' _ rest st => ⟨rfl, fun id l e => .inl ⟨e, by rw [hr]; simp⟩⟩⟩
  | .str, x, cs, Ss, Ss', us, h, ho => by
    obtain ⟨_, c, u, rfl, _, hr⟩ := h
    obtain ⟨rfl, _⟩ := ho
    exact ⟨[], rfl, by rw [hr]; rfl, by simp, fun W' _ rest st => ⟨rfl, fun id l e => .inl ⟨e, by rw [hr]; simp⟩⟩⟩
  | .err, x, cs, Ss, Ss', us, h, ho => by
    obtain ⟨_, c, u, rfl, _, hr⟩ := h
    obtain ⟨rfl, _⟩ := ho
    exact ⟨[], rfl, by rw [hr]; rfl, by simp, fun W' _ rest st => ⟨rfl, fun id l e => .inl ⟨e, by rw [hr]; simp⟩⟩⟩
theorem MutV.open {ag : Bool} {t : Ty} {v : AV} {cs : List AV} {Ss Ss' : List (List Nat)} {u : Value} {y : t.den} (hc : argCells ag v = some cs) (h : MutV W ag t cs Ss u) (ho : OwnLV w ag t y Ss' u) :
    v.cells = cs ∧ Ss.length = nSl t ∧ Ss'.length = nSl t ∧ ∃ us, MutAt W t cs Ss us ∧ OwnL w t y Ss' us := by
  unfold MutV at h
  unfold OwnLV at ho
  have hv : v.cells = cs := by
    unfold argCells at hc
    split at hc
    · obtain ⟨_, hc⟩ := cond_some hc
      simp only [Option.some.injEq] at hc
      rw [← hc]; rfl
    · rename_i hne
      cases hag : ag with
      | true => rw [hag] at hc; simp at hc
      | false =>
        rw [hag] at hc
        simp only [cond, Option.some.injEq] at hc
        rw [← hc]
        cases v <;> first | rfl | exact absurd rfl (hne _)
  cases hag : ag with
  | true =>
    rw [hag] at h ho
    simp only [if_true] at h ho
    obtain ⟨ws, rfl, h⟩ := h
    obtain ⟨ws', e, ho⟩ := ho
    simp only [Value.agg.injEq] at e
    have e : ws = ws' := by simpa using e
    subst e
    exact ⟨hv, (MutAt.length t h).2, (OwnL.length t ho).2, ws, h, ho⟩
  | false =>
    rw [hag] at h ho
    simp only [Bool.false_eq_true, if_false] at h ho
    exact ⟨hv, (MutAt.length t h).2, (OwnL.length t ho).2, [u], h, ho⟩
theorem MutV.at {ag : Bool} {t : Ty} {cs : List AV} {Ss : List (List Nat)} {u : Value} (h : MutV W ag t cs Ss u) : ∃ us, MutAt W t cs Ss us := by
  unfold MutV at h
  split at h
  · obtain ⟨ws, _, h⟩ := h; exact ⟨ws, h⟩
  · exact ⟨_, h⟩
theorem MutV.len {ag : Bool} {t : Ty} {cs : List AV} {Ss : List (List Nat)} {u : Value} (h : MutV W ag t cs Ss u) : Ss.length = nSl t := by
  obtain ⟨us, h⟩ := h.at
  exact (MutAt.length t h).2
theorem ends_of : ∀ (ins : List PK) (avs : List AV) (y : (ptrTy ins).den) (vs : List Value) (bs bs' : List (List Nat)), PtrOf W ins avs vs bs → PtrsRd w A ins vs bs bs' y →
    ∃ es : List (Nat × List Nat), (es.map Prod.snd).flatten = bs'.flatten ∧
      (∀ p ∈ es, (p.1 ∈ ptrIds ins avs ∧ ∃ b, W p.1 = some (.box b, [b]) ∧ p.2 = [b]) ∨ (p.1 ∈ wrIds ins avs ∧ ∃ lw F, W p.1 = some (lw, F) ∧ ∀ b, lw ≠ .box b)) ∧
      ((ptrIds ins avs).Nodup → (wrIds ins avs).Nodup → (es.map Prod.fst).Nodup) ∧
      (∀ id, id ∈ ptrIds ins avs ∨ id ∈ wrIds ins avs → id ∈ es.map Prod.fst) ∧
      ∀ W' : Wit, (∀ p ∈ es, ∀ lw F, W p.1 = some (lw, F) → W' p.1 = some (lw, p.2)) → ∀ (st : St) (id : Nat) (l : Loc), (putPtrs ins avs y st).loc id = some l →
        (st.loc id = some l ∧ id ∉ ptrIds ins avs ∧ id ∉ wrIds ins avs) ∨ LocRep A W' w id l
  | [], avs, _, _, _, bs', h, hp => by
    cases avs with
    | nil =>
      have hp : bs' = [] := hp
      subst hp
      exact ⟨[], rfl, by simp, by simp, by simp [ptrIds, wrIds], fun W' _ st id l e => .inl ⟨e, by simp [ptrIds], by simp [wrIds]⟩⟩
    | cons _ _ => exact h.elim
  | .val _ _ :: r, [], _, _, _, _, h, _ => h.elim
  | .val _ _ :: r, v :: avs, y, vs, bs, bs', h, hp => by
    exact ends_of r avs y vs.tail bs bs' h hp
  | .fn _ _ :: r, [], _, _, _, _, h, _ => h.elim
  | .fn _ _ :: r, v :: avs, y, vs, bs, bs', h, hp => by
    exact ends_of r avs y vs.tail bs bs' h hp
  | .take _ _ :: r, [], _, _, _, _, h, _ => h.elim
  | .take ag t :: r, v :: avs, y, vs, bs, bs', h, hp => by
    obtain ⟨u, us, Ss, b1, cs, rfl, rfl, hc, hrc, hm, h2⟩ := h
    obtain ⟨Ss2, b1', e2, hl2, h3⟩ := hp
    obtain ⟨rfl, rfl⟩ := List.append_inj e2 (by rw [hm.len, hl2])
    exact ends_of r avs y us b1 bs' h2 h3
  | .mut _ _ :: r, [], _, _, _, _, h, _ => h.elim
  | .mut ag t :: r, v :: avs, y, vs, bs, bs', h, hp => by
    obtain ⟨u, us, Ss, b1, cs, rfl, rfl, hc, hrc, hm, h2⟩ := h
    obtain ⟨u', us', Ss2, Ss', b1', b2, e1, e2, rfl, hl2, ho, h3⟩ := hp
    simp only [List.cons.injEq] at e1
    obtain ⟨rfl, rfl⟩ := e1
    obtain ⟨hv, l1, l2, ws, q1, q2⟩ := hm.open hc ho
    obtain ⟨rfl, rfl⟩ := List.append_inj e2 (by rw [l1, hl2])
    obtain ⟨es1, g1, g2, g3, g4⟩ := rows_ends (A := A) t q1 q2
    obtain ⟨es2, k1, k2, k3, k4, k5⟩ := ends_of r avs y.2 us b1 b2 h2 h3
    have hpI : ptrIds (.mut ag t :: r) (v :: avs) = ptrIds r avs := rfl
    have hmI : wrIds (.mut ag t :: r) (v :: avs) = rowIds cs ++ wrIds r avs := by simp only [wrIds, hv]
    rw [hpI, hmI]
    refine ⟨es1 ++ es2, by simp only [List.map_append, List.flatten_append, g1, k1], fun p hp => ?_, fun hn hm' => ?_, fun id hid => ?_, fun W' hW' st id l e => ?_⟩
    · rcases List.mem_append.1 hp with hp | hp
      · refine .inr ⟨?_, g3 p hp⟩
        rw [← g2, List.mem_append]
        exact .inl (List.mem_map_of_mem hp)
      · rcases k2 p hp with h | ⟨h1, h2⟩
        · exact .inl h
        · exact .inr ⟨by simp [h1], h2⟩
    · rw [List.nodup_append] at hm'
      rw [List.map_append, List.nodup_append]
      refine ⟨by rw [g2]; exact hm'.1, k3 hn hm'.2.1, fun x hx z hz e => ?_⟩
      subst e
      obtain ⟨p, hp, rfl⟩ := List.mem_map.1 hx
      obtain ⟨q, hq, e⟩ := List.mem_map.1 hz
      rw [g2] at hx
      rcases k2 q hq with ⟨_, b, h1, _⟩ | ⟨h1, _⟩
      · obtain ⟨lw, F, h3, h4⟩ := g3 p hp
        rw [e, h3] at h1
        simp only [Option.some.injEq, Prod.mk.injEq] at h1
        exact h4 b h1.1
      · rw [e] at h1
        exact hm'.2.2 _ hx _ h1 rfl
    · rw [List.map_append, List.mem_append, g2]
      rw [List.mem_append] at hid
      rcases hid with h | h | h
      · exact .inr (k4 id (.inl h))
      · exact .inl h
      · exact .inr (k4 id (.inr h))
    · have := (g4 W' (fun p hp => hW' p (by simp [hp])) [] st).2
      rw [List.append_nil] at this
      simp only [putPtrs, hv] at e
      rcases k5 W' (fun p hp => hW' p (by simp [hp])) _ id l e with ⟨m1, m2, m3⟩ | m
      · rcases this id l m1 with ⟨n1, n2⟩ | n
        · refine .inl ⟨n1, m2, ?_⟩
          rw [List.mem_append, not_or]
          exact ⟨n2, m3⟩
        · exact .inr n
      · exact .inr m
  | .ptr t :: r, [], _, _, _, _, h, _ => h.elim
  | .ptr t :: r, v :: avs, y, vs, bs, bs', h, hp => by
    cases v with
    | ref i n =>
      obtain ⟨b, b1, rfl, h1, h2⟩ := h
      obtain ⟨b', b1', b2, cs, S, e1, rfl, p1, p2, p3, p4, p5⟩ := hp
      simp only [List.cons.injEq, and_true] at e1
      obtain ⟨rfl, rfl⟩ := e1
      obtain ⟨es, k1, k2, k3, k4, k5⟩ := ends_of r avs y.2 vs.tail b1 b2 h2 p5
      have hpI : ptrIds (.ptr t :: r) (AV.ref i n :: avs) = i :: ptrIds r avs := rfl
      have hmI : wrIds (.ptr t :: r) (AV.ref i n :: avs) = wrIds r avs := rfl
      rw [hpI, hmI]
      refine ⟨(i, [b]) :: es, by simp [k1], fun p hp => ?_, fun hn hm => ?_, fun id hid => ?_, fun W' hW' st id l e => ?_⟩
      · rcases List.mem_cons.1 hp with rfl | hp
        · exact .inl ⟨by simp, b, h1, rfl⟩
        · rcases k2 p hp with ⟨h1, h2⟩ | h
          · exact .inl ⟨by simp [h1], h2⟩
          · exact .inr h
      · rw [List.nodup_cons] at hn
        rw [List.map_cons, List.nodup_cons]
        refine ⟨fun hx => ?_, k3 hn.2 hm⟩
        obtain ⟨q, hq, e⟩ := List.mem_map.1 hx
        have e : q.1 = i := e
        rcases k2 q hq with ⟨g, _⟩ | ⟨_, lw, F, g, g'⟩
        · rw [e] at g; exact hn.1 g
        · rw [e, h1] at g
          simp only [Option.some.injEq, Prod.mk.injEq] at g
          exact g' b g.1.symm
      · rw [List.map_cons, List.mem_cons]
        rw [List.mem_cons] at hid
        rcases hid with (h | h) | h
        · exact .inl h
        · exact .inr (k4 id (.inl h))
        · exact .inr (k4 id (.inr h))
      · have hw := hW' (i, [b]) (by simp) _ _ h1
        rcases k5 W' (fun p hp => hW' p (by simp [hp])) _ id l e with ⟨g1, g2, g3⟩ | g
        · rw [loc_loc] at g1
          by_cases e' : i = id
          · subst e'
            simp only [if_true, Option.some.injEq] at g1
            subst g1
            exact .inr ⟨b, cs, hw, p1, p2, unpack_rep t p3 p4⟩
          · rw [if_neg e'] at g1
            refine .inl ⟨g1, ?_, g3⟩
            simp only [List.mem_cons, not_or]
            exact ⟨fun e => e' e.symm, g2⟩
        · exact .inr g
    | _ => exact h.elim
theorem ends_disj : ∀ {es : List (Nat × List Nat)}, (es.map Prod.snd).flatten.Nodup → ∀ p ∈ es, ∀ q ∈ es, p.1 ≠ q.1 → ∀ b ∈ p.2, b ∉ q.2
  | [], _, p, hp, _, _, _, _, _ => by cases hp
  | e :: es, hn, p, hp, q, hq, hpq, b, hb => by
    simp only [List.map_cons, List.flatten_cons] at hn
    rw [List.nodup_append] at hn
    rcases List.mem_cons.1 hp with hp | hp <;> rcases List.mem_cons.1 hq with hq | hq
    · exact absurd (by rw [hp, hq]) hpq
    · exact fun h => hn.2.2 b (by rw [← hp]; exact hb) b (List.mem_flatten.2 ⟨q.2, List.mem_map_of_mem hq, h⟩) rfl
    · exact fun h => hn.2.2 b (by rw [← hq]; exact h) b (List.mem_flatten.2 ⟨p.2, List.mem_map_of_mem hp, hb⟩) rfl
    · exact ends_disj hn.2.1 p hp q hq hpq b hb
theorem ends_nodup : ∀ {es : List (Nat × List Nat)}, (es.map Prod.snd).flatten.Nodup → ∀ p ∈ es, p.2.Nodup
  | [], _, p, hp => by cases hp
  | e :: es, hn, p, hp => by
    simp only [List.map_cons, List.flatten_cons] at hn
    rw [List.nodup_append] at hn
    rcases List.mem_cons.1 hp with hp | hp
    · rw [hp]; exact hn.1
    · exact ends_nodup hn.2.1 p hp
theorem assoc_get : ∀ {es : List (Nat × List Nat)}, (es.map Prod.fst).Nodup → ∀ p ∈ es, assoc p.1 es = some p.2
  | [], _, p, hp => by cases hp
  | e :: es, hn, p, hp => by
    simp only [List.map_cons, List.nodup_cons] at hn
    obtain ⟨i, F⟩ := e
    simp only [assoc]
    rcases List.mem_cons.1 hp with rfl | hp
    · simp
    · have : i ≠ p.1 := fun e => hn.1 (by simp only [e]; exact List.mem_map_of_mem hp)
      cases hb : Nat.beq i p.1 with
      | true => exact absurd (Nat.eq_of_beq_eq_true hb) this
      | false => exact assoc_get hn.2 p hp
theorem assoc_none : ∀ {es : List (Nat × List Nat)} {id : Nat}, assoc id es = none → id ∉ es.map Prod.fst
  | [], _, _ => by simp
  | (i, F) :: es, id, h => by
    simp only [assoc] at h
    cases hb : Nat.beq i id with
    | true => rw [hb] at h; cases h
    | false =>
      rw [hb] at h
      rw [List.map_cons, List.mem_cons, not_or]
      exact ⟨fun e => Nat.ne_of_beq_eq_false hb e.symm, assoc_none h⟩
def endW (W : Wit) (es : List (Nat × List Nat)) : Wit := fun id => match assoc id es with | some F => (W id).map fun p => (p.1, F) | none => W id
theorem endW_of {es : List (Nat × List Nat)} (hn : (es.map Prod.fst).Nodup) : ∀ p ∈ es, ∀ lw F, W p.1 = some (lw, F) → endW W es p.1 = some (lw, p.2) := fun p hp lw F e => by
  unfold endW
  rw [assoc_get hn p hp, e]
  rfl
theorem endW_some {es : List (Nat × List Nat)} {id : Nat} {lw : LW} {F : List Nat} (h : endW W es id = some (lw, F)) : ((id, F) ∈ es ∧ ∃ F0, W id = some (lw, F0)) ∨ (id ∉ es.map Prod.fst ∧ W id = some (lw, F)) := by
  unfold endW at h
  cases ha : assoc id es with
  | none => rw [ha] at h; exact .inr ⟨assoc_none ha, h⟩
  | some G =>
    rw [ha] at h
    left
    cases hw : W id with
    | none => rw [hw] at h; cases h
    | some p =>
      rw [hw] at h
      simp only [Option.map_some, Option.some.injEq, Prod.mk.injEq] at h
      obtain ⟨rfl, rfl⟩ := h
      exact ⟨assoc_mem ha, p.2, rfl⟩
theorem endW_ext {es : List (Nat × List Nat)} : Ext W (endW W es) := fun id lw F e => by
  unfold endW
  cases ha : assoc id es with
  | none => exact ⟨F, e⟩
  | some G => exact ⟨G, by rw [e]; rfl⟩
theorem MutAt.mem : ∀ (t : Ty) {cs : List AV} {Ss : List (List Nat)} {us : List Value}, MutAt W t cs Ss us → ∀ b ∈ Ss.flatten, ∃ id ∈ rowIds cs, ∃ lw F, W id = some (lw, F) ∧ (∀ b, lw ≠ .box b) ∧ b ∈ F
  | .sl t, cs, Ss, us, h, b, hb => by
    unfold MutAt at h
    rcases h with ⟨rfl, rfl, _⟩ | ⟨id, lw, F, rfl, hW, rfl, _, hlw⟩
    · simp at hb
    · refine ⟨id, by simp [rowIds], lw, F, hW, fun b e => ?_, by simpa using hb⟩
      rcases hlw with h | ⟨_, _, _, _, h⟩ <;> rw [h] at e <;> cases e
  | .pair p q, cs, Ss, us, h, b, hb => by
    obtain ⟨c1, c2, S1, S2, u1, u2, rfl, rfl, rfl, h1, h2⟩ := h
    rw [List.flatten_append, List.mem_append] at hb
    rcases hb with hb | hb
    · obtain ⟨id, h3, h4⟩ := MutAt.mem p h1 b hb
      exact ⟨id, by rw [rowIds_append]; simp [h3], h4⟩
    · obtain ⟨id, h3, h4⟩ := MutAt.mem q h2 b hb
      exact ⟨id, by rw [rowIds_append]; simp [h3], h4⟩
  | .unit, cs, Ss, us, h, b, hb => by obtain ⟨_, rfl, _⟩ := h; simp at hb
  | .bool, cs, Ss, us, h, b, hb => by obtain ⟨rfl, _⟩ := h; simp at hb
  | .int _, cs, Ss, us, h, b, hb => by obtain ⟨rfl, _⟩ := h; simp at hb
  | .str, cs, Ss, us, h, b, hb => by obtain ⟨rfl, _⟩ := h; simp at hb
  | .err, cs, Ss, us, h, b, hb => by obtain ⟨rfl, _⟩ := h; simp at hb
theorem MutAt.nodup {hr : Rep st w M A W V} : ∀ (t : Ty) {cs : List AV} {Ss : List (List Nat)} {us : List Value}, MutAt W t cs Ss us → (rowIds cs).Nodup → Ss.flatten.Nodup
  | .sl t, cs, Ss, us, h, hn => by
    unfold MutAt at h
    rcases h with ⟨rfl, rfl, _⟩ | ⟨id, lw, F, rfl, hW, rfl, _, _⟩
    · simp
    · simpa using hr.nodup id lw F hW
  | .pair p q, cs, Ss, us, h, hn => by
    obtain ⟨c1, c2, S1, S2, u1, u2, rfl, rfl, rfl, h1, h2⟩ := h
    rw [rowIds_append, List.nodup_append] at hn
    rw [List.flatten_append, List.nodup_append]
    refine ⟨MutAt.nodup (hr := hr) p h1 hn.1, MutAt.nodup (hr := hr) q h2 hn.2.1, fun x hx y hy e => ?_⟩
    subst e
    obtain ⟨i, i1, lw, F, i2, _, i3⟩ := MutAt.mem p h1 x hx
    obtain ⟨j, j1, lw', F', j2, _, j3⟩ := MutAt.mem q h2 x hy
    exact hr.apart i j _ _ _ _ (fun e => hn.2.2 i i1 j j1 e) i2 j2 x i3 j3
  | .unit, cs, Ss, us, h, hn => by obtain ⟨_, rfl, _⟩ := h; simp
  | .bool, cs, Ss, us, h, hn => by obtain ⟨rfl, _⟩ := h; simp
  | .int _, cs, Ss, us, h, hn => by obtain ⟨rfl, _⟩ := h; simp
  | .str, cs, Ss, us, h, hn => by obtain ⟨rfl, _⟩ := h; simp
  | .err, cs, Ss, us, h, hn => by obtain ⟨rfl, _⟩ := h; simp
theorem MutAt.ext {W' : Wit} : ∀ (t : Ty) {cs : List AV} {Ss : List (List Nat)} {us : List Value}, (∀ id ∈ rowIds cs, W' id = W id) → MutAt W t cs Ss us → MutAt W' t cs Ss us
  | .sl t, cs, Ss, us, hx, h => by
    unfold MutAt at h ⊢
    rcases h with h | ⟨id, lw, F, rfl, hW, h⟩
    · exact .inl h
    · exact .inr ⟨id, lw, F, rfl, by rw [hx id (by simp [rowIds])]; exact hW, h⟩
  | .pair p q, cs, Ss, us, hx, h => by
    obtain ⟨c1, c2, S1, S2, u1, u2, rfl, rfl, rfl, h1, h2⟩ := h
    rw [rowIds_append] at hx
    exact ⟨c1, c2, S1, S2, u1, u2, rfl, rfl, rfl, MutAt.ext p (fun id h => hx id (by simp [h])) h1, MutAt.ext q (fun id h => hx id (by simp [h])) h2⟩
  | .unit, _, _, _, _, h => h
  | .bool, _, _, _, _, h => h
  | .int _, _, _, _, _, h => h
  | .str, _, _, _, _, h => h
  | .err, _, _, _, _, h => h
theorem MutV.ext {W' : Wit} {ag : Bool} {t : Ty} {cs : List AV} {Ss : List (List Nat)} {u : Value} (hx : ∀ id ∈ rowIds cs, W' id = W id) (h : MutV W ag t cs Ss u) : MutV W' ag t cs Ss u := by
  unfold MutV at h ⊢
  split at h
  · rename_i hag
    obtain ⟨ws, e, h⟩ := h; rw [if_pos hag]; exact ⟨ws, e, MutAt.ext t hx h⟩
  · rename_i hag
    rw [if_neg hag]; exact MutAt.ext t hx h
theorem PtrOf.mem : ∀ (ins : List PK) (avs : List AV) (vs : List Value) (bs : List (List Nat)), PtrOf W ins avs vs bs → ∀ b ∈ bs.flatten, (∃ id ∈ ptrIds ins avs, W id = some (.box b, [b])) ∨ ∃ id ∈ mutIds ins avs, ∃ lw F, W id = some (lw, F) ∧ (∀ b, lw ≠ .box b) ∧ b ∈ F
  | [], avs, vs, bs, h, b, hb => by
    cases avs with
    | nil => rw [show bs = [] from h] at hb; simp at hb
    | cons _ _ => exact h.elim
  | .val _ _ :: r, [], _, _, h, _, _ => h.elim
  | .val _ _ :: r, v :: avs, vs, bs, h, b, hb => by
    have := PtrOf.mem r avs vs.tail bs h b hb
    simpa only [ptrIds, mutIds] using this
  | .fn _ _ :: r, [], _, _, h, _, _ => h.elim
  | .fn _ _ :: r, v :: avs, vs, bs, h, b, hb => by
    have := PtrOf.mem r avs vs.tail bs h b hb
    simpa only [ptrIds, mutIds] using this
  | .mut _ _ :: r, [], _, _, h, _, _ => h.elim
  | .mut ag t :: r, v :: avs, vs, bs, h, b, hb => by
    obtain ⟨u, us, Ss, bs', cs, rfl, rfl, hc, hrc, hm, h2⟩ := h
    rw [List.flatten_append, List.mem_append] at hb
    rcases hb with hb | hb
    · obtain ⟨ws, hm⟩ := hm.at
      obtain ⟨id, h3, h4⟩ := MutAt.mem t hm b hb
      exact .inr ⟨id, by simp only [mutIds, hrc, List.mem_append]; exact .inl h3, h4⟩
    · rcases PtrOf.mem r avs us bs' h2 b hb with ⟨id, h3, h4⟩ | ⟨id, h3, h4⟩
      · exact .inl ⟨id, by simpa only [ptrIds] using h3, h4⟩
      · exact .inr ⟨id, by simp only [mutIds, List.mem_append]; exact .inr h3, h4⟩
  | .take _ _ :: r, [], _, _, h, _, _ => h.elim
  | .take ag t :: r, v :: avs, vs, bs, h, b, hb => by
    obtain ⟨u, us, Ss, bs', cs, rfl, rfl, hc, hrc, hm, h2⟩ := h
    rw [List.flatten_append, List.mem_append] at hb
    rcases hb with hb | hb
    · obtain ⟨ws, hm⟩ := hm.at
      obtain ⟨id, h3, h4⟩ := MutAt.mem t hm b hb
      exact .inr ⟨id, by simp only [mutIds, hrc, List.mem_append]; exact .inl h3, h4⟩
    · rcases PtrOf.mem r avs us bs' h2 b hb with ⟨id, h3, h4⟩ | ⟨id, h3, h4⟩
      · exact .inl ⟨id, by simpa only [ptrIds] using h3, h4⟩
      · exact .inr ⟨id, by simp only [mutIds, List.mem_append]; exact .inr h3, h4⟩
  | .ptr t :: r, [], _, _, h, _, _ => h.elim
  | .ptr t :: r, v :: avs, vs, bs, h, b, hb => by
    cases v with
    | ref i n =>
      obtain ⟨b', bs', rfl, h1, h2⟩ := h
      simp only [List.flatten_cons, List.cons_append, List.nil_append, List.mem_cons] at hb
      rcases hb with rfl | hb
      · exact .inl ⟨i, by simp [ptrIds], h1⟩
      · rcases PtrOf.mem r avs vs.tail bs' h2 b hb with ⟨id, g1, g2⟩ | ⟨id, g1, g2⟩
        · exact .inl ⟨id, by simp [ptrIds, g1], g2⟩
        · exact .inr ⟨id, by simpa only [mutIds] using g1, g2⟩
    | _ => exact h.elim
theorem PtrOf.nodup {hr : Rep st w M A W V} : ∀ (ins : List PK) (avs : List AV) (vs : List Value) (bs : List (List Nat)), PtrOf W ins avs vs bs → (ptrIds ins avs).Nodup → (mutIds ins avs).Nodup → bs.flatten.Nodup
  | [], avs, vs, bs, h, _, _ => by
    cases avs with
    | nil => rw [show bs = [] from h]; simp
    | cons _ _ => exact h.elim
  | .val _ _ :: r, [], _, _, h, _, _ => h.elim
  | .val _ _ :: r, v :: avs, vs, bs, h, hn, hm => PtrOf.nodup (hr := hr) r avs vs.tail bs h (by simpa only [ptrIds] using hn) (by simpa only [mutIds] using hm)
  | .fn _ _ :: r, [], _, _, h, _, _ => h.elim
  | .fn _ _ :: r, v :: avs, vs, bs, h, hn, hm => PtrOf.nodup (hr := hr) r avs vs.tail bs h (by simpa only [ptrIds] using hn) (by simpa only [mutIds] using hm)
  | .mut _ _ :: r, [], _, _, h, _, _ => h.elim
  | .mut ag t :: r, v :: avs, vs, bs, h, hn, hd => by
    obtain ⟨u, us, Ss, bs', cs, rfl, rfl, hc, hrc, hm, h2⟩ := h
    obtain ⟨ws, hm⟩ := hm.at
    simp only [mutIds, hrc] at hd
    rw [List.nodup_append] at hd
    rw [List.flatten_append, List.nodup_append]
    refine ⟨MutAt.nodup (hr := hr) t hm hd.1, PtrOf.nodup (hr := hr) r avs us bs' h2 (by simpa only [ptrIds] using hn) hd.2.1, fun x hx y hy e => ?_⟩
    subst e
    obtain ⟨i, i1, lw, F, i2, i4, i3⟩ := MutAt.mem t hm x hx
    rcases PtrOf.mem r avs us bs' h2 x hy with ⟨j, j1, j2⟩ | ⟨j, j1, lw', F', j2, _, j3⟩
    · exact hr.apart i j _ _ _ _ (fun e => by subst e; rw [i2] at j2; cases j2; exact i4 _ rfl) i2 j2 x i3 (by simp)
    · exact hr.apart i j _ _ _ _ (fun e => hd.2.2 i i1 j j1 e) i2 j2 x i3 j3
  | .take _ _ :: r, [], _, _, h, _, _ => h.elim
  | .take ag t :: r, v :: avs, vs, bs, h, hn, hd => by
    obtain ⟨u, us, Ss, bs', cs, rfl, rfl, hc, hrc, hm, h2⟩ := h
    obtain ⟨ws, hm⟩ := hm.at
    simp only [mutIds, hrc] at hd
    rw [List.nodup_append] at hd
    rw [List.flatten_append, List.nodup_append]
    refine ⟨MutAt.nodup (hr := hr) t hm hd.1, PtrOf.nodup (hr := hr) r avs us bs' h2 (by simpa only [ptrIds] using hn) hd.2.1, fun x hx y hy e => ?_⟩
    subst e
    obtain ⟨i, i1, lw, F, i2, i4, i3⟩ := MutAt.mem t hm x hx
    rcases PtrOf.mem r avs us bs' h2 x hy with ⟨j, j1, j2⟩ | ⟨j, j1, lw', F', j2, _, j3⟩
    · exact hr.apart i j _ _ _ _ (fun e => by subst e; rw [i2] at j2; cases j2; exact i4 _ rfl) i2 j2 x i3 (by simp)
    · exact hr.apart i j _ _ _ _ (fun e => hd.2.2 i i1 j j1 e) i2 j2 x i3 j3
  | .ptr t :: r, [], _, _, h, _, _ => h.elim
  | .ptr t :: r, v :: avs, vs, bs, h, hn, hm => by
    cases v with
    | ref i n =>
      obtain ⟨b', bs', rfl, h1, h2⟩ := h
      simp only [ptrIds, List.nodup_cons] at hn
      simp only [List.flatten_cons, List.cons_append, List.nil_append]
      rw [List.nodup_cons]
      refine ⟨fun hb => ?_, PtrOf.nodup (hr := hr) r avs vs.tail bs' h2 hn.2 (by simpa only [mutIds] using hm)⟩
      rcases PtrOf.mem r avs vs.tail bs' h2 b' hb with ⟨id, g1, g2⟩ | ⟨id, g1, lw, F, g2, g4, g3⟩
      · exact hr.apart i id _ _ _ _ (fun e => by subst e; exact hn.1 g1) h1 g2 b' (by simp) (by simp)
      · exact hr.apart i id _ _ _ _ (fun e => by subst e; rw [h1] at g2; cases g2; exact g4 _ rfl) h1 g2 b' (by simp) g3
    | _ => exact h.elim
theorem PtrOf.ext {W' : Wit} (hx : ∀ j b, W j = some (.box b, [b]) → W' j = some (.box b, [b])) : ∀ (ins : List PK) (avs : List AV) (vs : List Value) (bs : List (List Nat)), (∀ id ∈ mutIds ins avs, W' id = W id) → PtrOf W ins avs vs bs → PtrOf W' ins avs vs bs
  | [], [], _, _, _, h => h
  | [], _ :: _, _, _, _, h => h.elim
  | .val _ _ :: r, [], _, _, _, h => h.elim
  | .val _ _ :: r, v :: avs, vs, bs, hm, h => PtrOf.ext hx r avs vs.tail bs (by simpa only [mutIds] using hm) h
  | .fn _ _ :: r, [], _, _, _, h => h.elim
  | .fn _ _ :: r, v :: avs, vs, bs, hm, h => PtrOf.ext hx r avs vs.tail bs (by simpa only [mutIds] using hm) h
  | .mut _ _ :: r, [], _, _, _, h => h.elim
  | .mut ag t :: r, v :: avs, vs, bs, hm, h => by
    obtain ⟨u, us, Ss, bs', cs, rfl, rfl, hc, hrc, h1, h2⟩ := h
    simp only [mutIds, hrc, List.mem_append] at hm
    exact ⟨u, us, Ss, bs', cs, rfl, rfl, hc, hrc, h1.ext (fun id h => hm id (.inl h)), PtrOf.ext hx r avs us bs' (fun id h => hm id (.inr h)) h2⟩
  | .take _ _ :: r, [], _, _, _, h => h.elim
  | .take ag t :: r, v :: avs, vs, bs, hm, h => by
    obtain ⟨u, us, Ss, bs', cs, rfl, rfl, hc, hrc, h1, h2⟩ := h
    simp only [mutIds, hrc, List.mem_append] at hm
    exact ⟨u, us, Ss, bs', cs, rfl, rfl, hc, hrc, h1.ext (fun id h => hm id (.inl h)), PtrOf.ext hx r avs us bs' (fun id h => hm id (.inr h)) h2⟩
  | .ptr t :: r, [], _, _, _, h => h.elim
  | .ptr t :: r, v :: avs, vs, bs, hm, h => by
    cases v with
    | ref i n =>
      obtain ⟨b', bs', rfl, h1, h2⟩ := h
      exact ⟨b', bs', rfl, hx _ _ h1, PtrOf.ext hx r avs vs.tail bs' (by simpa only [mutIds] using hm) h2⟩
    | _ => exact h.elim
theorem MutAt.live : ∀ (t : Ty) {cs : List AV} {Ss : List (List Nat)} {us : List Value}, MutAt W t cs Ss us → ∀ id ∈ rowIds cs, ∃ lw F, W id = some (lw, F) ∧ ∀ b, lw ≠ .box b
  | .sl t, cs, Ss, us, h, id, hid => by
    unfold MutAt at h
    rcases h with ⟨rfl, _, _⟩ | ⟨id', lw, F, rfl, hW, _, _, hlw⟩
    · simp [rowIds] at hid
    · simp only [rowIds, List.mem_singleton] at hid
      subst hid
      refine ⟨lw, F, hW, fun b e => ?_⟩
      rcases hlw with h | ⟨_, _, _, _, h⟩ <;> rw [h] at e <;> cases e
  | .pair p q, cs, Ss, us, h, id, hid => by
    obtain ⟨c1, c2, S1, S2, u1, u2, rfl, rfl, rfl, h1, h2⟩ := h
    rw [rowIds_append, List.mem_append] at hid
    exact hid.elim (MutAt.live p h1 id) (MutAt.live q h2 id)
  | .unit, cs, Ss, us, h, id, hid => by obtain ⟨rfl, _⟩ := h; simp [rowIds] at hid
  | .bool, cs, Ss, us, h, id, hid => by obtain ⟨_, c, u, rfl, _, hr⟩ := h; rw [hr] at hid; cases hid
  | .int _, cs, Ss, us, h, id, hid => by obtain ⟨_, c, u, rfl, _, hr⟩ := h; rw [hr] at hid; cases hid
  | .str, cs, Ss, us, h, id, hid => by obtain ⟨_, c, u, rfl, _, hr⟩ := h; rw [hr] at hid; cases hid
  | .err, cs, Ss, us, h, id, hid => by obtain ⟨_, c, u, rfl, _, hr⟩ := h; rw [hr] at hid; cases hid
theorem PtrOf.live : ∀ (ins : List PK) (avs : List AV) (vs : List Value) (bs : List (List Nat)), PtrOf W ins avs vs bs → ∀ id ∈ mutIds ins avs, ∃ lw F, W id = some (lw, F) ∧ ∀ b, lw ≠ .box b
  | [], avs, vs, bs, h, id, hid => by
    cases avs with
    | nil => simp [mutIds] at hid
    | cons _ _ => exact h.elim
  | .val _ _ :: r, [], _, _, h, _, _ => h.elim
  | .val _ _ :: r, v :: avs, vs, bs, h, id, hid => PtrOf.live r avs vs.tail bs h id (by simpa only [mutIds] using hid)
  | .fn _ _ :: r, [], _, _, h, _, _ => h.elim
  | .fn _ _ :: r, v :: avs, vs, bs, h, id, hid => PtrOf.live r avs vs.tail bs h id (by simpa only [mutIds] using hid)
  | .mut _ _ :: r, [], _, _, h, _, _ => h.elim
  | .mut ag t :: r, v :: avs, vs, bs, h, id, hid => by
    obtain ⟨u, us, Ss, bs', cs, rfl, rfl, hc, hrc, hm, h2⟩ := h
    simp only [mutIds, hrc, List.mem_append] at hid
    rcases hid with hid | hid
    · obtain ⟨ws, hm⟩ := hm.at
      exact MutAt.live t hm id hid
    · exact PtrOf.live r avs us bs' h2 id hid
  | .take _ _ :: r, [], _, _, h, _, _ => h.elim
  | .take ag t :: r, v :: avs, vs, bs, h, id, hid => by
    obtain ⟨u, us, Ss, bs', cs, rfl, rfl, hc, hrc, hm, h2⟩ := h
    simp only [mutIds, hrc, List.mem_append] at hid
    rcases hid with hid | hid
    · obtain ⟨ws, hm⟩ := hm.at
      exact MutAt.live t hm id hid
    · exact PtrOf.live r avs us bs' h2 id hid
  | .ptr t :: r, [], _, _, h, _, _ => h.elim
  | .ptr t :: r, v :: avs, vs, bs, h, id, hid => by
    cases v with
    | ref i n =>
      obtain ⟨b', bs', rfl, h1, h2⟩ := h
      exact PtrOf.live r avs vs.tail bs' h2 id (by simpa only [mutIds] using hid)
    | _ => exact h.elim
theorem mut_perm : ∀ (ins : List PK) (avs : List AV), (mutIds ins avs).Perm (wrIds ins avs ++ takeIds ins avs)
  | [], avs => by cases avs <;> exact .nil
  | .val _ _ :: r, [] => .nil
  | .fn _ _ :: r, [] => .nil
  | .ptr _ :: r, [] => .nil
  | .mut _ _ :: r, [] => .nil
  | .take _ _ :: r, [] => .nil
  | .val _ _ :: r, _ :: avs => mut_perm r avs
  | .fn _ _ :: r, _ :: avs => mut_perm r avs
  | .ptr _ :: r, _ :: avs => mut_perm r avs
  | .mut _ _ :: r, v :: avs => by
    simp only [mutIds, wrIds, takeIds, List.append_assoc]
    exact (mut_perm r avs).append_left _
  | .take _ _ :: r, v :: avs => by
    simp only [mutIds, wrIds, takeIds]
    refine ((mut_perm r avs).append_left _).trans ?_
    rw [← List.append_assoc, ← List.append_assoc]
    exact List.perm_append_comm.append_right _
theorem after_call (hi : Inv X st a w A W V) {ins : List PK} {outs : List OutK} {avs : List AV} {vs : List Value} {bs bs' : List (List Nat)} {O : List Nat} {y : (outsTy outs).den × (ptrTy ins).den} {us : List Value} (hp : PtrOf W ins avs vs bs)
    (hdp : (ptrIds ins avs).Nodup) (hdm : (mutIds ins avs).Nodup) (hkb : ∀ id ∈ ptrIds ins avs, st.kb.has id = false)
    (hk : Kept (fun b => w.heap.size ≤ b ∨ b ∈ bs.flatten) w w') (hA1 : ∀ b, A b → A' b) (hA2 : ∀ b, A' b → A b ∨ ((w.heap.size ≤ b ∨ b ∈ bs.flatten) ∧ b < w'.heap.size)) (hOn : (O ++ bs'.flatten).Nodup)
    (hO : ∀ b ∈ O ++ bs'.flatten, (w.heap.size ≤ b ∨ b ∈ bs.flatten) ∧ b < w'.heap.size ∧ ¬ A' b)
    (ho : OutsRd w' A' outs us y.1 O) (hpt : PtrsRd w' A' ins vs bs bs' y.2) {os : List AV} {st' : St} (e : outAVs outs y.1 (putPtrs ins avs y.2 (st.killAll (takeIds ins avs))) = (os, st')) :
    ∃ W', Inv X st' a w' A' W' V ∧ RepL A' W' w' os us := by
  have hr0 := hi.rep
  have hperm := mut_perm ins avs
  have hnn := List.nodup_append.1 (hperm.nodup_iff.1 hdm)
  have hmlive := PtrOf.live ins avs vs bs hp
  obtain ⟨W1, i1, k2, k3⟩ := killAll_turn hi (ids := takeIds ins avs) (fun id h => hmlive id (hperm.mem_iff.2 (by simp [h])))
  have hr := i1.rep
  obtain ⟨q1, q2, q3, q4⟩ := putPtrs_rest ins avs y.2 (st.killAll (takeIds ins avs))
  obtain ⟨es, e1, e2, e3, e4, e5⟩ := ends_of ins avs y.2 vs bs bs' hp hpt
  have e3 := e3 hdp hnn.1
  have hsame : ∀ p ∈ es, W1 p.1 = W p.1 := fun p hp => k2 p.1 fun h => by
    rcases e2 p hp with ⟨_, b, h1, _⟩ | ⟨h1, _⟩
    · obtain ⟨lw, F, h2, h3⟩ := hmlive p.1 (hperm.mem_iff.2 (by simp [h]))
      rw [h1] at h2
      simp only [Option.some.injEq, Prod.mk.injEq] at h2
      exact h3 b h2.1.symm
    · exact hnn.2.2 _ h1 _ h rfl
  have hW1 : ∀ p ∈ es, ∀ lw F, W p.1 = some (lw, F) → endW W1 es p.1 = some (lw, p.2) := fun p hp lw F e => endW_of e3 p hp lw F (by rw [hsame p hp]; exact e)
  have hold : ∀ b, b < w.heap.size → b ∉ bs.flatten → w'.heap[b]? = w.heap[b]? := fun b hb hn => hk.block b hb (fun h => h.elim (fun h => by omega) hn)
  have hbsM : ∀ b ∈ bs.flatten, (∃ id ∈ ptrIds ins avs, W id = some (.box b, [b])) ∨ ∃ id ∈ mutIds ins avs, ∃ lw F, W id = some (lw, F) ∧ (∀ b, lw ≠ .box b) ∧ b ∈ F := PtrOf.mem ins avs vs bs hp
  have hbsO : ∀ b ∈ bs.flatten, b < w.heap.size ∧ X.M b ∧ ¬ A b := fun b h => by
    rcases hbsM b h with ⟨id, _, e⟩ | ⟨id, _, lw, F, e, _, hF⟩
    · exact hr0.own id _ _ e b (by simp)
    · exact hr0.own id _ _ e b hF
  have hAbs : ∀ b, A b → b ∉ bs.flatten := fun b hb h => (hbsO b h).2.2 hb
  have hAsame : ∀ b, A b → w'.heap[b]? = w.heap[b]? := fun b hb => hold b (hr.ltA b hb) (hAbs b hb)
  have hM : ∀ b, (w.heap.size ≤ b ∨ b ∈ bs.flatten) → X.M b := fun b h => h.elim (fun h => hi.newM h) (fun h => (hbsO b h).2.1)
  have hback : ∀ id lw F, W1 id = some (lw, F) → id ∉ takeIds ins avs ∧ W id = some (lw, F) := fun id lw F e => by
    have hn : id ∉ takeIds ins avs := fun h => by rw [k3 id h] at e; cases e
    exact ⟨hn, by rw [← k2 id hn]; exact e⟩
  -- what the others hold is none of what was handed on
  have hoth : ∀ id lw F, id ∉ es.map Prod.fst → W1 id = some (lw, F) → ∀ b ∈ F, b < w.heap.size ∧ b ∉ bs.flatten := fun id lw F hid e b hb => by
    obtain ⟨hnt, e⟩ := hback id lw F e
    refine ⟨(hr0.own id lw F e b hb).1, fun h => ?_⟩
    rcases hbsM b h with ⟨id', h1, h2⟩ | ⟨id', h1, lw', F', h2, _, hF⟩
    · exact hr0.apart id id' _ _ _ _ (fun e => by subst e; exact hid (e4 _ (.inl h1))) e h2 b hb (by simp)
    · refine hr0.apart id id' _ _ _ _ (fun e => ?_) e h2 b hb hF
      subst e
      rcases List.mem_append.1 (hperm.mem_iff.1 h1) with h | h
      · exact hid (e4 _ (.inr h))
      · exact hnt h
  have hes : ∀ id F, (id, F) ∈ es → ∀ b ∈ F, b ∈ bs'.flatten := fun id F h b hb => by
    rw [← e1]
    exact List.mem_flatten.2 ⟨F, List.mem_map.2 ⟨_, h, rfl⟩, hb⟩
  have hnod := List.nodup_append.1 hOn
  have hnod' : (es.map Prod.snd).flatten.Nodup := by rw [e1]; exact hnod.2.1
  have hrep : Rep (putPtrs ins avs y.2 (st.killAll (takeIds ins avs))) w' X.M A' (endW W1 es) V := by
    refine hr.upd q4 q2 hAsame hA1 (fun b hb => ?_) endW_ext (fun id hid => ?_) (fun id lw F e => ?_) (fun id lw F e b hb => ?_) (fun id id' lw F lw' F' hij e e' b hb hb' => ?_) (fun id l p hp' hl => ?_)
    · rcases hA2 b hb with h | h
      · exact Nat.lt_of_lt_of_le (hr.ltA b h) hk.size
      · exact h.2
    · have := hr.fresh id (by rw [← q1]; exact hid)
      unfold endW
      rw [this]
      split <;> rfl
    · rcases endW_some e with ⟨h, _⟩ | ⟨_, h⟩
      · exact ends_nodup hnod' _ h
      · exact hr.nodup id lw F h
    · rcases endW_some e with ⟨h, _⟩ | ⟨h0, h⟩
      · obtain ⟨o1, o2, o3⟩ := hO b (List.mem_append.2 (.inr (hes id F h b hb)))
        exact ⟨o2, hM b o1, o3⟩
      · obtain ⟨o1, o2, o3⟩ := hr.own id lw F h b hb
        obtain ⟨n1, n2⟩ := hoth id lw F h0 h b hb
        refine ⟨Nat.lt_of_lt_of_le o1 hk.size, o2, fun hA => ?_⟩
        rcases hA2 b hA with g | ⟨g | g, _⟩
        · exact o3 g
        · omega
        · exact n2 g
    · have cross : ∀ (id id' : Nat) (F : List Nat) (lw' : LW) (F' : List Nat), (id, F) ∈ es → id' ∉ es.map Prod.fst → W1 id' = some (lw', F') → ∀ b ∈ F, b ∈ F' → False := fun id id' F lw' F' h h0 h' b hb hb' => by
        obtain ⟨n1, n2⟩ := hoth id' lw' F' h0 h' b hb'
        rcases (hO b (List.mem_append.2 (.inr (hes id F h b hb)))).1 with g | g
        · omega
        · exact n2 g
      rcases endW_some e with ⟨h, _⟩ | ⟨h0, h⟩ <;> rcases endW_some e' with ⟨g, _⟩ | ⟨g0, g⟩
      · exact ends_disj hnod' _ h _ g hij b hb hb'
      · exact cross id id' F lw' F' h g0 g b hb hb'
      · exact cross id' id F' lw F g h0 h b hb' hb
      · exact hr.apart id id' lw F lw' F' hij h g b hb hb'
    · rcases e5 (endW W1 es) hW1 (st.killAll (takeIds ins avs)) id l hl with ⟨g1, g2, g3⟩ | g
      · have hni : id ∉ es.map Prod.fst := fun h => by
          obtain ⟨q, hq, rfl⟩ := List.mem_map.1 h
          rcases e2 q hq with ⟨h, _⟩ | ⟨h, _⟩
          · exact g2 h
          · exact g3 h
        have hWp : W1 id = some p := by
          rcases endW_some (lw := p.1) (F := p.2) hp' with ⟨h, _⟩ | ⟨_, h⟩
          · exact absurd (List.mem_map.2 ⟨_, h, rfl⟩) hni
          · exact h
        refine LocRep.mono hA1 hAsame endW_ext hWp hp' (fun b hb => ?_) (hr.locs id l p hWp g1)
        obtain ⟨n1, n2⟩ := hoth id p.1 p.2 hni hWp b hb
        exact hold b n1 n2
      · exact g
  have hkM : Kept X.M w w' := ⟨hk.os, hk.tape, hk.output, hk.size, fun b hb hM => hold b hb (fun h => hM (hbsO b h).2.1)⟩
  have hi1 : Inv X (putPtrs ins avs y.2 (st.killAll (takeIds ins avs))) a w' A' (endW W1 es) V := by
    refine i1.turn hrep (by rw [q2]; exact Nat.le_refl _) hkM hA1 (fun b hb => (hA2 b hb).imp (fun h => h) (fun h => hM b h.1)) (fun j b F h => ?_) (fun b hb => ?_) q3
    · unfold endW
      cases ha : assoc j es with
      | none => exact h
      | some G =>
        have hm := assoc_mem ha
        have h0 := (hback j _ _ h).2
        rcases e2 _ hm with ⟨_, b', h1, h2⟩ | ⟨_, lw, F', h1, h2⟩
        · simp only at h1 h2
          rw [h0] at h1
          simp only [Option.some.injEq, Prod.mk.injEq] at h1
          rw [h]
          simp only [Option.map_some]
          rw [h2, h1.2]
        · simp only at h1
          rw [h0] at h1
          simp only [Option.some.injEq, Prod.mk.injEq] at h1
          exact absurd h1.1.symm (h2 b)
    · refine hold b (i1.old hb) (fun h => ?_)
      rcases hb with hb | ⟨j, hj, e⟩
      · exact (hbsO b h).2.2 hb
      · rw [killAll_kb] at hj
        have e := (hback j _ _ e).2
        rcases hbsM b h with ⟨id, h1, h2⟩ | ⟨id, h1, lw, F, h2, h3, hF⟩
        · by_cases e' : j = id
          · subst e'; have := hkb j h1; rw [hj] at this; cases this
          · exact hr0.apart j id _ _ _ _ e' e h2 b (by simp) (by simp)
        · exact hr0.apart j id _ _ _ _ (fun e' => by subst e'; rw [e] at h2; cases h2; exact h3 _ rfl) e h2 b (by simp) hF
  obtain ⟨W', h1, _, h3⟩ := outAVs_ok outs ho hi1 ⟨hnod.1, fun b hb => by
    obtain ⟨o1, o2, o3⟩ := hO b (by simp [hb])
    exact ⟨o2, hM b o1, o3⟩, fun j lw F e b hb h => by
    rcases endW_some e with ⟨g, _⟩ | ⟨g0, g⟩
    · exact hnod.2.2 b hb b (hes j F g b h) rfl
    · obtain ⟨n1, n2⟩ := hoth j lw F g0 g b h
      rcases (hO b (by simp [hb])).1 with g | g
      · omega
      · exact n2 g⟩ os st' e
  exact ⟨W', h1, h3⟩

end
end Go.Proofs.Fw
