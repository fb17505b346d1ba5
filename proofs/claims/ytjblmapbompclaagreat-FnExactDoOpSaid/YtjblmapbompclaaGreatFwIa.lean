/- Rows given up, taken over, opened at an element and closed again. -/
import Derived.Test.YtjblmapbompclaaGreatFwI
set_option linter.all false
namespace Go.Proofs.Fw
open Go

section
variable [GInv] {R : Type} {P : Program} {c : Cfg} {X : Ctx} {st : St} {a : Act} {w : World} {A : Nat → Prop} {W : Wit} {V : Nat → Value} {o : Oper} {k : St → Option R} {r : R} {Q : Exit → Act → World → Prop}
theorem notMem_spec : ∀ {l : List Nat} {n : Nat}, notMem n l = true → n ∉ l
  | [], _, _ => by simp
  | x :: l, n, h => by
    simp only [notMem, Bool.and_eq_true, Bool.not_eq_true'] at h
    rw [List.mem_cons, not_or]
    exact ⟨fun e => by subst e; simp at h, notMem_spec h.2⟩
structure Free (X : Ctx) (w : World) (A : Nat → Prop) (W : Wit) (S : List Nat) : Prop where
  nodup : S.Nodup
  own : ∀ b ∈ S, b < w.heap.size ∧ X.M b ∧ ¬ A b
  apart : ∀ j lw F, W j = some (lw, F) → ∀ b ∈ S, b ∉ F
theorem Free.nil : Free X w A W [] := ⟨by simp, by simp, by simp⟩
theorem distinct_nodup : ∀ {l : List Nat}, distinct l = true → l.Nodup
  | [], _ => by simp
  | x :: r, h => by
    simp only [distinct, Bool.and_eq_true, Bool.not_eq_true'] at h
    rw [List.nodup_cons]
    refine ⟨fun hx => ?_, distinct_nodup h.2⟩
    have := List.any_eq_false.1 h.1 x hx
    simp at this
theorem rowIds_live {cs : List AV} {vs : List Value} (h : RepL A W w cs vs) : ∀ id ∈ rowIds cs, ∃ lw F, W id = some (lw, F) ∧ ∀ b, lw ≠ .box b := by
  induction cs generalizing vs with
  | nil => intro id hid; simp [rowIds] at hid
  | cons c cs ih =>
    simp only [RepL] at h
    obtain ⟨v, s, rfl, g1, g2⟩ := h
    intro id hid
    cases c with
    | row j =>
      simp only [rowIds, List.mem_cons] at hid
      rcases hid with rfl | hid
      · simp only [RepAV] at g1
        obtain ⟨lw, F, h1, h2, _⟩ := g1
        exact ⟨lw, F, h1, h2⟩
      · exact ih g2 id hid
    | _ => exact ih g2 id (by simpa [rowIds] using hid)
theorem killAll_turn (hi : Inv X st a w A W V) {ids : List Nat} (hl : ∀ id ∈ ids, ∃ lw F, W id = some (lw, F) ∧ ∀ b, lw ≠ .box b) :
    ∃ W', Inv X (st.killAll ids) a w A W' V ∧ (∀ j, j ∉ ids → W' j = W j) ∧ (∀ j ∈ ids, W' j = none) := by
  obtain ⟨W', h1, h2, h3⟩ := Rep.killAll ids hi.rep (fun id hid b F e => by
    obtain ⟨lw, F', e', hb⟩ := hl id hid
    rw [e'] at e; cases e; exact hb b rfl)
  refine ⟨W', hi.turn h1 (by rw [(killAll_nl ids st).2]; exact Nat.le_refl _) (Kept.refl _ _) (fun _ h => h) (fun _ h => .inl h) (fun j b F e => ?_) (hkb := killAll_kb _ _), h2, h3⟩
  rw [h2 j (fun hj => by
    obtain ⟨lw, F', e', hb⟩ := hl j hj
    rw [e'] at e; cases e; exact hb b rfl)]
  exact e
theorem kill_free (hi : Inv X st a w A W V) {ids G : List Nat} (hG : Free X w A W G) (hlive : ∀ id ∈ ids, ∃ lw F, W id = some (lw, F) ∧ ∀ b, lw ≠ .box b) (nd : ids.Nodup) :
    ∃ W', Inv X (st.killAll ids) a w A W' V ∧ Free X w A W' (G ++ ids.flatMap (foot W)) ∧ (∀ j, j ∉ ids → W' j = W j) ∧ (∀ j ∈ ids, W' j = none) := by
  obtain ⟨W', k1, k2, k3⟩ := killAll_turn hi hlive
  have hin : ∀ b ∈ (ids).flatMap (foot W), ∃ id ∈ ids, ∃ lw F, W id = some (lw, F) ∧ b ∈ F := fun b hb => by
    obtain ⟨id, h1, h2⟩ := List.mem_flatMap.1 hb
    obtain ⟨lw, F, e, _⟩ := hlive id h1
    simp only [foot, e] at h2
    exact ⟨id, h1, lw, F, e, h2⟩
  refine ⟨W', k1, ⟨?_, ?_, ?_⟩, k2, k3⟩
  · rw [List.nodup_append]
    refine ⟨hG.nodup, ?_, ?_⟩
    · -- the footprints of distinct places
      have : ∀ ids : List Nat, ids.Nodup → (∀ id ∈ ids, ∃ lw F, W id = some (lw, F)) → (ids.flatMap (foot W)).Nodup := by
        intro ids
        induction ids with
        | nil => intro _ _; simp
        | cons id ids ih =>
          intro hn hl
          rw [List.nodup_cons] at hn
          obtain ⟨lw, F, e⟩ := hl id (by simp)
          simp only [List.flatMap_cons, List.nodup_append]
          refine ⟨by simp only [foot, e]; exact hi.rep.nodup id lw F e, ih hn.2 (fun j hj => hl j (by simp [hj])), ?_⟩
          intro b hb b' hb' hbb
          subst hbb
          obtain ⟨j, h1, h2⟩ := List.mem_flatMap.1 hb'
          obtain ⟨lw', F', e'⟩ := hl j (by simp [h1])
          simp only [foot, e] at hb
          simp only [foot, e'] at h2
          exact hi.rep.apart id j _ _ _ _ (fun e => by subst e; exact hn.1 h1) e e' b hb h2
      exact this _ nd (fun id hid => by obtain ⟨lw, F, e, _⟩ := hlive id hid; exact ⟨lw, F, e⟩)
    · intro b hb b' hb' hbb
      subst hbb
      obtain ⟨id, _, lw, F, e, hF⟩ := hin b hb'
      exact hG.apart id lw F e b hb hF
  · intro b hb
    rcases List.mem_append.1 hb with hb | hb
    · exact hG.own b hb
    · obtain ⟨id, _, lw, F, e, hF⟩ := hin b hb
      exact hi.rep.own id lw F e b hF
  · intro j lw F e b hb
    have hj : j ∉ ids := fun hj => by rw [k3 j hj] at e; cases e
    rw [k2 j hj] at e
    rcases List.mem_append.1 hb with hb | hb
    · exact hG.apart j lw F e b hb
    · obtain ⟨id, hid, lw', F', e', hF⟩ := hin b hb
      exact hi.rep.apart id j _ _ _ _ (fun e2 => by subst e2; exact hj hid) e' e b hF
theorem own_pack {M : Nat → Prop} (hr : Rep st w M A W V) : ∀ (t : Ty) {cs r : List AV} {us : List Value} {x : t.den}, RepL A W w cs us → deepOK st cs = true → t.pack (st.dataL cs) = some (x, r) →
    ∃ u1 u2 c1 c2, us = u1 ++ u2 ∧ cs = c1 ++ c2 ∧ r = st.dataL c2 ∧ OwnRd w t x ((rowIds c1).flatMap (foot W)) u1 ∧ RepL A W w c2 u2 ∧ deepOK st c2 = true := by
  have leaf : ∀ (t : Ty) {cs r : List AV} {us : List Value} {x : t.den}, RepL A W w cs us → deepOK st cs = true → leafOf t (st.dataL cs) = some (x, r) → (∀ u, t ≠ .sl u) →
      ∃ u cs' us' cc, us = u :: us' ∧ cs = cc :: cs' ∧ r = st.dataL cs' ∧ Rd w t x [] [u] ∧ rowIds [cc] = [] ∧ RepL A W w cs' us' ∧ deepOK st cs' = true := fun t {cs r us x} h hd e hns => by
    cases cs with
    | nil => simp [St.dataL, leafOf] at e
    | cons c cs =>
      simp only [RepL] at h
      obtain ⟨u, us', rfl, h1, h2⟩ := h
      simp only [St.dataL] at e
      cases c with
      | d t' y =>
        simp only [St.data1, leafOf] at e
        simp only [deepOK, Bool.and_eq_true] at hd
        cases hc : castTy t' t y with
        | none => rw [hc] at e; simp at e
        | some z =>
          rw [hc] at e
          simp only [Option.some.injEq, Prod.mk.injEq] at e
          obtain ⟨rfl, rfl⟩ := e
          obtain ⟨rfl, _⟩ := castTy_eq hc
          have := castTy_self hc
          subst this
          obtain ⟨S, _, hrd⟩ := h1.dval
          have hS := hrd.flat _ hd.1
          subst hS
          exact ⟨u, cs, us', _, rfl, rfl, rfl, hrd, rfl, h2, hd.2⟩
      | row id =>
        simp only [St.data1] at e
        split at e
        · rename_i t' xs dp hl
          simp only [leafOf] at e
          cases hc : castTy (.sl t') t xs with
          | none => rw [hc] at e; simp at e
          | some z => obtain ⟨e', _⟩ := castTy_eq hc; exact absurd e'.symm (hns t')
        · simp [leafOf] at e
      | nils => simp [St.data1, leafOf] at e
      | _ => simp [deepOK] at hd
  intro t
  induction t with
  | unit =>
    intro cs r us x h hd e
    simp only [Ty.pack] at e
    have e : (x, st.dataL cs) = (x, r) := by
      have := Option.some.inj e
      rw [Prod.mk.injEq] at this ⊢
      exact ⟨rfl, this.2⟩
    simp only [Prod.mk.injEq, true_and] at e
    exact ⟨[], us, [], cs, rfl, rfl, e.symm, by simp [OwnRd, rowIds], h, hd⟩
  | pair p q ihp ihq =>
    intro cs r us x h hd e
    simp only [Ty.pack] at e
    split at e
    · rename_i x1 r1 e1
      split at e
      · rename_i x2 r2 e2
        simp only [Option.some.injEq, Prod.mk.injEq] at e
        obtain ⟨rfl, rfl⟩ := e
        obtain ⟨u1, u2, c1, c2, rfl, rfl, rfl, h1, h2, h3⟩ := ihp h hd e1
        obtain ⟨u3, u4, c3, c4, rfl, rfl, rfl, h4, h5, h6⟩ := ihq h2 h3 e2
        have hri : ∀ l l' : List AV, rowIds (l ++ l') = rowIds l ++ rowIds l' := fun l l' => by
          induction l with
          | nil => rfl
          | cons v l ih => cases v <;> simp [rowIds, ih]
        exact ⟨u1 ++ u3, u4, c1 ++ c3, c4, by simp, by simp, rfl, by simp only [OwnRd]; exact ⟨_, _, u1, u3, by rw [hri, List.flatMap_append], rfl, h1, h4⟩, h5, h6⟩
      · cases e
    · cases e
  | sl t _ =>
    intro cs r us x h hd e
    cases cs with
    | nil => simp [St.dataL, Ty.pack, leafOf] at e
    | cons c cs =>
      simp only [RepL] at h
      obtain ⟨u, us', rfl, h1, h2⟩ := h
      simp only [St.dataL] at e
      cases c with
      | nils =>
        simp only [St.data1, Ty.pack, Option.some.injEq, Prod.mk.injEq] at e
        obtain ⟨rfl, rfl⟩ := e
        simp only [RepAV] at h1
        subst h1
        exact ⟨[_], us', [.nils], cs, rfl, rfl, rfl, by simp only [OwnRd]; exact .inl ⟨trivial, by simp [rowIds], trivial⟩, h2, by simpa only [deepOK] using hd⟩
      | row id =>
        simp only [deepOK, Bool.and_eq_true] at hd
        simp only [St.data1] at e
        cases hl : st.loc id with
        | none => rw [hl] at hd; simp at hd
        | some l =>
          rw [hl] at hd e
          cases l with
          | box _ => simp at hd
          | mp _ _ _ => simp at hd
          | opn _ _ _ _ => simp at hd
          | row t' xs dp =>
            simp only [Ty.pack, leafOf] at e
            cases hc : castTy (.sl t') (.sl t) xs with
            | none => rw [hc] at e; simp at e
            | some z =>
              rw [hc] at e
              simp only [Option.some.injEq, Prod.mk.injEq] at e
              obtain ⟨rfl, rfl⟩ := e
              obtain ⟨e', _⟩ := castTy_eq hc
              injection e' with e'
              subst e'
              have := castTy_self hc
              subst this
              have hdp : dp = true := by
                cases dp with
                | true => rfl
                | false => simp at hd
              subst hdp
              obtain ⟨lw, F, hW, hnb, hv⟩ := hr.row_live h1
              refine ⟨[u], us', [.row id], cs, rfl, rfl, rfl, ?_, h2, hd.2⟩
              simp only [rowIds, List.flatMap_cons, List.flatMap_nil, List.append_nil, foot, hW, OwnRd]
              subst hv
              rcases hr.locs id _ _ hW hl with ⟨g1, rfl⟩ | ⟨b, off, cap, S', g1, g2, g3, g4, g5, _⟩
              · rw [hW] at g1
                simp only [Option.some.injEq, Prod.mk.injEq] at g1
                obtain ⟨rfl, rfl⟩ := g1
                exact .inl ⟨rfl, rfl, rfl⟩
              · rw [hW] at g1
                simp only [Option.some.injEq, Prod.mk.injEq, if_true] at g1
                obtain ⟨rfl, rfl⟩ := g1
                exact .inr ⟨b, off, cap, S', rfl, rfl, g2, g3, g4, g5⟩
      | d t' y =>
        simp only [deepOK, Bool.and_eq_true] at hd
        simp only [St.data1, Ty.pack, leafOf] at e
        cases hc : castTy t' (.sl t) y with
        | none => rw [hc] at e; simp at e
        | some z =>
          obtain ⟨rfl, _⟩ := castTy_eq hc
          simp [Ty.flat] at hd
      | _ => simp [deepOK] at hd
  | bool =>
    intro cs r us x h hd e
    obtain ⟨u, cs', us', cc, rfl, rfl, h1, h2, h3, h4, h5⟩ := leaf .bool h hd (by simpa only [Ty.pack] using e) (fun _ e => by cases e)
    exact ⟨[u], us', [cc], cs', rfl, rfl, h1, by simp only [OwnRd, h3]; exact ⟨rfl, h2⟩, h4, h5⟩
  | int k =>
    intro cs r us x h hd e
    obtain ⟨u, cs', us', cc, rfl, rfl, h1, h2, h3, h4, h5⟩ := leaf (.int k) h hd (by simpa only [Ty.pack] using e) (fun _ e => by cases e)
    exact ⟨[u], us', [cc], cs', rfl, rfl, h1, by simp only [OwnRd, h3]; exact ⟨rfl, h2⟩, h4, h5⟩
  | str =>
    intro cs r us x h hd e
    obtain ⟨u, cs', us', cc, rfl, rfl, h1, h2, h3, h4, h5⟩ := leaf .str h hd (by simpa only [Ty.pack] using e) (fun _ e => by cases e)
    exact ⟨[u], us', [cc], cs', rfl, rfl, h1, by simp only [OwnRd, h3]; exact ⟨rfl, h2⟩, h4, h5⟩
  | err =>
    intro cs r us x h hd e
    obtain ⟨u, cs', us', cc, rfl, rfl, h1, h2, h3, h4, h5⟩ := leaf .err h hd (by simpa only [Ty.pack] using e) (fun _ e => by cases e)
    exact ⟨[u], us', [cc], cs', rfl, rfl, h1, by simp only [OwnRd, h3]; exact ⟨rfl, h2⟩, h4, h5⟩
theorem own_packAll {M : Nat → Prop} (hr : Rep st w M A W V) {t : Ty} {cs : List AV} {us : List Value} {x : t.den} (hL : RepL A W w cs us) (hd : deepOK st cs = true) (hp : t.packAll (st.dataL cs) = some x) :
    OwnRd w t x ((rowIds cs).flatMap (foot W)) us := by
  unfold Ty.packAll at hp
  split at hp
  · rename_i z hz
    simp only [Option.some.injEq] at hp
    subst hp
    obtain ⟨u1, u2, c1, c2, rfl, rfl, h3, h4, h5, _⟩ := own_pack hr t hL hd hz
    have hc2 : c2 = [] := by cases c2 with | nil => rfl | cons _ _ => simp [St.dataL] at h3
    subst hc2
    simp only [RepL] at h5
    subst h5
    simpa using h4
  · cases hp
theorem Inv.newFree (hi : Inv X st a w A W V) {l : Loc} {lw : LW} {F G : List Nat} (hF : Free X w A W (F ++ G)) (hnb : ∀ b, lw ≠ .box b) (hl : LocRep A (updW W st.nl (some (lw, F))) w st.nl l) :
    Inv X (st.newLoc l) a w A (updW W st.nl (some (lw, F))) V ∧ Free X w A (updW W st.nl (some (lw, F))) G ∧ Ext W (updW W st.nl (some (lw, F))) := by
  have h := hi.rep
  have hW : Ext W (updW W st.nl (some (lw, F))) := ext_newLoc h
  have he : ∀ j lw' F', updW W st.nl (some (lw, F)) j = some (lw', F') → (j = st.nl ∧ F' = F) ∨ (j ≠ st.nl ∧ W j = some (lw', F')) := fun j lw' F' e => by
    by_cases e' : j = st.nl
    · subst e'; rw [updW_same] at e; simp only [Option.some.injEq, Prod.mk.injEq] at e; exact .inl ⟨rfl, e.2.symm⟩
    · rw [updW_other e'] at e; exact .inr ⟨e', e⟩
  have nd := List.nodup_append.1 hF.nodup
  have hFl : ∀ b ∈ F, b ∈ F ++ G := fun b hb => by simp [hb]
  have hrep : Rep (st.newLoc l) w X.M A (updW W st.nl (some (lw, F))) V := by
    refine ⟨h.ltA, ?_, ?_, ?_, ?_, fun k => RepAV.mono (fun _ h => h) (fun _ _ => rfl) hW _ _ (h.slots k), ?_, h.freshb⟩
    · intro j lw' F' e
      rcases he j lw' F' e with ⟨_, rfl⟩ | ⟨_, e⟩
      · exact nd.1
      · exact h.nodup j lw' F' e
    · intro j lw' F' e b hb
      rcases he j lw' F' e with ⟨_, rfl⟩ | ⟨_, e⟩
      · exact hF.own b (hFl b hb)
      · exact h.own j lw' F' e b hb
    · intro i j lwi Fi lwj Fj hij ei ej b hb hb'
      rcases he i lwi Fi ei with ⟨rfl, rfl⟩ | ⟨_, ei2⟩ <;> rcases he j lwj Fj ej with ⟨rfl, rfl⟩ | ⟨_, ej2⟩
      · exact hij rfl
      · exact hF.apart j lwj Fj ej2 b (hFl b hb) hb'
      · exact hF.apart i lwi Fi ei2 b (hFl b hb') hb
      · exact h.apart i j lwi Fi lwj Fj hij ei2 ej2 b hb hb'
    · intro j hj
      have : st.nl + 1 ≤ j := hj
      rw [updW_other (by omega)]
      exact h.fresh j (by omega)
    · intro j l' p hp hl'
      have hl' : (st.ev (.loc st.nl l)).loc j = some l' := hl'
      rw [loc_loc] at hl'
      by_cases e : st.nl = j
      · subst e
        simp only [if_true, Option.some.injEq] at hl'
        rw [← hl']; exact hl
      · rw [if_neg e] at hl'
        rw [updW_other (Ne.symm e)] at hp
        exact LocRep.mono (fun _ h => h) (fun _ _ => rfl) hW hp (by rw [updW_other (Ne.symm e)]; exact hp) (fun _ _ => rfl) (h.locs j l' p hp hl')
  refine ⟨hi.turn hrep (Nat.le_refl _) (Kept.refl _ _) (fun _ h => h) (fun _ h => .inl h) (fun j b F' e => ?_), ⟨nd.2.1, fun b hb => hF.own b (by simp [hb]), fun j lw' F' e b hb => ?_⟩, hW⟩
  · rw [updW_other (fun e' => by subst e'; rw [h.fresh st.nl (Nat.le_refl _)] at e; cases e)]; exact e
  · rcases he j lw' F' e with ⟨_, rfl⟩ | ⟨_, e⟩
    · exact fun hb' => nd.2.2 b hb' b hb rfl
    · exact hF.apart j lw' F' e b (by simp [hb])
theorem ownCells_ok : ∀ (t : Ty) {x : t.den} {S G : List Nat} {cs : List Value} {st : St} {W : Wit}, OwnRd w t x S cs → Inv X st a w A W V → Free X w A W (S ++ G) → ∀ avs st', t.ownCells x st = (avs, st') →
    ∃ W', Inv X st' a w A W' V ∧ Ext W W' ∧ RepL A W' w avs cs ∧ Free X w A W' G
  | .unit, x, S, G, cs, st, W, h, hi, hF, avs, st', e => by
    simp only [OwnRd] at h
    obtain ⟨rfl, rfl⟩ := h
    simp only [Ty.ownCells, Prod.mk.injEq] at e
    obtain ⟨rfl, rfl⟩ := e
    exact ⟨W, hi, Ext.refl W, by simp [RepL], by simpa using hF⟩
  | .bool, x, S, G, cs, st, W, h, hi, hF, avs, st', e => by
    simp only [OwnRd, Rd] at h
    obtain ⟨rfl, _, rfl⟩ := h
    simp only [Ty.ownCells, Prod.mk.injEq] at e
    obtain ⟨rfl, rfl⟩ := e
    exact ⟨W, hi, Ext.refl W, by simp only [RepL]; exact ⟨_, [], rfl, RepAV.mkBool _, rfl⟩, by simpa using hF⟩
  | .int k, x, S, G, cs, st, W, h, hi, hF, avs, st', e => by
    simp only [OwnRd, Rd] at h
    obtain ⟨rfl, _, rfl⟩ := h
    simp only [Ty.ownCells, Prod.mk.injEq] at e
    obtain ⟨rfl, rfl⟩ := e
    exact ⟨W, hi, Ext.refl W, by simp only [RepL]; exact ⟨_, [], rfl, RepAV.mkInt _ _, rfl⟩, by simpa using hF⟩
  | .str, x, S, G, cs, st, W, h, hi, hF, avs, st', e => by
    simp only [OwnRd, Rd] at h
    obtain ⟨rfl, _, rfl⟩ := h
    simp only [Ty.ownCells, Prod.mk.injEq] at e
    obtain ⟨rfl, rfl⟩ := e
    exact ⟨W, hi, Ext.refl W, by simp only [RepL]; exact ⟨_, [], rfl, RepAV.mkStr _, rfl⟩, by simpa using hF⟩
  | .err, x, S, G, cs, st, W, h, hi, hF, avs, st', e => by
    simp only [OwnRd] at h
    obtain ⟨rfl, h⟩ := h
    simp only [Ty.ownCells, Prod.mk.injEq] at e
    obtain ⟨rfl, rfl⟩ := e
    have hl := h.length
    simp only [Ty.size] at hl
    obtain ⟨v, rfl⟩ := List.length_eq_one_iff.1 hl
    exact ⟨W, hi, Ext.refl W, by simp only [RepL, RepAV]; exact ⟨v, [], rfl, ⟨[], by simp, h⟩, rfl⟩, by simpa using hF⟩
  | .sl t, x, S, G, cs, st, W, h, hi, hF, avs, st', e => by
    simp only [Ty.ownCells, Prod.mk.injEq] at e
    obtain ⟨rfl, rfl⟩ := e
    simp only [OwnRd] at h
    rcases h with ⟨rfl, rfl, rfl⟩ | ⟨b, off, cap, S', rfl, rfl, h1, h2, h3, h4⟩
    · obtain ⟨g1, g2, g3⟩ := hi.newFree (l := .row t [] true) (lw := .nil) (F := []) (G := G) (by simpa using hF) (fun b e => by cases e) (.inl ⟨updW_same _ _ _, rfl⟩)
      exact ⟨_, g1, g3, by simp only [RepL, RepAV]; exact ⟨_, [], rfl, ⟨.nil, [], updW_same _ _ _, fun b e => (by cases e), rfl⟩, rfl⟩, g2⟩
    · obtain ⟨g1, g2, g3⟩ := hi.newFree (l := .row t x true) (lw := .row b off t.size x.length cap) (F := b :: S') (G := G) hF (fun b e => by cases e)
        (.inr ⟨b, off, cap, S', updW_same _ _ _, h1, h2, h3, h4, fun e => by cases e⟩)
      exact ⟨_, g1, g3, by simp only [RepL, RepAV]; exact ⟨_, [], rfl, ⟨_, _, updW_same _ _ _, fun b e => (by cases e), rfl⟩, rfl⟩, g2⟩
  | .pair p q, x, S, G, cs, st, W, h, hi, hF, avs, st', e => by
    simp only [OwnRd] at h
    obtain ⟨S1, S2, c1, c2, rfl, rfl, h1, h2⟩ := h
    simp only [Ty.ownCells] at e
    rcases ep : p.ownCells x.1 st with ⟨xs, s1⟩
    rw [ep] at e
    simp only at e
    rcases eq : q.ownCells x.2 s1 with ⟨ys, s2⟩
    rw [eq] at e
    simp only [Prod.mk.injEq] at e
    obtain ⟨rfl, rfl⟩ := e
    rw [List.append_assoc] at hF
    obtain ⟨W1, i1, x1, r1, f1⟩ := ownCells_ok p h1 hi hF xs s1 ep
    obtain ⟨W2, i2, x2, r2, f2⟩ := ownCells_ok q h2 i1 f1 ys s2 eq
    exact ⟨W2, i2, x1.trans x2, RepL.append (RepL.ext x2 r1) r2, f2⟩
theorem Inv.reloc (hi : Inv X st a w A W V) {id : Nat} {l : Loc} {lw : LW} {F F' : List Nat} (hW : W id = some (lw, F)) (hnb : ∀ b, lw ≠ .box b) (hF : F'.Nodup) (hown : ∀ b ∈ F', b < w.heap.size ∧ X.M b ∧ ¬ A b)
    (hap : ∀ j lwj Fj, j ≠ id → W j = some (lwj, Fj) → ∀ b ∈ F', b ∉ Fj) (hl : LocRep A (updW W id (some (lw, F'))) w id l) : Inv X (st.ev (.loc id l)) a w A (updW W id (some (lw, F'))) V := by
  refine hi.turn (hi.rep.set hW (Nat.le_refl _) (fun _ _ _ => rfl) hF hown hap hl) (Nat.le_refl _) (Kept.refl _ _) (fun _ h => h) (fun _ h => .inl h) (fun j b F'' e => ?_)
  by_cases e' : j = id
  · subst e'
    rw [hW] at e
    simp only [Option.some.injEq, Prod.mk.injEq] at e
    exact absurd e.1 (hnb b)
  · rw [updW_other e']; exact e
theorem RdRow.at {α : Type} {R : α → List Nat → List Value → Prop} {b k off : Nat} {xs : List α} {S : List Nat} (h : RdRow R w b k off xs S) {i : Nat} (hi : i < xs.length) :
    ∃ Sa Si Sb cs, S = Sa ++ (Si ++ Sb) ∧ RdRow R w b k off (xs.take i) Sa ∧ cs.length = k ∧ Seg w b (off + i * k) cs ∧ R xs[i] Si cs ∧ RdRow R w b k (off + (i + 1) * k) (xs.drop (i + 1)) Sb := by
  rw [← List.take_append_drop i xs] at h
  obtain ⟨Sa, S2, rfl, h1, h2⟩ := h.split
  rw [List.drop_eq_getElem_cons hi] at h2
  obtain ⟨Si, Sb, cs, rfl, h3, h4, h5, h6⟩ := h2
  have hl : (xs.take i).length = i := by simp; omega
  rw [hl] at h4 h6
  exact ⟨Sa, Si, Sb, cs, rfl, h1, h3, h4, h5, by rw [show off + (i + 1) * k = off + i * k + k by rw [Nat.add_mul]; omega]; exact h6⟩
theorem RdRow.back {α : Type} {R : α → List Nat → List Value → Prop} {b k off : Nat} {xs : List α} {y : α} {i : Nat} {Sa Si Sb : List Nat} {cs : List Value} (hi : i < xs.length) (h1 : RdRow R w b k off (xs.take i) Sa) (h2 : cs.length = k)
    (h3 : Seg w b (off + i * k) cs) (h4 : R y Si cs) (h5 : RdRow R w b k (off + (i + 1) * k) (xs.drop (i + 1)) Sb) : RdRow R w b k off (xs.set i y) (Sa ++ (Si ++ Sb)) := by
  rw [List.set_eq_take_append_cons_drop, if_pos hi]
  have hl : (xs.take i).length = i := by simp; omega
  refine RdRow.append h1 ?_
  rw [hl]
  exact ⟨Si, Sb, cs, rfl, h2, h3, h4, by rw [show off + i * k + k = off + (i + 1) * k by rw [Nat.add_mul]; omega]; exact h5⟩
theorem anys_rep : ∀ (n : Nat) {vs : List Value}, vs.length = n → RepL A W w (List.replicate n .any) vs
  | 0, vs, h => by have := List.eq_nil_of_length_eq_zero h; subst this; simp [RepL]
  | n + 1, [], h => by simp at h
  | n + 1, v :: vs, h => by
    simp only [List.replicate_succ, RepL]
    exact ⟨v, vs, rfl, by simp only [RepAV], anys_rep n (by simpa using h)⟩
theorem ownCells_loc : ∀ (t : Ty) (x : t.den) (st : St) {j : Nat}, j < st.nl → (t.ownCells x st).2.loc j = st.loc j ∧ st.nl ≤ (t.ownCells x st).2.nl
  | .bool, _, _, _, _ => ⟨rfl, Nat.le_refl _⟩
  | .int _, _, _, _, _ => ⟨rfl, Nat.le_refl _⟩
  | .str, _, _, _, _ => ⟨rfl, Nat.le_refl _⟩
  | .err, _, _, _, _ => ⟨rfl, Nat.le_refl _⟩
  | .unit, _, _, _, _ => ⟨rfl, Nat.le_refl _⟩
  | .sl t, x, st, j, h => by
    simp only [Ty.ownCells]
    refine ⟨?_, Nat.le_succ _⟩
    have := loc_loc st st.nl (.row t x true) j
    rw [if_neg (by omega)] at this
    exact this
  | .pair a b, x, st, j, h => by
    obtain ⟨h1, h2⟩ := ownCells_loc a x.1 st h
    obtain ⟨h3, h4⟩ := ownCells_loc b x.2 (a.ownCells x.1 st).2 (j := j) (by omega)
    simp only [Ty.ownCells]
    exact ⟨h3.trans h1, Nat.le_trans h2 h4⟩
theorem open_ok (hi : Inv X st a w A W V) {id b off cap i : Nat} {t : Ty} {xs : List t.den} {F : List Nat} (hW : W id = some (.row b off t.size xs.length cap, F)) (hloc : st.loc id = some (.row t xs true)) (hlt : i < xs.length) {cells : List AV} {st' : St}
    (e : t.ownCells xs[i] (st.ev (.loc id (.opn t xs i (List.replicate t.size .any)))) = (cells, st')) :
    ∃ W' cs, Inv X (st'.ev (.loc id (.opn t xs i cells))) a w A W' V ∧ Seg w b (off + i * t.size) cs ∧ cs.length = t.size ∧ RepL A W' w cells cs ∧ Ext W W' := by
  have hr := hi.rep
  rcases hr.locs id _ _ hW hloc with ⟨g1, _⟩ | ⟨b', off', cap', S', g1, g2, g3, g4, g5, _⟩
  · rw [hW] at g1; simp at g1
  · rw [hW] at g1
    simp only [Option.some.injEq, Prod.mk.injEq, LW.row.injEq, if_true] at g1
    obtain ⟨⟨rfl, rfl, _, _, rfl⟩, rfl⟩ := g1
    obtain ⟨Sa, Si, Sb, cs, rfl, k1, k2, k3, k4, k5⟩ := RdRow.at g5 hlt
    have nd := hr.nodup id _ _ hW
    rw [List.nodup_cons, List.nodup_append, List.nodup_append] at nd
    obtain ⟨nb, nda, ⟨ndi, ndb, dib⟩, dab⟩ := nd
    have own := hr.own id _ _ hW
    have hsub : ∀ c ∈ b :: (Sa ++ Sb), c ∈ b :: (Sa ++ (Si ++ Sb)) := fun c hc => by
      simp only [List.mem_cons, List.mem_append] at hc ⊢
      rcases hc with h | h | h
      · exact .inl h
      · exact .inr (.inl h)
      · exact .inr (.inr (.inr h))
    have ndF : (b :: (Sa ++ Sb)).Nodup := by
      rw [List.nodup_cons, List.nodup_append]
      refine ⟨fun h => nb ?_, nda, ndb, fun x hx y hy => dab x hx y (by simp [hy])⟩
      simp only [List.mem_append] at h ⊢
      exact h.imp (fun h => h) .inr
    have i1 := hi.reloc (l := .opn t xs i (List.replicate t.size .any)) (F' := b :: (Sa ++ Sb)) hW (fun c e => by cases e) ndF (fun c hc => own c (hsub c hc)) (fun j lwj Fj hj ej c hc => hr.apart id j _ _ _ _ (Ne.symm hj) hW ej c (hsub c hc))
      ⟨b, off, cap, Sa, Sb, cs, updW_same _ _ _, hlt, g2, g3, g4, k1, k5, k2, k3, anys_rep _ k2⟩
    have fr : Free X w A (updW W id (some (.row b off t.size xs.length cap, b :: (Sa ++ Sb)))) (Si ++ []) := by
      rw [List.append_nil]
      refine ⟨ndi, fun c hc => own c (by simp [hc]), fun j lwj Fj ej c hc hc' => ?_⟩
      by_cases e' : j = id
      · subst e'
        rw [updW_same] at ej
        simp only [Option.some.injEq, Prod.mk.injEq] at ej
        rw [← ej.2] at hc'
        simp only [List.mem_cons, List.mem_append] at hc'
        rcases hc' with rfl | h | h
        · exact nb (by simp [hc])
        · exact dab c h c (by simp [hc]) rfl
        · exact dib c hc c h rfl
      · rw [updW_other e'] at ej
        exact hr.apart id j _ _ _ _ (Ne.symm e') hW ej c (by simp [hc]) hc'
    obtain ⟨W2, i2, x2, r2, _⟩ := ownCells_ok t k4 i1 fr _ _ e
    obtain ⟨F2, hW2⟩ := x2 id _ _ (updW_same _ _ _)
    have hlt' : id < st.nl := by
      rcases Nat.lt_or_ge id st.nl with h | h
      · exact h
      · rw [hr.fresh id h] at hW; cases hW
    have hl2 : st'.loc id = some (.opn t xs i (List.replicate t.size .any)) := by
      have := (ownCells_loc t xs[i] (st.ev (.loc id (.opn t xs i (List.replicate t.size .any)))) (j := id) hlt').1
      rw [e] at this
      rw [this, loc_loc, if_pos rfl]
    obtain ⟨b3, off3, cap3, Sa3, Sb3, cs3, q1, q2, q3, q4, q5, q6, q7, q8, q9, q10⟩ := i2.rep.locs id _ _ hW2 hl2
    rw [hW2] at q1
    simp only [Option.some.injEq, Prod.mk.injEq, LW.row.injEq] at q1
    obtain ⟨⟨rfl, rfl, _, _, rfl⟩, rfl⟩ := q1
    have hx3 : Ext W2 (updW W2 id (some (.row b off t.size xs.length cap, b :: (Sa3 ++ Sb3)))) := fun j lw F e0 => by
      by_cases e' : j = id
      · subst e'; rw [hW2] at e0; cases e0; exact ⟨_, updW_same _ _ _⟩
      · exact ⟨F, by rw [updW_other e']; exact e0⟩
    have r3 := RepL.ext hx3 r2
    exact ⟨_, cs, i2.reloc (l := .opn t xs i cells) hW2 (fun c e => by cases e) (i2.rep.nodup id _ _ hW2) (i2.rep.own id _ _ hW2) (fun j lwj Fj hj ej => i2.rep.apart id j _ _ _ _ (Ne.symm hj) hW2 ej)
      ⟨b, off, cap, Sa3, Sb3, cs, updW_same _ _ _, hlt, g2, g3, g4, q6, q7, k2, k3, r3⟩, k3, k2, r3, fun j lw F e0 => by
      by_cases e' : j = id
      · subst e'; rw [hW] at e0; cases e0; exact ⟨_, updW_same _ _ _⟩
      · obtain ⟨F2, e2⟩ := x2 j lw F (by rw [updW_other e']; exact e0)
        exact ⟨F2, by rw [updW_other e']; exact e2⟩⟩
theorem settle1_ok (hi : Inv X st a w A W V) {id : Nat} {lw : LW} {F : List Nat} (hW : W id = some (lw, F)) : ∃ W', Inv X (st.settle1 id) a w A W' V := by
  unfold St.settle1
  split
  · rename_i t xs i cells hloc
    split
    · rename_i hm
      split
      · rename_i y hp
        simp only [Bool.and_eq_true, moveOK] at hm
        obtain ⟨⟨hm1, hm2⟩, hm3⟩ := hm
        have hnm := notMem_spec hm3
        obtain ⟨b, off, cap, Sa, Sb, cs, g1, g2, g3, g4, g5, g6, g7, g8, g9, g10⟩ := hi.rep.locs id _ _ hW hloc
        rw [hW] at g1
        simp only [Option.some.injEq, Prod.mk.injEq] at g1
        obtain ⟨rfl, rfl⟩ := g1
        have hrd := own_packAll hi.rep g10 hm1 hp
        obtain ⟨W1, i1, f1, o1, z1⟩ := kill_free hi Free.nil (rowIds_live g10) (distinct_nodup hm2)
        rw [List.nil_append] at f1
        have hW1 : W1 id = some (.row b off t.size xs.length cap, b :: (Sa ++ Sb)) := by rw [o1 id hnm]; exact hW
        have nd := i1.rep.nodup id _ _ hW1
        rw [List.nodup_cons, List.nodup_append] at nd
        obtain ⟨nb, nda, ndb, dab⟩ := nd
        have own := i1.rep.own id _ _ hW1
        have dS : ∀ c ∈ (rowIds cells).flatMap (foot W), c ∉ b :: (Sa ++ Sb) := fun c hc => f1.apart id _ _ hW1 c hc
        have hmem : ∀ c ∈ b :: (Sa ++ ((rowIds cells).flatMap (foot W) ++ Sb)), c ∈ (rowIds cells).flatMap (foot W) ∨ c ∈ b :: (Sa ++ Sb) := fun c hc => by
          simp only [List.mem_cons, List.mem_append] at hc ⊢
          rcases hc with h | h | h | h
          · exact .inr (.inl h)
          · exact .inr (.inr (.inl h))
          · exact .inl h
          · exact .inr (.inr (.inr h))
        refine ⟨_, i1.reloc (l := .row t (xs.set i y) true) (F' := b :: (Sa ++ ((rowIds cells).flatMap (foot W) ++ Sb))) hW1 (fun c e => by cases e) ?_ (fun c hc => ?_) (fun j lwj Fj hj ej c hc => ?_)
          (.inr ⟨b, off, cap, _, by rw [List.length_set]; exact updW_same _ _ _, by rw [List.length_set]; exact g3, g4, g5, RdRow.back g2 g6 g8 g9 hrd g7, fun e => by cases e⟩)⟩
        · rw [List.nodup_cons, List.nodup_append, List.nodup_append]
          refine ⟨fun h => ?_, nda, ⟨f1.nodup, ndb, fun x hx z hz e => dS x hx (by subst e; simp [hz])⟩, fun x hx z hz e => ?_⟩
          · simp only [List.mem_append] at h
            rcases h with h | h | h
            · exact nb (by simp [h])
            · exact dS b h (by simp)
            · exact nb (by simp [h])
          · subst e
            rcases List.mem_append.1 hz with h | h
            · exact dS x h (by simp [hx])
            · exact dab x hx x h rfl
        · exact (hmem c hc).elim (fun h => f1.own c h) (fun h => own c h)
        · exact (hmem c hc).elim (fun h => f1.apart j lwj Fj ej c h) (fun h => i1.rep.apart id j _ _ _ _ (Ne.symm hj) hW1 ej c h)
      · exact ⟨W, hi⟩
    · exact ⟨W, hi⟩
  · exact ⟨W, hi⟩
theorem settleAll_ok : ∀ (ks : List Nat) {st : St} {W : Wit}, Inv X st a w A W V → ∃ W', Inv X (st.settleAll ks) a w A W' V
  | [], st, W, hi => ⟨W, hi⟩
  | k :: ks, st, W, hi => by
    simp only [St.settleAll]
    suffices h : ∃ W', Inv X (st.settleK k) a w A W' V by
      obtain ⟨W', h⟩ := h
      exact settleAll_ok ks h
    unfold St.settleK
    split
    · rename_i id e
      have := hi.rep.slots k
      rw [e] at this
      obtain ⟨lw, F, hW, _⟩ := hi.rep.row_live this
      exact settle1_ok hi hW
    · exact ⟨W, hi⟩
theorem settle_ok (hi : Inv X st a w A W V) : ∃ W', Inv X st.settle a w A W' V := by
  unfold St.settle
  cases hasOpn st.log with
  | true => exact settleAll_ok _ hi
  | false => exact ⟨W, hi⟩

end
end Go.Proofs.Fw
