/- What the executor says of a function is its contract. -/
import Derived.Test.YtjblmapbompclaaGreatFwZd
set_option linter.all false
namespace Go.Proofs.Fw
open Go

section
variable [GInv] {R : Type} {P : Program} {c : Cfg} {X : Ctx} {st : St} {a : Act} {w w' : World} {A A' B : Nat → Prop} {W : Wit} {V : Nat → Value} {r : R} {M : Nat → Prop}
theorem argCells_rows {ag : Bool} {v : AV} {cs : List AV} (h : argCells ag v = some cs) : rowIds v.cells = rowIds cs := by
  unfold argCells at h
  split at h
  · obtain ⟨_, h⟩ := cond_some h
    simp only [Option.some.injEq] at h
    rw [← h]; rfl
  · rename_i hne
    cases ag with
    | true => simp at h
    | false =>
      simp only [cond, Option.some.injEq] at h
      rw [← h]
      cases v <;> first | rfl | exact absurd rfl (hne _)
theorem argCells_rep {ag : Bool} {v : AV} {cs : List AV} {u : Value} (h : argCells ag v = some cs) (hv : RepAV A W w v u) :
    ∃ ws, RepL A W w cs ws ∧ ((ag = true ∧ u = .agg ws.toArray) ∨ (ag = false ∧ ws = [u])) := by
  unfold argCells at h
  split at h
  · obtain ⟨hag, h⟩ := cond_some h
    simp only [Option.some.injEq] at h
    subst h
    simp only [RepAV] at hv
    obtain ⟨ws, rfl, hv⟩ := hv
    exact ⟨ws, hv, .inl ⟨hag, rfl⟩⟩
  · cases ag with
    | true => simp at h
    | false =>
      simp only [cond, Option.some.injEq] at h
      subst h
      exact ⟨[u], by simp only [RepL]; exact ⟨u, [], rfl, hv, rfl⟩, .inr ⟨rfl, rfl⟩⟩
def Sharedly (W : Wit) (A : Nat → Prop) (own : List Nat) (b : Nat) : Prop := A b ∨ ∃ id lw F, id ∉ own ∧ W id = some (lw, F) ∧ (∀ b, lw ≠ .box b) ∧ b ∈ F
theorem data_shared (hr : Rep st w M A W V) {cs : List AV} {ws : List Value} {t : Ty} {x : t.den} {own : List Nat} (h : RepL A W w cs ws) (hp : t.packAll (st.dataL cs) = some x) (hd : disj (rowIds cs) own = true) :
    ∃ S, Rd w t x S ws ∧ ∀ b ∈ S, Sharedly W A own b := by
  obtain ⟨Ss, d1, d2, _⟩ := dataL_rep hr cs ws h
  refine ⟨_, packAll_rep d1 hp, fun b hb => ?_⟩
  rcases d2 b hb with h | ⟨id, hid, hfo, lw, F, t, xs, dp, e1, e2, e3⟩
  · exact .inl h
  · exact .inr ⟨id, lw, F, notMem_disj hd id hid, e1, e2, by simpa [foot, e1] using hfo⟩
theorem packOuts_ok (hr : Rep st w M A W V) (own : List Nat) : ∀ (outs : List OutK) (avs : List AV) (us : List Value) (y : (outsTy outs).den), RepL A W w avs us → packOuts st own outs avs = some y →
    OutsRd w (Sharedly W A own) outs us y ((ownIds outs avs).flatMap (foot W))
  | [], [], us, y, h, e => by
    simp only [RepL] at h
    exact ⟨h, rfl⟩
  | [], _ :: _, us, y, h, e => by simp [packOuts] at e
  | o :: r, [], us, y, h, e => by simp [packOuts] at e
  | o :: r, v :: avs, us, y, h, e => by
    simp only [RepL] at h
    obtain ⟨u, us', rfl, h1, h2⟩ := h
    simp only [packOuts] at e
    cases hc : argCells o.agg v with
    | none => rw [hc] at e; simp at e
    | some cs =>
      rw [hc] at e
      simp only at e
      obtain ⟨ws, k1, k2⟩ := argCells_rep hc h1
      have hrow := argCells_rows hc
      split at e
      · rename_i hcond
        cases hp : o.t.packAll (st.dataL cs) with
        | none => rw [hp] at e; simp at e
        | some x1 =>
          rw [hp] at e
          simp only at e
          cases hq : packOuts st own r avs with
          | none => rw [hq] at e; simp at e
          | some x2 =>
            rw [hq] at e
            have e : (x1, x2) = y := Option.some.inj e
            subst e
            have ih := packOuts_ok hr own r avs us' x2 h2 hq
            cases ho : o.own with
            | true =>
              rw [ho] at hcond
              simp only [cond] at hcond
              unfold Ty.packAll at hp
              split at hp
              · rename_i x' hpk
                simp only [Option.some.injEq] at hp
                subst hp
                obtain ⟨u1, u2, c1, c2, e1, e2, e3, g1, g2, _⟩ := own_pack hr o.t k1 hcond hpk
                have hc2 : c2 = [] := by
                  cases c2 with
                  | nil => rfl
                  | cons _ _ => simp [St.dataL] at e3
                subst hc2
                simp only [RepL] at g2
                subst g2
                simp only [List.append_nil] at e1 e2
                subst e1 e2
                refine ⟨u, us', (rowIds cs).flatMap (foot W), _, rfl, ?_, ih⟩
                rw [if_pos ho]
                refine ⟨?_, by simp only [ownIds, ho, cond, List.flatMap_append, hrow]⟩
                unfold OwnV
                rcases k2 with ⟨hag, rfl⟩ | ⟨hag, rfl⟩
                · rw [if_pos hag]; exact ⟨_, rfl, g1⟩
                · rw [if_neg (by rw [hag]; simp)]; exact g1
              · cases hp
            | false =>
              rw [ho] at hcond
              simp only [cond] at hcond
              obtain ⟨S, g1, g2⟩ := data_shared hr k1 hp hcond
              refine ⟨u, us', S, _, rfl, ?_, ih⟩
              rw [if_neg (by rw [ho]; simp)]
              refine ⟨?_, g2, by simp only [ownIds, ho, cond]⟩
              unfold ValRd
              rcases k2 with ⟨hag, rfl⟩ | ⟨hag, rfl⟩
              · rw [if_pos hag]; exact ⟨_, rfl, g1⟩
              · rw [if_neg (by rw [hag]; simp)]; exact g1
      · cases e
theorem MutAt.flat : ∀ (t : Ty) {cs : List AV} {Ss : List (List Nat)} {us : List Value}, MutAt W t cs Ss us → Ss.flatten = (rowIds cs).flatMap (foot W)
  | .sl t, cs, Ss, us, h => by
    unfold MutAt at h
    rcases h with ⟨rfl, rfl, _⟩ | ⟨id, lw, F, rfl, hW, rfl, _, _⟩
    · simp [rowIds]
    · simp [rowIds, foot, hW]
  | .pair p q, cs, Ss, us, h => by
    obtain ⟨c1, c2, S1, S2, u1, u2, rfl, rfl, rfl, h1, h2⟩ := h
    rw [List.flatten_append, rowIds_append, List.flatMap_append, MutAt.flat p h1, MutAt.flat q h2]
  | .unit, cs, Ss, us, h => by obtain ⟨rfl, rfl, _⟩ := h; rfl
  | .bool, cs, Ss, us, h => by obtain ⟨rfl, c, u, rfl, _, hr⟩ := h; rw [hr]; rfl
  | .int _, cs, Ss, us, h => by obtain ⟨rfl, c, u, rfl, _, hr⟩ := h; rw [hr]; rfl
  | .str, cs, Ss, us, h => by obtain ⟨rfl, c, u, rfl, _, hr⟩ := h; rw [hr]; rfl
  | .err, cs, Ss, us, h => by obtain ⟨rfl, c, u, rfl, _, hr⟩ := h; rw [hr]; rfl
theorem MutV.flat {ag : Bool} {t : Ty} {cs : List AV} {Ss : List (List Nat)} {u : Value} (h : MutV W ag t cs Ss u) : Ss.flatten = (rowIds cs).flatMap (foot W) := by
  obtain ⟨us, h⟩ := h.at
  exact h.flat t
def endIds (st : St) : List PK → Nat → Nat → List Nat
  | [], _, _ => []
  | .val _ _ :: r, n, j => endIds st r n j
  | .fn _ _ :: r, n, j => endIds st r n j
  | .ptr _ :: r, n, j => n :: endIds st r (n + 1) j
  | .take _ _ :: r, n, j => endIds st r n j
  | .mut _ t :: r, n, j => rowIds (st.get j).cells ++ endIds st r (n + nSl t) (j + 1)
theorem endIds_kind : ∀ (ins : List PK) (n j : Nat) (bs : List (List Nat)), BoxesAt W ins n bs → ∀ id ∈ endIds st ins n j, id ∈ mutOut st ins j ∨ (n ≤ id ∧ ∃ b, W id = some (.box b, [b]))
  | [], _, _, _, _, id, hid => by simp [endIds] at hid
  | .val _ _ :: r, n, j, bs, hb, id, hid => by
    have := endIds_kind r n j bs hb id (by simpa only [endIds] using hid)
    simpa only [mutOut] using this
  | .fn _ _ :: r, n, j, bs, hb, id, hid => by
    have := endIds_kind r n j bs hb id (by simpa only [endIds] using hid)
    simpa only [mutOut] using this
  | .ptr _ :: r, n, j, bs, ⟨b, bs', _, h1, h2⟩, id, hid => by
    simp only [endIds, List.mem_cons] at hid
    rcases hid with rfl | hid
    · exact .inr ⟨Nat.le_refl _, b, h1⟩
    · rcases endIds_kind r (n + 1) j bs' h2 id hid with h | ⟨h, h'⟩
      · exact .inl (by simpa only [mutOut] using h)
      · exact .inr ⟨by omega, h'⟩
  | .take _ t :: r, n, j, bs, ⟨Ss, bs', _, _, h2⟩, id, hid => by
    have := endIds_kind r n j bs' h2 id (by simpa only [endIds] using hid)
    simpa only [mutOut] using this
  | .mut _ t :: r, n, j, bs, ⟨Ss, bs', _, _, h2⟩, id, hid => by
    simp only [endIds, List.mem_append] at hid
    rcases hid with hid | hid
    · exact .inl (by simp only [mutOut, List.mem_append]; exact .inl hid)
    · rcases endIds_kind r (n + nSl t) (j + 1) bs' h2 id hid with h | ⟨h, h'⟩
      · exact .inl (by simp only [mutOut, List.mem_append]; exact .inr h)
      · exact .inr ⟨by omega, h'⟩
theorem mutOut_live (hr : Rep st w M A W V) : ∀ (ins : List PK) (j : Nat), ∀ id ∈ mutOut st ins j, ∃ lw F, W id = some (lw, F) ∧ ∀ b, lw ≠ .box b
  | [], _, id, hid => by simp [mutOut] at hid
  | .val _ _ :: r, j, id, hid => mutOut_live hr r j id (by simpa only [mutOut] using hid)
  | .fn _ _ :: r, j, id, hid => mutOut_live hr r j id (by simpa only [mutOut] using hid)
  | .ptr _ :: r, j, id, hid => mutOut_live hr r j id (by simpa only [mutOut] using hid)
  | .take _ _ :: r, j, id, hid => mutOut_live hr r j id (by simpa only [mutOut] using hid)
  | .mut _ _ :: r, j, id, hid => by
    simp only [mutOut, List.mem_append] at hid
    rcases hid with hid | hid
    · have h1 := hr.slots j
      cases hv : st.get j with
      | agg cs =>
        rw [hv] at h1 hid
        simp only [RepAV] at h1
        obtain ⟨ws, _, h1⟩ := h1
        exact rowIds_live h1 id hid
      | row i =>
        rw [hv] at h1 hid
        simp only [AV.cells, rowIds, List.mem_singleton] at hid
        subst hid
        simp only [RepAV] at h1
        obtain ⟨lw, F, e, hb, _⟩ := h1
        exact ⟨lw, F, e, hb⟩
      | _ => rw [hv] at hid; simp [AV.cells, rowIds] at hid
    · exact mutOut_live hr r (j + 1) id hid
theorem endIds_nodup (hr : Rep st w M A W V) : ∀ (ins : List PK) (n j : Nat) (bs : List (List Nat)), BoxesAt W ins n bs → (mutOut st ins j).Nodup → (endIds st ins n j).Nodup
  | [], _, _, _, _, _ => by simp [endIds]
  | .val _ _ :: r, n, j, bs, hb, hn => endIds_nodup hr r n j bs hb (by simpa only [mutOut] using hn)
  | .fn _ _ :: r, n, j, bs, hb, hn => endIds_nodup hr r n j bs hb (by simpa only [mutOut] using hn)
  | .ptr _ :: r, n, j, bs, ⟨b, bs', _, h1, h2⟩, hn => by
    simp only [endIds, List.nodup_cons]
    refine ⟨fun h => ?_, endIds_nodup hr r (n + 1) j bs' h2 (by simpa only [mutOut] using hn)⟩
    rcases endIds_kind r (n + 1) j bs' h2 n h with h | ⟨h, _⟩
    · obtain ⟨lw, F, e, hb⟩ := mutOut_live hr r j n h
      rw [h1] at e
      simp only [Option.some.injEq, Prod.mk.injEq] at e
      exact hb b e.1.symm
    · omega
  | .take _ _ :: r, n, j, bs, ⟨Ss, bs', _, _, h2⟩, hn => endIds_nodup hr r n j bs' h2 (by simpa only [mutOut] using hn)
  | .mut ag t :: r, n, j, bs, ⟨Ss, bs', _, _, h2⟩, hn => by
    simp only [mutOut] at hn
    rw [List.nodup_append] at hn
    simp only [endIds]
    rw [List.nodup_append]
    refine ⟨hn.1, endIds_nodup hr r (n + nSl t) (j + 1) bs' h2 hn.2.1, fun x hx z hz e => ?_⟩
    subst e
    rcases endIds_kind r (n + nSl t) (j + 1) bs' h2 x hz with h | ⟨_, b, h⟩
    · exact hn.2.2 x hx x h rfl
    · obtain ⟨lw, F, e, hb⟩ := mutOut_live hr (.mut ag t :: r) j x (by simp only [mutOut, List.mem_append]; exact .inl hx)
      rw [h] at e
      simp only [Option.some.injEq, Prod.mk.injEq] at e
      exact hb b e.1.symm
theorem foot_nodup (hr : Rep st w M A W V) : ∀ ids : List Nat, ids.Nodup → (∀ id ∈ ids, ∃ lw F, W id = some (lw, F)) → (ids.flatMap (foot W)).Nodup
  | [], _, _ => by simp
  | id :: ids, hn, hl => by
    rw [List.nodup_cons] at hn
    obtain ⟨lw, F, e⟩ := hl id (by simp)
    simp only [List.flatMap_cons, List.nodup_append]
    refine ⟨by simp only [foot, e]; exact hr.nodup id lw F e, foot_nodup hr ids hn.2 (fun j hj => hl j (by simp [hj])), ?_⟩
    intro b hb b' hb' hbb
    subst hbb
    obtain ⟨j, h1, h2⟩ := List.mem_flatMap.1 hb'
    obtain ⟨lw', F', e'⟩ := hl j (by simp [h1])
    simp only [foot, e] at hb
    simp only [foot, e'] at h2
    exact hr.apart id j _ _ _ _ (fun e => by subst e; exact hn.1 h1) e e' b hb h2
theorem packPtrs_ok (hr : Rep st w M A W V) (own : List Nat) {w0 : World} {B0 : Nat → Prop} : ∀ (ins : List PK) (n j0 : Nat) (vs : List Value) (bs : List (List Nat)) (x : (insTy ins).den) (y : (ptrTy ins).den), BoxesAt W ins n bs → ArgsRd w0 B0 ins vs x bs → MutV0 V ins vs j0 → packPtrs st own ins n j0 = some y →
    ∃ bs', PtrsRd w (Sharedly W A own) ins vs bs bs' y ∧ bs'.flatten = (endIds st ins n j0).flatMap (foot W)
  | [], n, j0, vs, bs, x, y, hb, ha, hv, e => ⟨[], rfl, rfl⟩
  | .val _ _ :: r, n, j0, vs, bs, x, y, hb, ha, hv, e => by
    obtain ⟨v, us, S, rfl, _, _, ha⟩ := ha
    exact packPtrs_ok hr own r n j0 us bs x.2 y hb ha hv e
  | .fn _ _ :: r, n, j0, vs, bs, x, y, hb, ha, hv, e => by
    obtain ⟨cs, us, rfl, _, ha⟩ := ha
    exact packPtrs_ok hr own r n j0 us bs x.2 y hb ha hv e
  | .take ag t :: r, n, j0, vs, bs, x, y, hb, ha, hv, e => by
    obtain ⟨v, us, Ss, bs', rfl, rfl, h0, ha⟩ := ha
    obtain ⟨Ss', bs'', e1, hl, hb⟩ := hb
    have hSl : Ss.length = nSl t := by
      unfold OwnLV at h0
      split at h0
      · obtain ⟨_, _, h0⟩ := h0; exact (OwnL.length t h0).2
      · exact (OwnL.length t h0).2
    obtain ⟨rfl, rfl⟩ := List.append_inj e1 (by rw [hl, hSl])
    obtain ⟨b2, ih1, ih2⟩ := packPtrs_ok hr own r n j0 us bs' x.2 y hb ha hv e
    exact ⟨b2, ⟨Ss, bs', rfl, hl, ih1⟩, ih2⟩
  | .mut ag t :: r, n, j0, vs, bs, x, y, hb, ha, hv, e => by
    obtain ⟨v, us, Ss, bs', rfl, rfl, h0, ha⟩ := ha
    obtain ⟨Ss', bs'', e1, hl, hb⟩ := hb
    obtain ⟨hv1, hv2⟩ := hv
    have hSl : Ss.length = nSl t := by
      unfold OwnLV at h0
      split at h0
      · obtain ⟨_, _, h0⟩ := h0; exact (OwnL.length t h0).2
      · exact (OwnL.length t h0).2
    obtain ⟨rfl, rfl⟩ := List.append_inj e1 (by rw [hl, hSl])
    simp only [packPtrs] at e
    cases hc : argCells ag (st.get j0) with
    | none => rw [hc] at e; simp at e
    | some cs =>
      rw [hc] at e
      simp only at e
      cases hm : deepOK st cs with
      | false => rw [hm] at e; simp at e
      | true =>
        rw [hm] at e
        simp only at e
        cases hp : t.packAll (st.dataL cs) with
        | none => rw [hp] at e; simp at e
        | some x1 =>
          rw [hp] at e
          simp only at e
          cases hq : packPtrs st own r (n + nSl t) (j0 + 1) with
          | none => rw [hq] at e; simp at e
          | some x2 =>
            rw [hq] at e
            have e : (x1, x2) = y := Option.some.inj e
            subst e
            obtain ⟨b2, ih1, ih2⟩ := packPtrs_ok hr own r (n + nSl t) (j0 + 1) us bs' x.2 x2 hb ha hv2 hq
            have hg := hr.slots j0
            rw [hv1] at hg
            obtain ⟨S1, q1, q2, q3⟩ := own_packV hr hg hc hm hp
            refine ⟨S1 ++ b2, ⟨v, us, Ss, S1, bs', b2, rfl, rfl, rfl, hl, q1, ih1⟩, ?_⟩
            simp only [endIds]
            rw [List.flatten_append, List.flatMap_append, q2.flat, ih2, q3]
  | .ptr t :: r, n, j0, vs, bs, x, y, hb, ha, hv, e => by
    obtain ⟨b, us, bs', cs0, S0, rfl, rfl, _, _, _, _, ha⟩ := ha
    obtain ⟨b', bs'', e1, hb1, hb2⟩ := hb
    simp only [List.cons.injEq, and_true] at e1
    obtain ⟨rfl, rfl⟩ := e1
    simp only [packPtrs] at e
    cases hlo : st.loc n with
    | none => rw [hlo] at e; simp at e
    | some l =>
      rw [hlo] at e
      cases l with
      | row _ _ _ => simp at e
      | mp _ _ _ => simp at e
      | opn _ _ _ _ => simp at e
      | box cs =>
        simp only at e
        split at e
        · rename_i hd
          cases hp : t.packAll (st.dataL cs) with
          | none => rw [hp] at e; simp at e
          | some x1 =>
            rw [hp] at e
            simp only at e
            cases hq : packPtrs st own r (n + 1) j0 with
            | none => rw [hq] at e; simp at e
            | some x2 =>
              rw [hq] at e
              have e : (x1, x2) = y := Option.some.inj e
              subst e
              obtain ⟨b', ws, k1, k2, k3, k4⟩ := hr.locs n _ _ hb1 hlo
              rw [hb1] at k1
              simp only [Option.some.injEq, Prod.mk.injEq, LW.box.injEq] at k1
              obtain ⟨rfl, _⟩ := k1
              obtain ⟨S, g1, g2⟩ := data_shared hr k4 hp hd
              obtain ⟨b2, ih1, ih2⟩ := packPtrs_ok hr own r (n + 1) j0 us bs' x.2 x2 hb2 ha hv hq
              refine ⟨[b] :: b2, ⟨b, bs', b2, ws, S, rfl, rfl, k2, k3, g1, g2, ih1⟩, ?_⟩
              simp only [endIds, List.flatMap_cons, List.flatten_cons, ih2, foot, hb1]
        · cases e
def mutVals : List PK → List Value → List Value
  | .mut _ _ :: r, v :: vs => v :: mutVals r vs
  | _ :: r, vs => mutVals r vs.tail
  | [], _ => []
theorem mutV0_of {w0 : World} {B0 : Nat → Prop} : ∀ (ins : List PK) (vs : List Value) (x : (insTy ins).den) (bs : List (List Nat)) (j : Nat), ArgsRd w0 B0 ins vs x bs → (∀ i, i < nMut ins → V (j + i) = (mutVals ins vs).getD i Go.undef) → MutV0 V ins vs j
  | [], _, _, _, _, _, _ => trivial
  | .val _ _ :: r, _, x, bs, j, ⟨v, us, S, e, _, _, ha⟩, h => by subst e; exact mutV0_of r us x.2 bs j ha h
  | .fn _ _ :: r, _, x, bs, j, ⟨cs, us, e, _, ha⟩, h => by subst e; exact mutV0_of r us x.2 bs j ha h
  | .ptr _ :: r, _, x, bs, j, ⟨b, us, bs', cs, S, e, _, _, _, _, _, ha⟩, h => by subst e; exact mutV0_of r us x.2 bs' j ha h
  | .take _ _ :: r, _, x, bs, j, ⟨v, us, Ss, bs', e, _, _, ha⟩, h => by subst e; exact mutV0_of r us x.2 bs' j ha h
  | .mut _ _ :: r, _, x, bs, j, ⟨v, us, Ss, bs', e, _, _, ha⟩, h => by
    subst e
    refine ⟨by simpa [mutVals] using h 0 (by simp [nMut]), mutV0_of r us x.2 bs' (j + 1) ha fun i hi => ?_⟩
    have := h (i + 1) (by simp only [nMut]; omega)
    rw [show j + 1 + i = j + (i + 1) by omega, this]
    simp [mutVals]
theorem MutV0.congr {V' : Nat → Value} : ∀ (ins : List PK) (vs : List Value) (j : Nat), (∀ i, i < nMut ins → V' (j + i) = V (j + i)) → MutV0 V ins vs j → MutV0 V' ins vs j
  | [], _, _, _, _ => trivial
  | .val _ _ :: r, vs, j, h, g => MutV0.congr r vs.tail j h g
  | .fn _ _ :: r, vs, j, h, g => MutV0.congr r vs.tail j h g
  | .ptr _ :: r, vs, j, h, g => MutV0.congr r vs.tail j h g
  | .take _ _ :: r, vs, j, h, g => MutV0.congr r vs.tail j h g
  | .mut _ _ :: r, [], j, h, g => g
  | .mut _ _ :: r, v :: vs, j, h, ⟨g1, g2⟩ => ⟨by have := h 0 (by simp [nMut]); simp only [Nat.add_zero] at this; rw [this]; exact g1, MutV0.congr r vs (j + 1) (fun i hi => by
    have := h (i + 1) (by simp only [nMut]; omega)
    rw [show j + 1 + i = j + (i + 1) by omega]; exact this) g2⟩
theorem ownIds_live : ∀ (outs : List OutK) (avs : List AV) (us : List Value), RepL A W w avs us → ∀ id ∈ ownIds outs avs, ∃ lw F, W id = some (lw, F) ∧ ∀ b, lw ≠ .box b
  | [], _, _, _, id, hid => by simp [ownIds] at hid
  | _ :: _, [], _, _, id, hid => by simp [ownIds] at hid
  | o :: r, v :: avs, us, h, id, hid => by
    simp only [RepL] at h
    obtain ⟨u, us', rfl, h1, h2⟩ := h
    simp only [ownIds] at hid
    have one : id ∈ rowIds v.cells → ∃ lw F, W id = some (lw, F) ∧ ∀ b, lw ≠ .box b := fun hid => by
      cases v with
      | agg cs =>
        simp only [RepAV] at h1
        obtain ⟨ws, _, h1⟩ := h1
        exact rowIds_live h1 id hid
      | row j =>
        simp only [AV.cells, rowIds, List.mem_singleton] at hid
        subst hid
        simp only [RepAV] at h1
        obtain ⟨lw, F, e, hb, _⟩ := h1
        exact ⟨lw, F, e, hb⟩
      | _ => simp [AV.cells, rowIds] at hid
    cases ho : o.own with
    | true =>
      rw [ho] at hid
      simp only [cond, List.mem_append] at hid
      exact hid.elim one (ownIds_live r avs us' h2 id)
    | false =>
      rw [ho] at hid
      exact ownIds_live r avs us' h2 id hid
theorem BoxesAt.keep {W' : Wit} (h : ∀ j b, W j = some (.box b, [b]) → W' j = some (.box b, [b])) : ∀ {ins : List PK} {bs : List (List Nat)} {n : Nat}, BoxesAt W ins n bs → BoxesAt W' ins n bs
  | [], _, _, g => g
  | .val _ _ :: r, _, _, g => BoxesAt.keep (ins := r) h g
  | .fn _ _ :: r, _, _, g => BoxesAt.keep (ins := r) h g
  | .ptr _ :: r, _, _, ⟨b, bs', e, h1, h2⟩ => ⟨b, bs', e, h _ _ h1, BoxesAt.keep h h2⟩
  | .take _ t :: r, _, _, ⟨Ss, bs', e, h1, h2⟩ => ⟨Ss, bs', e, h1, BoxesAt.keep h h2⟩
  | .mut _ t :: r, _, _, ⟨Ss, bs', e, h1, h2⟩ => ⟨Ss, bs', e, h1, BoxesAt.keep h h2⟩
theorem fun_ok {g : Nat} {fn : Func} {s : Sig} {depth : Nat} (hc : CfgOK P c g fn) (hg : P.funcs[g]? = some fn) (hcl : Callable P g) (hF : ∀ x y, s.F x = some y → funK c depth g fn s.ins s.outs x = some y) : Ok P g s := by
  refine ⟨hcl, fun w vs x y bs B hJ hS hargs hB nd hbs hy => ?_⟩
  have hk := hF x y hy
  unfold funK runF at hk
  obtain ⟨hle, hk⟩ := cond_some hk
  have hle := Nat.le_of_ble_eq_true hle
  split at hk
  · cases hk
  · rename_i body hb
    refine calls_of_wp hg hb ?_
    let m : Nat := nMut s.ins
    let a1 : Act := { tmps := vs.toArray ++ Array.replicate (fn.ntmps - vs.toArray.size) Go.undef, defers := [] }
    let V : Nat → Value := fun k => if k < m then (mutVals s.ins vs).getD k Go.undef else a1.tmps.getD (k - m) Go.undef
    let M : Nat → Prop := fun b => w.heap.size ≤ b ∨ b ∈ bs.flatten
    let st0 : St := { log := [], nl := 0, nb := m + fn.ntmps }
    have h0 : Rep st0 w M B (fun _ => none) V :=
      ⟨hB, (fun _ _ _ e => by cases e), (fun _ _ _ e => by cases e), (fun _ _ _ _ _ _ _ e => by cases e), (fun _ _ => rfl), (fun k => by simp only [St.get, st0, look, RepAV]), (fun _ _ _ e => by cases e), (fun _ _ => rfl)⟩
    have hget : ∀ n, n < vs.length → V (m + n) = vs.getD n Go.undef := fun n hn => by
      simp only [V]
      rw [if_neg (by omega), show m + n - m = n by omega]
      simp [a1, Array.getElem?_append, hn]
    have hm0 : MutV0 V s.ins vs 0 := mutV0_of s.ins vs x bs 0 hargs (fun i hi => by simp only [V, Nat.zero_add]; rw [if_pos hi])
    obtain ⟨W0, r1, r2, r3, r4, r5, r6, r8⟩ := start_ok s.ins x m 0 st0 _ vs bs h0 hargs hget (by simp only [st0]; omega) (by simp [m]) hm0 nd (fun b hb => ⟨(hbs b hb).1, .inr hb, (hbs b hb).2⟩) (fun _ _ _ e => (by cases e))
    have r2 : (startK s.ins x m 0 st0).nl = nIds s.ins := by rw [r2]; simp [st0]
    let X : Ctx := { M := M, A0 := B, W0 := W0, V0 := V, w0 := w, f := ⟨m, fn.ntmps, g, depth, nIds s.ins⟩, C := fun _ => False, wC := w }
    have hi : Inv X (startK s.ins x m 0 st0) a1 w B W0 V := by
      refine ⟨r1, ?_, rfl, fun n hn => ?_, fun k hk => rfl, by rw [r3]; simp [X, st0], Kept.refl _ _, fun _ h => h, fun _ h => .inl h, fun _ _ _ h => h, fun b hb => .inl hb, fun _ h => h.elim, fun _ h => h.elim, fun j p e => ?_, ⟨hJ, fun b hb => ⟨hS b hb, fun hM => hM.elim (fun h => by have := hB b (hS b hb); omega) (fun h => (hbs b h).2 (hS b hb)), hB b (hS b hb)⟩⟩⟩
      · simp only [a1, Array.size_append, List.size_toArray, Array.size_replicate, X]; omega
      · simp only [X, V]
        rw [if_neg (by omega), show m + n - m = n by omega]
      · simp only [X]
        rcases Nat.lt_or_ge j (nIds s.ins) with h | h
        · exact h
        · have e : W0 j = some p := e
          rw [r1.fresh j (by rw [r2]; exact h)] at e; cases e
    have hwp := code_ok (X := X) hc.tab hc.eqs (handler_ok hc depth) hc.mix (whole := body) (fun s' hs e1 e2 e3 e4 bd hbd => by
      have := hc.lo s' hs fn body (.inr ⟨e2, rfl⟩) hb bd hbd
      rw [e1, e2, e3, e4] at this
      have e3' : s'.lv = depth := e3
      exact this) body _ 0 _ _ y a1 w B W0 V (fun j _ => by rw [Nat.zero_add]) hi hk
    refine wp_mono hwp fun e a' w' he => ?_
    have fin : Post X (finK s.ins s.outs c X.f fn) y a' w' → a'.defers = [] ∧ ∃ v, (results fn a'.tmps).run P w' = .ok v w' ∧ ∃ us B' O bs', Ending.returned v = .returned (wrapV us) ∧ Kept (fun b => w.heap.size ≤ b ∨ b ∈ bs.flatten) w w' ∧ (∀ b, B b → B' b) ∧ (∀ b, B' b → B b ∨ ((w.heap.size ≤ b ∨ b ∈ bs.flatten) ∧ b < w'.heap.size)) ∧
        (O ++ bs'.flatten).Nodup ∧ (∀ b ∈ O ++ bs'.flatten, (w.heap.size ≤ b ∨ b ∈ bs.flatten) ∧ b < w'.heap.size ∧ ¬ B' b) ∧ OutsRd w' B' s.outs us y.1 O ∧ PtrsRd w' B' s.ins vs bs bs' y.2 := fun ⟨st2, A2, W2, V2, g1, g2⟩ => by
      unfold finK at g1
      split at g1
      · rename_i avs hav
        split at g1
        · rename_i hdis
          split at g1
          · rename_i y1 hy1
            split at g1
            · rename_i y2 hy2
              have e : (y1, y2) = y := Option.some.inj g1
              subst e
              obtain ⟨us, u1, u2⟩ := resultAVs_ok hc.tab g2 hav
              have hr2 := g2.rep
              have hlive1 := ownIds_live s.outs avs us u1
              have hlive2 := mutOut_live hr2 s.ins 0
              have hlive : ∀ id ∈ ownIds s.outs avs ++ mutOut st2 s.ins 0, ∃ lw F, W2 id = some (lw, F) ∧ ∀ b, lw ≠ .box b := fun id h => (List.mem_append.1 h).elim (hlive1 id) (hlive2 id)
              have hdn := distinct_nodup hdis
              rw [List.nodup_append] at hdn
              have hbox : BoxesAt W2 s.ins 0 bs := BoxesAt.keep (fun j b e => g2.box j b [b] e) r6
              have hm2 : MutV0 V2 s.ins vs 0 := MutV0.congr s.ins vs 0 (fun i hi => g2.outer (0 + i) (by simp only [X, Nat.zero_add]; exact hi)) hm0
              obtain ⟨bs', hpt, hfl⟩ := packPtrs_ok hr2 _ s.ins 0 0 vs bs x y2 hbox hargs hm2 hy2
              have hkind := endIds_kind (st := st2) s.ins 0 0 bs hbox
              -- a row handed on is none of the others; a box is none
              have hall : ∀ id ∈ ownIds s.outs avs ++ endIds st2 s.ins 0 0, ∃ lw F, W2 id = some (lw, F) ∧ (id ∈ ownIds s.outs avs ++ mutOut st2 s.ins 0 ∨ ∃ b, lw = .box b) := fun id h => by
                rcases List.mem_append.1 h with h | h
                · obtain ⟨lw, F, e, _⟩ := hlive1 id h
                  exact ⟨lw, F, e, .inl (by simp [h])⟩
                · rcases hkind id h with h | ⟨_, b, h⟩
                  · obtain ⟨lw, F, e, _⟩ := hlive2 id h
                    exact ⟨lw, F, e, .inl (by simp [h])⟩
                  · exact ⟨_, _, h, .inr ⟨b, rfl⟩⟩
              have hnd : (ownIds s.outs avs ++ endIds st2 s.ins 0 0).Nodup := by
                rw [List.nodup_append]
                refine ⟨hdn.1, endIds_nodup hr2 s.ins 0 0 bs hbox hdn.2.1, fun i hi' j hj e => ?_⟩
                subst e
                rcases hkind i hj with h | ⟨_, b, h⟩
                · exact hdn.2.2 i hi' i h rfl
                · obtain ⟨lw, F, e, hb⟩ := hlive1 i hi'
                  rw [h] at e
                  simp only [Option.some.injEq, Prod.mk.injEq] at e
                  exact hb b e.1.symm
              have hfoot : (ownIds s.outs avs).flatMap (foot W2) ++ bs'.flatten = (ownIds s.outs avs ++ endIds st2 s.ins 0 0).flatMap (foot W2) := by rw [hfl, List.flatMap_append]
              refine ⟨g2.defers, _, run_results u2, us, Sharedly W2 A2 (ownIds s.outs avs ++ mutOut st2 s.ins 0), (ownIds s.outs avs).flatMap (foot W2), bs', rfl, g2.kept, fun b hb => .inl (g2.up b hb), fun b hb => ?_, ?_, fun b hb => ?_, packOuts_ok hr2 _ s.outs avs us y1 u1 hy1, hpt⟩
              · rcases hb with hb | ⟨id, lw, F, hnid, e1, e2, e3⟩
                · rcases g2.down b hb with h | h
                  · exact .inl h
                  · exact .inr ⟨h, hr2.ltA b hb⟩
                · obtain ⟨o1, o2, _⟩ := hr2.own id lw F e1 b e3
                  exact .inr ⟨o2, o1⟩
              · rw [hfoot]
                exact foot_nodup hr2 _ hnd (fun id h => by obtain ⟨lw, F, e, _⟩ := hall id h; exact ⟨lw, F, e⟩)
              · rw [hfoot] at hb
                obtain ⟨id, h1, h2⟩ := List.mem_flatMap.1 hb
                obtain ⟨lw, F, e1, e2⟩ := hall id h1
                simp only [foot, e1] at h2
                obtain ⟨o1, o2, o3⟩ := hr2.own id lw F e1 b h2
                refine ⟨o2, o1, fun h => ?_⟩
                rcases h with h | ⟨id', lw', F', h3, h4, h5, h6⟩
                · exact o3 h
                · refine hr2.apart id id' _ _ _ _ (fun e => ?_) e1 h4 b h2 h6
                  subst e
                  rcases e2 with e2 | ⟨b', e2⟩
                  · exact h3 e2
                  · rw [e1] at h4
                    simp only [Option.some.injEq, Prod.mk.injEq] at h4
                    exact h5 b' (h4.1.symm.trans e2)
            · cases g1
          · cases g1
        · cases g1
      · cases g1
    cases e with
    | normal => exact fin he
    | ret => exact fin he
    | exit i =>
      obtain ⟨_, _, _, _, g1, _⟩ := he
      cases g1
    | _ => exact he.elim

end
end Go.Proofs.Fw
