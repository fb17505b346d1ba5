/- Handlers of calls. -/
import Derived.Test.YtjblmapbompclaaGreatFwZb
set_option linter.all false
namespace Go.Proofs.Fw
open Go

section
variable [GInv] {R : Type} {P : Program} {c : Cfg} {X : Ctx} {st : St} {a : Act} {w w' : World} {A A' : Nat → Prop} {W : Wit} {V : Nat → Value} {r : R} {M : Nat → Prop}
theorem capRows_live (hr : Rep st w M A W V) : ∀ (cs : List AV) (ws : List Value), RepL A W w cs ws → ∀ id ∈ capRows st cs, ∃ lw F, W id = some (lw, F) ∧ ∀ b, lw ≠ .box b
  | [], _, _, id, hid => by simp [capRows] at hid
  | v :: cs, ws, h, id, hid => by
    simp only [RepL] at h
    obtain ⟨u, us, rfl, h1, h2⟩ := h
    cases v with
    | ref j n =>
      simp only [capRows, List.mem_append] at hid
      rcases hid with hid | hid
      · split at hid
        · rename_i cells hl
          simp only [RepAV] at h1
          obtain ⟨b, F, e, _⟩ := h1
          obtain ⟨b', ws', k1, k2, k3, k4⟩ := hr.locs j _ _ e hl
          exact rowIds_live k4 id hid
        · cases hid
      · exact capRows_live hr cs us h2 id hid
    | _ =>
      simp only [capRows] at hid
      exact capRows_live hr cs us h2 id hid
theorem argIds_live (hr : Rep st w M A W V) : ∀ (ins : List PK) (avs : List AV) (vs : List Value), RepL A W w avs vs → ∀ id ∈ argIds st ins avs, ∃ lw F, W id = some (lw, F) ∧ ∀ b, lw ≠ .box b
  | [], _, vs, _, id, hid => by simp [argIds] at hid
  | _ :: _, [], vs, _, id, hid => by cases ‹PK› <;> simp [argIds] at hid
  | k :: r, v :: avs, vs, h, id, hid => by
    simp only [RepL] at h
    obtain ⟨u, us, rfl, h1, h2⟩ := h
    have hid : (id ∈ argIds st r avs) ∨ (id ∈ rowIds v.cells ∨ id ∈ boxIds st v ∨ id ∈ argIds st r avs) := by
      cases k <;> simp only [argIds, List.mem_append] at hid
      · exact .inr hid
      · exact .inr hid
      · exact .inr hid
      · exact .inl hid
      · exact .inl hid
    rcases hid with hid | hid
    · exact argIds_live hr r avs us h2 id hid
    rcases hid with hid | hid | hid
    · cases v with
      | agg cs =>
        simp only [RepAV] at h1
        obtain ⟨ws, _, h1⟩ := h1
        exact rowIds_live h1 id hid
      | row j =>
        simp only [AV.cells, rowIds, List.mem_singleton] at hid
        subst hid
        simp only [RepAV] at h1
        obtain ⟨lw, F, e, hb, _⟩ := h1
        exact ⟨lw, F, e, hb⟩
      | _ => simp [AV.cells, rowIds] at hid
    · cases v with
      | ref j n =>
        simp only [boxIds] at hid
        split at hid
        · rename_i cs hl
          simp only [RepAV] at h1
          obtain ⟨b, F, e, _⟩ := h1
          obtain ⟨b', ws, k1, k2, k3, k4⟩ := hr.locs j _ _ e hl
          exact rowIds_live k4 id hid
        · cases hid
      | fn g cs =>
        simp only [boxIds] at hid
        simp only [RepAV] at h1
        obtain ⟨ws, _, h1⟩ := h1
        exact capRows_live hr cs ws h1 id hid
      | _ => simp [boxIds] at hid
    · exact argIds_live hr r avs us h2 id hid
theorem allFree_spec {n : Lk} : ∀ {l : List Nat}, allFree n l = true → ∀ x ∈ l, n.has x = false
  | [], _ => by simp
  | y :: l, h => by
    simp only [allFree, Bool.and_eq_true] at h
    intro x hx
    rcases List.mem_cons.1 hx with rfl | hx
    · simpa using h.1
    · exact allFree_spec h.2 x hx
theorem OutsRd.flat {B B' : Nat → Prop} : ∀ (outs : List OutK) {us : List Value} {y : (outsTy outs).den} {O : List Nat}, anyShared outs = false → OutsRd w B outs us y O → OutsRd w B' outs us y O
  | [], _, _, _, _, h => h
  | o :: r, us, y, O, ha, ⟨u, us', S, O', h1, h2, h3⟩ => by
    simp only [anyShared, Bool.or_eq_false_iff] at ha
    refine ⟨u, us', S, O', h1, ?_, OutsRd.flat r ha.2 h3⟩
    cases ho : o.own with
    | true => rw [ho] at h2; simpa using h2
    | false =>
      rw [ho] at h2
      simp only [Bool.false_eq_true, if_false] at h2 ⊢
      obtain ⟨g1, g2, g3⟩ := h2
      have hf : o.t.flat = true := by have := ha.1; rw [ho] at this; simpa using this
      have hS : S = [] := by
        unfold ValRd at g1
        split at g1
        · obtain ⟨cs, _, g⟩ := g1
          exact g.flat _ hf
        · exact g1.flat _ hf
      exact ⟨g1, by rw [hS]; simp, g3⟩
theorem PtrsRd.rebase {B B' : Nat → Prop} : ∀ (ins : List PK) {vs : List Value} {bs bs' : List (List Nat)} {y : (ptrTy ins).den}, noPtr ins = true → PtrsRd w B ins vs bs bs' y → PtrsRd w B' ins vs bs bs' y
  | [], _, _, _, _, _, h => h
  | .val _ _ :: r, _, _, _, y, h, g => PtrsRd.rebase r (y := y) (by simpa only [noPtr] using h) g
  | .fn _ _ :: r, _, _, _, y, h, g => PtrsRd.rebase r (y := y) (by simpa only [noPtr] using h) g
  | .mut _ _ :: r, _, _, _, y, h, ⟨v, us, Ss, Ss', b1, b2, h1, h2, h3, h4, h5, h6⟩ => ⟨v, us, Ss, Ss', b1, b2, h1, h2, h3, h4, h5, PtrsRd.rebase r (by simpa only [noPtr] using h) h6⟩
  | .take _ _ :: r, _, _, _, y, h, ⟨Ss, b1, h1, h2, h3⟩ => ⟨Ss, b1, h1, h2, PtrsRd.rebase r (y := y) (by simpa only [noPtr] using h) h3⟩
  | .ptr _ :: _, _, _, _, _, h, _ => by simp [noPtr] at h
theorem disj_spec : ∀ {l k : List Nat}, disj l k = true → ∀ x ∈ l, x ∉ k
  | [], _, _, x, h => by cases h
  | y :: l, k, h, x, hx => by
    simp only [disj, Bool.and_eq_true] at h
    rcases List.mem_cons.1 hx with rfl | hx
    · have hn : ∀ {k : List Nat}, notMem x k = true → x ∉ k := fun {k} h => by
        induction k with
        | nil => simp
        | cons z k ih =>
          simp only [notMem, Bool.and_eq_true, Bool.not_eq_true'] at h
          simp only [List.mem_cons, not_or]
          exact ⟨fun e => by subst e; simp at h, ih h.2⟩
      exact hn h.1
    · exact disj_spec h.2 x hx
theorem noPtr_ids : ∀ (ins : List PK) (avs : List AV), noPtr ins = true → ptrIds ins avs = []
  | [], avs, _ => by cases avs <;> rfl
  | .val _ _ :: r, [], _ => rfl
  | .val _ _ :: r, _ :: avs, h => noPtr_ids r avs (by simpa only [noPtr] using h)
  | .fn _ _ :: r, [], _ => rfl
  | .fn _ _ :: r, _ :: avs, h => noPtr_ids r avs (by simpa only [noPtr] using h)
  | .mut _ _ :: r, [], _ => rfl
  | .mut _ _ :: r, _ :: avs, h => noPtr_ids r avs (by simpa only [noPtr] using h)
  | .take _ _ :: r, [], _ => rfl
  | .take _ _ :: r, _ :: avs, h => noPtr_ids r avs (by simpa only [noPtr] using h)
  | .ptr _ :: _, _, h => by simp [noPtr] at h
theorem capIds_live : ∀ (cs : List AV) (ws : List Value), RepL A W w cs ws → ∀ id ∈ capIds cs, ∃ b, W id = some (.box b, [b]) ∨ ∃ F, W id = some (.box b, F)
  | [], _, _, id, hid => by simp [capIds] at hid
  | v :: cs, ws, h, id, hid => by
    simp only [RepL] at h
    obtain ⟨u, us, rfl, h1, h2⟩ := h
    cases v with
    | ref j n =>
      simp only [capIds, List.mem_cons] at hid
      rcases hid with rfl | hid
      · simp only [RepAV] at h1
        obtain ⟨b, F, e, _⟩ := h1
        exact ⟨b, .inr ⟨F, e⟩⟩
      · exact capIds_live cs us h2 id hid
    | _ => exact capIds_live cs us h2 id (by simpa only [capIds] using hid)
theorem argCaps_live' : ∀ (avs : List AV) (vs : List Value), RepL A W w avs vs → ∀ id ∈ argCaps avs, ∃ b F, W id = some (.box b, F)
  | [], _, _, id, hid => by simp [argCaps] at hid
  | v :: avs, vs, h, id, hid => by
    simp only [RepL] at h
    obtain ⟨u, us, rfl, h1, h2⟩ := h
    cases v with
    | fn g cs =>
      simp only [argCaps, List.mem_append] at hid
      rcases hid with hid | hid
      · simp only [RepAV] at h1
        obtain ⟨ws, _, h1⟩ := h1
        obtain ⟨b, h | ⟨F, h⟩⟩ := capIds_live cs ws h1 id hid
        · exact ⟨b, _, h⟩
        · exact ⟨b, F, h⟩
      · exact argCaps_live' avs us h2 id hid
    | _ => exact argCaps_live' avs us h2 id (by simpa only [argCaps] using hid)
theorem contract_ok {g : Nat} {s : Sig} (hok : Ok P g s) (hi : Inv X st a w A W V) {avs : List AV} {vs : List Value} (hr : RepL A W w avs vs) {k : AV → St → Option R} (hk : contract s avs st k = some r) :
    Callable P g ∧ Calls P g vs.toArray w (fun e w' => ∃ st' A' W' V' av v, e = .returned v ∧ Inv X st' a w' A' W' V' ∧ RepAV A' W' w' av v ∧ k av st' = some r) := by
  refine ⟨hok.1, ?_⟩
  unfold contract at hk
  split at hk
  · cases hk
  · rename_i x hpk
    obtain ⟨hcond, hk⟩ := cond_some hk
    simp only [Bool.and_eq_true] at hcond
    obtain ⟨⟨⟨⟨hdis, hge⟩, hcap⟩, hmd⟩, hmj⟩ := hcond
    have hmj := disj_spec hmj
    obtain ⟨bs, hargs, hptr⟩ := packArgs_ok hi.rep s.ins avs vs x hr hpk
    have hlive := argIds_live hi.rep s.ins avs vs hr
    have nd := PtrOf.nodup (hr := hi.rep) s.ins avs vs bs hptr (distinct_nodup hdis) (distinct_nodup hmd)
    cases hfz : (anyShared s.outs || !noPtr s.ins) with
    | true =>
      rw [hfz] at hk
      simp only [cond] at hk
      obtain ⟨y, hF, hk⟩ := obind_some hk
      rcases e : outAVs s.outs y.1 (putPtrs s.ins avs y.2 ((st.freezeAll (argIds st s.ins avs)).killAll (takeIds s.ins avs))) with ⟨os, st2⟩
      rw [e] at hk
      obtain ⟨A1, W1, i1, a1, f1, o1⟩ := freezeAll_turn hi (argIds st s.ins avs)
      have hbox : ∀ j b, W j = some (.box b, [b]) → W1 j = some (.box b, [b]) := fun j b e => by
        rw [o1 j (fun hj => by obtain ⟨lw, F, e', hb⟩ := hlive j hj; rw [e'] at e; cases e; exact hb b rfl)]; exact e
      have hptr1 := PtrOf.ext hbox s.ins avs vs bs (fun id h => o1 id (hmj id h)) hptr
      have hargs1 : ArgsRd w A1 s.ins vs x bs := ArgsRd.mono (fun b hb => by
        rcases hb with (hb | ⟨id, hid, hfo, lw, F, t, xs, dp, e1, e2, e3⟩) | ⟨id, hid, _⟩
        · exact a1 b hb
        · exact f1 id hid lw F t xs dp e1 e2 e3 b (by simpa [foot, e1] using hfo)
        · rw [hfz] at hcap
          simp at hcap
          rw [hcap] at hid; cases hid) s.ins hargs
      have hbs : ∀ b ∈ bs.flatten, b < w.heap.size ∧ ¬ A1 b := fun b hb => by
        rcases PtrOf.mem s.ins avs vs bs hptr1 b hb with ⟨id, _, e⟩ | ⟨id, _, lw, F, e, _, hF⟩
        · obtain ⟨o1, _, o3⟩ := i1.rep.own id _ _ e b (by simp)
          exact ⟨o1, o3⟩
        · obtain ⟨o1, _, o3⟩ := i1.rep.own id _ _ e b hF
          exact ⟨o1, o3⟩
      refine (hok.2 w vs x y bs A1 i1.glob.1 (fun b hb => (i1.glob.2 b hb).1) hargs1 i1.rep.ltA nd hbs hF).mono fun e' w' ⟨us, B', O, bs', he, hkept, hB1, hB2, hOn, hO, hout, hpt⟩ => ?_
      obtain ⟨W', g1, g2⟩ := after_call i1 hptr1 (distinct_nodup hdis) (distinct_nodup hmd) (fun id hid => by rw [freezeAll_kb]; exact allFree_spec hge id hid) hkept hB1 hB2 hOn hO hout hpt e
      exact ⟨st2, B', W', V, _, _, he, g1, wrap_rep g2, hk⟩
    | false =>
      rw [hfz] at hk
      simp only [cond] at hk
      simp only [Bool.or_eq_false_iff, Bool.not_eq_false'] at hfz
      obtain ⟨hsh, hnp⟩ := hfz
      obtain ⟨y, hF, hk⟩ := obind_some hk
      rcases e : outAVs s.outs y.1 (putPtrs s.ins avs y.2 (st.killAll (takeIds s.ins avs))) with ⟨os, st2⟩
      rw [e] at hk
      have hbs : ∀ b ∈ bs.flatten, b < w.heap.size ∧ ¬ feetC st W A (argIds st s.ins avs) (argCaps avs) b := fun b hb => by
        have key : ∀ id lw F, W id = some (lw, F) → b ∈ F → (∀ j, j ∈ argIds st s.ins avs → j ≠ id) → (∀ j ∈ argCaps avs, j ≠ id) → b < w.heap.size ∧ ¬ feetC st W A (argIds st s.ins avs) (argCaps avs) b := fun id lw F e hF h1 h2 => by
          obtain ⟨q1, _, q3⟩ := hi.rep.own id _ _ e b hF
          refine ⟨q1, fun h => ?_⟩
          rcases h with (h | ⟨j, hj, hfo, lw', F', t, xs, dp, e1, _, _⟩) | ⟨j, hj, e1⟩
          · exact q3 h
          · simp only [foot, e1] at hfo
            exact hi.rep.apart j id _ _ _ _ (h1 j hj) e1 e b hfo hF
          · exact hi.rep.apart j id _ _ _ _ (h2 j hj) e1 e b (by simp) hF
        rcases PtrOf.mem s.ins avs vs bs hptr b hb with ⟨id, hid, e⟩ | ⟨id, hid, lw, F, e, hl, hF⟩
        · exact absurd hid (by rw [noPtr_ids s.ins avs hnp]; simp)
        · exact key id lw F e hF (fun j hj e' => hmj id hid (by rw [← e']; exact hj)) (fun j hj e' => by
            obtain ⟨b', F', e2⟩ := argCaps_live' avs vs hr j hj
            rw [e', e] at e2
            simp only [Option.some.injEq, Prod.mk.injEq] at e2
            exact hl b' e2.1)
      refine (hok.2 w vs x y bs _ hi.glob.1 (fun b hb => .inl (.inl (hi.glob.2 b hb).1)) hargs (fun b hb => ?_) nd hbs hF).mono fun e' w' ⟨us, B', O, bs', he, hkept, hB1, hB2, hOn, hO, hout, hpt⟩ => ?_
      · rcases hb with (hb | ⟨id, hid, hfo, lw, F, t, xs, dp, e1, e2, e3⟩) | ⟨id, hid, e1⟩
        · exact hi.rep.ltA b hb
        · simp only [foot, e1] at hfo
          exact (hi.rep.own id lw F e1 b hfo).1
        · exact (hi.rep.own id _ _ e1 b (by simp)).1
      · obtain ⟨W', g1, g2⟩ := after_call (A' := A) hi hptr (distinct_nodup hdis) (distinct_nodup hmd) (fun id hid => allFree_spec hge id hid) hkept (fun _ h => h) (fun _ h => .inl h) hOn (fun b hb => ⟨(hO b hb).1, (hO b hb).2.1, fun h => (hO b hb).1.elim (fun g => by have := hi.rep.ltA b h; omega) (fun g => (hbs b g).2 (.inl (.inl h)))⟩)
          (hout.flat s.outs hsh) (PtrsRd.rebase s.ins hnp hpt) e
        exact ⟨st2, A, W', V, _, _, he, g1, wrap_rep g2, hk⟩
theorem findSig_mem {g : Nat} {vs : List AV} {s : Sig} : ∀ {l : List (Nat × Sig)}, findSig g vs l = some s → (g, s) ∈ l
  | [], h => by simp [findSig] at h
  | (j, t) :: r, h => by
    simp only [findSig] at h
    cases e : (Nat.beq j g && fitIns t.ins vs) with
    | false => rw [e] at h; exact List.mem_cons_of_mem _ (findSig_mem (by simpa using h))
    | true =>
      rw [e] at h
      simp only [Bool.and_eq_true] at e
      have := Nat.eq_of_beq_eq_true e.1
      simp at h
      rw [← h, this]; simp
structure CfgOK (P : Program) (c : Cfg) (g0 : Nat) (fn0 : Func) : Prop where
  tab : chkAll P c.tab = true
  eqs : eqFacts P c.tab c.eqs = true
  mix : P.follows .mixedOrders = true
  sig : ∀ g s, (g, s) ∈ c.sig → Ok P g s
  inl : ∀ g fn, assoc g c.inl = some fn → P.funcs[g]? = some fn ∧ Callable P g
  lo : ∀ s ∈ c.lo, ∀ fn whole, (assoc s.g c.inl = some fn ∨ (s.g = g0 ∧ fn = fn0)) → fn.body = some whole → ∀ body, loopAt whole s.li = some body → LoopEq c (handler c s.lv) ⟨s.b, fn.ntmps, s.g, s.lv, s.l0⟩ body s
theorem handler_ok {g0 : Nat} {fn0 : Func} (hc : CfgOK P c g0 fn0) : ∀ n : Nat, HOK P (handler c n)
  | 0 => fun R X st a w A W V g avs vs k r hi hr hk => by
    unfold handler at hk
    split at hk
    · rename_i s hs; exact contract_ok (hc.sig g s (findSig_mem hs)) hi hr hk
    · cases hk
  | n + 1 => fun R X st a w A W V g avs vs k r hi hr hk => by
    unfold handler at hk
    split at hk
    · rename_i s hs; exact contract_ok (hc.sig g s (findSig_mem hs)) hi hr hk
    · split at hk
      · rename_i fn hfn
        obtain ⟨h1, h2⟩ := hc.inl g fn hfn
        refine ⟨h2, inline_ok hc.tab hc.eqs (handler_ok hc n) hc.mix h1 (fun whole hb s hs e1 e2 body hbd => ?_) hi hr hk⟩
        have := hc.lo s hs fn whole (.inl (by rw [e1]; exact hfn)) hb body hbd
        rw [e2] at this ⊢
        exact this
      · cases hk

end
end Go.Proofs.Fw
