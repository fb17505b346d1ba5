/- Operations that read memory, or cut what is there. -/
import Derived.Test.YtjblmapbompclaaGreatFwIa
set_option linter.all false
namespace Go.Proofs.Fw
open Go

section
variable [GInv] {R : Type} {P : Program} {c : Cfg} {X : Ctx} {st : St} {a : Act} {w : World} {A : Nat → Prop} {W : Wit} {V : Nat → Value} {o : Oper} {k : St → Option R} {r : R} {Q : Exit → Act → World → Prop}
theorem run_loadAt {T : Nat} {ag : Bool} {t : Ty} (fa : TyFacts P T ag t) {b off : Nat} {vs : List Value} (hs : Seg w b off vs) (hl : vs.length = t.size) :
    (Instr.loadAt T (.pointer (some ⟨b, off, none⟩))).run P w = .ok (if ag = true then .agg vs.toArray else vs.getD 0 undef) w := by
  simp only [Instr.loadAt, Instr.sureAddr, Sem.run_bind, Sem.run_pure, Result.andThen_ok, loadVar, fa.agg, Sem.run_ite]
  cases ag with
  | true =>
    simp only [if_true, Sem.run_bind, fa.size, Result.andThen_ok]
    rw [← hl, run_loadCells_list w ⟨b, off, none⟩ vs (fun j v hv => by
      obtain ⟨h1, h2⟩ := List.getElem?_eq_some_iff.1 hv
      rw [add_mk, hs j h1, h2])]
    rfl
  | false =>
    have h1 := fa.one rfl
    simp only [Bool.false_eq_true, if_false]
    obtain ⟨v, rfl⟩ := List.length_eq_one_iff.1 (hl.trans h1)
    have := hs.head
    simp [this]
theorem elemAt_get (hc : chkAll P c.tab = true) {T : Nat} {t : Ty} (h : elemAt c T t = true) : ∃ e ie ze, P.underlying T = some (.slice e) ∧ elemId c T = e ∧ P.info? e = some ie ∧ ie.size = t.size ∧ ie.bytes ≤ 65536 ∧
    ie.zero = some ze ∧ zCells t ze = true ∧ t.size ≠ 0 := by
  unfold elemAt at h
  unfold elemId
  split at h
  · rename_i e u b ha
    have := of_decide_eq_true h
    subst this
    obtain ⟨i, z, ie, ze, _, hu, hie, _, _, _, _, h1, h2, h3, h4, h5⟩ := chk_slice (assoc_chk hc ha)
    exact ⟨e, ie, ze, hu, rfl, hie, h1, h2, h3, h4, h5⟩
  · cases h
theorem run_indexAt (hc : chkAll P c.tab = true) {T : Nat} {t : Ty} (h : elemAt c T t = true) {b off len cap : Nat} {j : IntKind} {i : Int} (h0 : 0 ≤ i) (h1 : i < (len : Int)) :
    (Instr.indexAt T (.slice (some ⟨b, off, none⟩) len cap) (.int j i)).run P w = .ok (.pointer (some ⟨b, off + i.toNat * t.size, none⟩)) w := by
  obtain ⟨e, ie, ze, hu, _, hie, hs, _⟩ := elemAt_get hc h
  simp [Instr.indexAt, asIntOf, run_underlying' hu, h0, h1, run_sizeOf' hie, hs, add_mk]
theorem getD_get {α : Type} {xs : List α} {n : Nat} {d : α} (h : n < xs.length) : xs.getD n d = xs[n] := by simp [List.getD_eq_getElem?_getD, List.getElem?_eq_getElem h]
theorem op_indexAddr (hc : chkAll P c.tab = true) {T : Nat} {x ix : Operand} (hd : ∀ d : Nat, o.dst = some d → d < X.f.n) (ho : o.op = .indexAddr T x ix) (hi : Inv X st a w A W V)
    (hk : (match opnd X.f st x, opnd X.f st ix with
    | .d (.sl t) xs, .d (.int _) i => bif elemAt c T t then idxK i xs.length fun n => k (st.put X.f o.dst (.dref t (xs.getD n t.dflt) 0)) else none
    | .row id, .d (.int _) i => match st.loc id with
      | some (.row t xs _) => bif elemAt c T t then idxK i xs.length fun n => k (st.put X.f o.dst (.eref id n 0)) else none
      | some (.opn t xs _ _) => bif elemAt c T t then idxK i xs.length fun n => k (st.put X.f o.dst (.eref id n 0)) else none
      | _ => none
    | _, _ => none) = some r) : o.wp P a w (Post X k r) Q := by
  have hx := hi.opnd x
  have hix := hi.opnd ix
  split at hk
  · rename_i t xs j i e1 e2
    rw [e1] at hx
    rw [e2] at hix
    obtain ⟨hl, hk⟩ := cond_some hk
    obtain ⟨h0, h1, hk⟩ := idxK_ok hk
    have hlt : i.toNat < xs.length := by omega
    obtain ⟨S, hS, hr⟩ := hx.dval
    simp only [Rd] at hr
    rcases hr with ⟨rfl, _⟩ | ⟨b, off, cap, S', rfl, e3, hcap, hrow⟩
    · simp at hlt
    · simp only [List.cons.injEq, and_true] at e3
      obtain ⟨S1, cs, s1, s2, s3, s4⟩ := hrow.get i.toNat hlt
      refine wp_value hd (v := .pointer (some ⟨b, off + i.toNat * t.size, none⟩)) ?_ hi ?_ hk
      · simp only [execOp, ho, e3, hix.int, Sem.run_bind, run_indexAt hc hl h0 h1, Result.andThen_ok, Sem.run_pure]
      · simp only [RepAV]
        exact ⟨b, off + i.toNat * t.size, S1, cs, hS b (by simp), fun c hc => hS c (by simp [s1 c hc]), rfl, s3, by rw [getD_get hlt]; exact s4⟩
  · rename_i id j i e1 e2
    rw [e1] at hx
    rw [e2] at hix
    split at hk
    · rename_i t xs dp hloc
      obtain ⟨hl, hk⟩ := cond_some hk
      obtain ⟨h0, h1, hk⟩ := idxK_ok hk
      have hlt : i.toNat < xs.length := by omega
      obtain ⟨lw, F, hW, hb, hv⟩ := hi.rep.row_live hx
      rcases hi.rep.locs id _ _ hW hloc with ⟨g1, g2⟩ | ⟨b, off, cap, S', g1, g2, g3⟩
      · subst g2; simp at hlt
      · rw [hW] at g1
        simp only [Option.some.injEq, Prod.mk.injEq] at g1
        obtain ⟨rfl, rfl⟩ := g1
        refine wp_value hd (v := .pointer (some ⟨b, off + i.toNat * t.size, none⟩)) ?_ hi ?_ hk
        · simp only [execOp, ho, hv, LW.val, hix.int, Sem.run_bind, run_indexAt hc hl h0 h1, Result.andThen_ok, Sem.run_pure]
        · simp only [RepAV]
          exact ⟨b, off, t.size, xs.length, cap, _, hW, hlt, by simp⟩
    · rename_i t xs i' cells hloc
      obtain ⟨hl, hk⟩ := cond_some hk
      obtain ⟨h0, h1, hk⟩ := idxK_ok hk
      have hlt : i.toNat < xs.length := by omega
      obtain ⟨lw, F, hW, hb, hv⟩ := hi.rep.row_live hx
      obtain ⟨b, off, cap, Sa, Sb, cs, g1, _⟩ := hi.rep.locs id _ _ hW hloc
      rw [hW] at g1
      simp only [Option.some.injEq, Prod.mk.injEq] at g1
      obtain ⟨rfl, rfl⟩ := g1
      refine wp_value hd (v := .pointer (some ⟨b, off + i.toNat * t.size, none⟩)) ?_ hi ?_ hk
      · simp only [execOp, ho, hv, LW.val, hix.int, Sem.run_bind, run_indexAt hc hl h0 h1, Result.andThen_ok, Sem.run_pure]
      · simp only [RepAV]
        exact ⟨b, off, t.size, xs.length, cap, _, hW, hlt, by simp⟩
    · cases hk
  · cases hk
theorem Seg.sub {b off : Nat} {vs : List Value} (h : Seg w b off vs) (n m : Nat) : Seg w b (off + n) ((vs.drop n).take m) := (h.drop n).take m
theorem share_ok (hi : Inv X st a w A W V) (id : Nat) : ∃ A' W', Inv X (St.shareRow st id) a w A' W' V ∧ (∀ b, A b → A' b) ∧ Ext W W' ∧
    (∀ t xs dp, st.loc id = some (.row t xs dp) → (∃ p, W id = some p) → t.flat = false → ∃ lw F, W' id = some (lw, F) ∧ (St.shareRow st id).loc id = some (.row t xs false)) := by
  unfold St.shareRow
  cases hl : st.loc id with
  | none => exact ⟨A, W, hi, fun _ h => h, Ext.refl W, fun t xs dp e => by cases e⟩
  | some l =>
    cases l with
    | box cs => exact ⟨A, W, hi, fun _ h => h, Ext.refl W, fun t xs dp e => by cases e⟩
    | mp _ _ _ => exact ⟨A, W, hi, fun _ h => h, Ext.refl W, fun t xs dp e => by cases e⟩
    | opn _ _ _ _ => exact ⟨A, W, hi, fun _ h => h, Ext.refl W, fun t xs dp e => by cases e⟩
    | row t xs dp =>
      cases dp with
      | false => exact ⟨A, W, hi, fun _ h => h, Ext.refl W, fun t' xs' dp' e ⟨p, hp⟩ _ => by
          simp only [Option.some.injEq, Loc.row.injEq] at e
          obtain ⟨rfl, h2, _⟩ := e
          have := eq_of_heq h2
          subst this
          exact ⟨p.1, p.2, hp, hl⟩⟩
      | true =>
        simp only
        cases hf : t.flat with
        | true => exact ⟨A, W, hi, fun _ h => h, Ext.refl W, fun t' xs' dp' e _ hf' => by
            simp only [Option.some.injEq, Loc.row.injEq] at e
            obtain ⟨rfl, _⟩ := e
            rw [hf] at hf'; cases hf'⟩
        | false =>
          simp only [cond]
          cases hW : W id with
          | none =>
            -- nobody's number: nothing is told of it
            refine ⟨A, W, ?_, fun _ h => h, Ext.refl W, fun _ _ _ _ ⟨p, hp⟩ => by cases hp⟩
            refine hi.turn ?_ (Nat.le_refl _) (Kept.refl _ _) (fun _ h => h) (fun _ h => .inl h) (fun _ _ _ h => h)
            refine ⟨hi.rep.ltA, hi.rep.nodup, hi.rep.own, hi.rep.apart, hi.rep.fresh, hi.rep.slots, fun j l p hp hl' => ?_, hi.rep.freshb⟩
            rw [loc_loc] at hl'
            by_cases e : id = j
            · subst e; rw [hW] at hp; cases hp
            · rw [if_neg e] at hl'; exact hi.rep.locs j l p hp hl'
          | some p =>
            obtain ⟨lw, F⟩ := p
            have hr := hi.rep
            rcases hr.locs id _ _ hW hl with ⟨g1, g2⟩ | ⟨b, off, cap, S', g1, g2, g3, g4, g5, g6⟩
            · rw [hW] at g1
              simp only [Option.some.injEq, Prod.mk.injEq] at g1
              obtain ⟨rfl, rfl⟩ := g1
              have := hr.set (w' := w) (l := .row t xs false) (F' := []) hW (Nat.le_refl _) (fun _ _ _ => rfl) (by simp) (by simp) (by simp) (.inl ⟨updW_same _ _ _, g2⟩)
              refine ⟨A, _, hi.turn this (Nat.le_refl _) (Kept.refl _ _) (fun _ h => h) (fun _ h => .inl h) (fun j b F e => ?_), fun _ h => h, ?_, ?_⟩
              · rw [updW_other (fun e' => by subst e'; rw [hW] at e; cases e)]; exact e
              · intro j lw' F' e
                by_cases e' : j = id
                · subst e'; rw [hW] at e; cases e; exact ⟨[], updW_same _ _ _⟩
                · exact ⟨F', by rw [updW_other e']; exact e⟩
              · intro t' xs' dp' e _ _
                simp only [Option.some.injEq, Loc.row.injEq] at e
                obtain ⟨rfl, h2, _⟩ := e
                have := eq_of_heq h2
                subst this
                exact ⟨_, _, updW_same _ _ _, by rw [loc_loc, if_pos rfl]⟩
            · rw [hW] at g1
              simp only [Option.some.injEq, Prod.mk.injEq] at g1
              obtain ⟨rfl, rfl⟩ := g1
              -- the blocks of the elements become shared
              let A' : Nat → Prop := fun c => A c ∨ c ∈ S'
              have nd := hr.nodup id _ _ hW
              simp only [if_true, List.nodup_cons] at nd
              have hA : ∀ c, A c → A' c := fun c h => .inl h
              have hown : ∀ c ∈ S', c < w.heap.size ∧ X.M c ∧ ¬ A c := fun c hc => hr.own id _ _ hW c (by simp [hc])
              have hb := hr.own id _ _ hW b (by simp)
              have hx : Ext W (updW W id (some (.row b off t.size xs.length cap, [b]))) := fun j lw F e => by
                by_cases e' : j = id
                · subst e'; rw [hW] at e; cases e; exact ⟨[b], updW_same _ _ _⟩
                · exact ⟨F, by rw [updW_other e']; exact e⟩
              have he : ∀ j lw F, updW W id (some (.row b off t.size xs.length cap, [b])) j = some (lw, F) → (j = id ∧ lw = .row b off t.size xs.length cap ∧ F = [b]) ∨ (j ≠ id ∧ W j = some (lw, F)) := fun j lw F e => by
                by_cases e' : j = id
                · subst e'; rw [updW_same] at e; cases e; exact .inl ⟨rfl, rfl, rfl⟩
                · rw [updW_other e'] at e; exact .inr ⟨e', e⟩
              have hrep : Rep (st.ev (.loc id (.row t xs false))) w X.M A' (updW W id (some (.row b off t.size xs.length cap, [b]))) V := by
                refine ⟨fun c hc => hc.elim (hr.ltA c) (fun h => (hown c h).1), ?_, ?_, ?_, ?_, fun k => RepAV.mono hA (fun _ _ => rfl) hx _ _ (hr.slots k), ?_, hr.freshb⟩
                · intro j lw F e
                  rcases he j lw F e with ⟨_, _, rfl⟩ | ⟨_, e⟩
                  · simp
                  · exact hr.nodup j lw F e
                · intro j lw F e c hc
                  rcases he j lw F e with ⟨_, _, rfl⟩ | ⟨hj, e⟩
                  · simp only [List.mem_singleton] at hc
                    subst hc
                    exact ⟨hb.1, hb.2.1, fun h => h.elim hb.2.2 (fun h => nd.1 h)⟩
                  · obtain ⟨q1, q2, q3⟩ := hr.own j lw F e c hc
                    exact ⟨q1, q2, fun h => h.elim q3 (fun h => hr.apart j id _ _ _ _ hj e hW c hc (by simp [h]))⟩
                · intro i j lwi Fi lwj Fj hij ei ej c hc hc'
                  rcases he i lwi Fi ei with ⟨rfl, _, rfl⟩ | ⟨hi', ei2⟩
                  · rcases he j lwj Fj ej with ⟨rfl, _, _⟩ | ⟨hj', ej2⟩
                    · exact hij rfl
                    · simp only [List.mem_singleton] at hc
                      subst hc
                      exact hr.apart _ _ _ _ _ _ hj' ej2 hW c hc' (by simp)
                  · rcases he j lwj Fj ej with ⟨rfl, _, rfl⟩ | ⟨hj', ej2⟩
                    · simp only [List.mem_singleton] at hc'
                      subst hc'
                      exact hr.apart _ _ _ _ _ _ hi' ei2 hW c hc (by simp)
                    · exact hr.apart i j _ _ _ _ hij ei2 ej2 c hc hc'
                · intro j hj
                  have := hr.fresh j hj
                  rw [updW_other (fun e => by subst e; rw [hW] at this; cases this)]
                  exact this
                · intro j l p hp hl'
                  rw [loc_loc] at hl'
                  by_cases e : id = j
                  · subst e
                    simp only [if_true, Option.some.injEq] at hl'
                    subst hl'
                    exact .inr ⟨b, off, cap, S', by rw [updW_same]; rfl, g2, g3, g4, g5.imp fun _ _ _ h => h.rd, fun _ c hc => .inr hc⟩
                  · rw [if_neg e] at hl'
                    rw [updW_other (Ne.symm e)] at hp
                    exact LocRep.mono hA (fun _ _ => rfl) hx hp (by rw [updW_other (Ne.symm e)]; exact hp) (fun _ _ => rfl) (hr.locs j l p hp hl')
              refine ⟨A', _, hi.turn hrep (Nat.le_refl _) (Kept.refl _ _) hA (fun c hc => hc.imp (fun h => h) (fun h => (hown c h).2.1)) (fun j b' F e => ?_), hA, hx, ?_⟩
              · rw [updW_other (fun e' => by subst e'; rw [hW] at e; cases e)]; exact e
              · intro t' xs' dp' e _ _
                simp only [Option.some.injEq, Loc.row.injEq] at e
                obtain ⟨rfl, h2, _⟩ := e
                have := eq_of_heq h2
                subst this
                exact ⟨_, _, updW_same _ _ _, by rw [loc_loc, if_pos rfl]⟩
theorem loadCells_ok (hi : Inv X st a w A W V) {n : Nat} {x : AV} {v : Value} {cs : List AV} (hx : RepAV A W w x v) (e : loadCells st n x = some cs) :
    ∃ b off vs, v = .pointer (some ⟨b, off, none⟩) ∧ Seg w b off vs ∧ vs.length = n ∧ RepL A W w cs vs := by
  have hr := hi.rep
  unfold loadCells at e
  split at e
  · rename_i id off
    split at e
    · rename_i bs hl
      simp only [RepAV] at hx
      obtain ⟨b, F, h1, h2⟩ := hx
      obtain ⟨b', vs, g1, g2, g3, g4⟩ := hr.locs id _ _ h1 hl
      rw [h1] at g1
      simp only [Option.some.injEq, Prod.mk.injEq, LW.box.injEq] at g1
      obtain ⟨rfl, rfl⟩ := g1
      obtain ⟨k1, k2⟩ := subN_rep g4 e
      exact ⟨b, off, _, h2, by have := g2.sub off n; simpa using this, k2, k1⟩
    · cases e
  · rename_i t y off
    simp only [RepAV] at hx
    obtain ⟨b, oo, S, us, h1, h2, h3, h4, h5⟩ := hx
    obtain ⟨k1, k2⟩ := subN_rep (unpack_rep t h5 h2) e
    exact ⟨b, oo + off, _, h3, h4.sub off n, k2, k1⟩
  · cases e
theorem flat_cells : ∀ {cs : List AV} {vs : List Value}, RepL (fun _ => True) W w cs vs → allFlat cs = true → RepL A W w cs vs
  | [], vs, h, _ => by simpa only [RepL] using h
  | c :: cs, vs, h, hf => by
    cases c with
    | d t x =>
      simp only [allFlat, Bool.and_eq_true] at hf
      simp only [RepL, RepAV] at h ⊢
      obtain ⟨v, r, h1, ⟨S, _, h2⟩, h3⟩ := h
      exact ⟨v, r, h1, ⟨[], by simp, by rw [← h2.flat t hf.1]; exact h2⟩, flat_cells h3 hf.2⟩
    | _ => simp [allFlat] at hf
theorem loadK_ok (hc : chkAll P c.tab = true) {T : Nat} {x : AV} {v : Value} {kk : AV → St → Option R} (hi : Inv X st a w A W V) (hx : RepAV A W w x v) {op : Bool} (e : loadK c op T x st kk = some r) :
    ∃ z u st' A' W', (Instr.loadAt T v).run P w = .ok z w ∧ Inv X st' a w A' W' V ∧ RepAV A' W' w u z ∧ kk u st' = some r := by
  unfold loadK at e
  split at e
  · cases e
  · rename_i ag t ht
    have fa := facts_of hc ht
    have plain : ∀ {st' : St} {A' : Nat → Prop} {W' : Wit} {cs : List AV}, Inv X st' a w A' W' V → RepAV A' W' w x v → loadCells st' t.size x = some cs → kk (mkAV ag cs) st' = some r →
        ∃ z u st' A' W', (Instr.loadAt T v).run P w = .ok z w ∧ Inv X st' a w A' W' V ∧ RepAV A' W' w u z ∧ kk u st' = some r := fun hi' hx' hl hk => by
      obtain ⟨b, off, vs, h1, h2, h3, h4⟩ := loadCells_ok hi' hx' hl
      refine ⟨_, _, _, _, _, by rw [h1]; exact run_loadAt fa h2 h3, hi', mkAV_rep h4 (fun e => by rw [h3]; exact fa.one e), hk⟩
    cases x with
    | eref id i off =>
      simp only at e
      split at e
      · rename_i t' xs dp hl
        split at e
        · rename_i cs hs
          simp only [RepAV] at hx
          obtain ⟨b, oo, kk', len, cap, F, h1, h2, h3⟩ := hx
          rcases hi.rep.locs id _ _ h1 hl with ⟨g1, _⟩ | ⟨b', off', cap', S', g1, g2, g3, g4, g5, g6⟩
          · rw [h1] at g1; cases g1
          · rw [h1] at g1
            simp only [Option.some.injEq, Prod.mk.injEq, LW.row.injEq] at g1
            obtain ⟨⟨rfl, rfl, rfl, rfl, rfl⟩, rfl⟩ := g1
            obtain ⟨S1, us, s1, s2, s3, s4⟩ := g5.get i h2
            rw [getD_get h2] at hs
            have fin : ∀ {st' : St} {A' : Nat → Prop} {W' : Wit}, Inv X st' a w A' W' V → RepL A' W' w cs ((us.drop off).take t.size) → ((us.drop off).take t.size).length = t.size → kk (mkAV ag cs) st' = some r →
                ∃ z u st' A' W', (Instr.loadAt T v).run P w = .ok z w ∧ Inv X st' a w A' W' V ∧ RepAV A' W' w u z ∧ kk u st' = some r := fun hi' hc' hl' hk =>
              ⟨_, _, _, _, _, by rw [h3]; exact run_loadAt fa (s3.sub off t.size) hl', hi', mkAV_rep hc' (fun e => by rw [hl']; exact fa.one e), hk⟩
            cases hb : (allFlat cs || !dp) with
            | true =>
              rw [hb] at e
              simp only [cond] at e
              cases dp with
              | false =>
                obtain ⟨k1, k2⟩ := subN_rep (A := A) (W := W) (unpack_rep t' s4 (fun c hc => g6 rfl c (s1 c hc))) hs
                exact fin hi k1 k2 e
              | true =>
                simp only [Bool.not_true, Bool.or_false] at hb
                obtain ⟨k1, k2⟩ := subN_rep (A := fun _ => True) (W := W) (unpack_rep t' s4.rd (fun _ _ => trivial)) hs
                exact fin hi (flat_cells k1 hb) k2 e
            | false =>
              rw [hb] at e
              simp only [cond] at e
              simp only [Bool.or_eq_false_iff, Bool.not_eq_false'] at hb
              obtain ⟨hb1, rfl⟩ := hb
              have hnf : t'.flat = false := by
                cases hf : t'.flat with
                | false => rfl
                | true =>
                  exfalso
                  have all : ∀ (t : Ty) (x : t.den), t.flat = true → allFlat (t.unpack x) = true := by
                    intro t
                    induction t with
                    | pair a b iha ihb =>
                      intro x hf
                      simp only [Ty.flat, Bool.and_eq_true] at hf
                      simp only [Ty.unpack]
                      have app : ∀ l l', allFlat l = true → allFlat l' = true → allFlat (l ++ l') = true := by
                        intro l
                        induction l with
                        | nil => intro l' _ h; exact h
                        | cons c l ih =>
                          intro l' h h'
                          cases c with
                          | d t x =>
                            simp only [allFlat, Bool.and_eq_true, List.cons_append] at h ⊢
                            exact ⟨h.1, ih l' h.2 h'⟩
                          | _ => simp [allFlat] at h
                      exact app _ _ (iha _ hf.1) (ihb _ hf.2)
                    | sl t => intro x hf; simp [Ty.flat] at hf
                    | _ => intro x _; simp [Ty.unpack, allFlat, Ty.flat]
                  have sub : ∀ (n : Nat) (l : List AV), allFlat l = true → allFlat (takeN n l) = true := by
                    intro n
                    induction n with
                    | zero => intro l _; rfl
                    | succ n ih =>
                      intro l h
                      cases l with
                      | nil => rfl
                      | cons c l =>
                        cases c with
                        | d t x => simp only [allFlat, Bool.and_eq_true, takeN] at h ⊢; exact ⟨h.1, ih l h.2⟩
                        | _ => simp [allFlat] at h
                  have drp : ∀ (n : Nat) (l : List AV), allFlat l = true → allFlat (dropN n l) = true := by
                    intro n
                    induction n with
                    | zero => intro l h; exact h
                    | succ n ih =>
                      intro l h
                      cases l with
                      | nil => rfl
                      | cons c l =>
                        cases c with
                        | d t x => simp only [allFlat, Bool.and_eq_true, dropN] at h ⊢; exact ih l h.2
                        | _ => simp [allFlat] at h
                  unfold subN at hs
                  obtain ⟨_, hs⟩ := cond_some hs
                  simp only [Option.some.injEq] at hs
                  rw [← hs, sub _ _ (drp _ _ (all t' _ hf))] at hb1
                  cases hb1
              cases op with
              | true =>
                simp only [openK] at e
                rcases hoc : t'.ownCells (xs.getD i t'.dflt) (st.ev (.loc id (.opn t' xs i (List.replicate t'.size .any)))) with ⟨cells, s1⟩
                rw [hoc] at e
                simp only at e
                rw [getD_get h2] at hoc
                obtain ⟨W2, us2, i2, q1, q2, q3, _⟩ := open_ok hi h1 hl h2 hoc
                split at e
                · rename_i cs2 hs2
                  obtain ⟨k1, k2⟩ := subN_rep q3 hs2
                  exact ⟨_, _, _, _, _, by rw [h3]; exact run_loadAt fa (q1.sub off t.size) k2, i2, mkAV_rep k1 (fun e => by rw [k2]; exact fa.one e), e⟩
                · cases e
              | false =>
              simp only at e
              obtain ⟨A', W', hi', hA, hx', hsh⟩ := share_ok hi id
              obtain ⟨lw, F', w1, w2⟩ := hsh t' xs true hl ⟨_, h1⟩ hnf
              rcases hi'.rep.locs id _ _ w1 w2 with ⟨g1, g2'⟩ | ⟨b2, off2, cap2, S2, p1, p2, p3, p4, p5, p6⟩
              · subst g2'; simp at h2
              · -- the same row, by its witness
                obtain ⟨F'', e''⟩ := hx' id _ _ h1
                rw [w1] at p1
                rw [w1] at e''
                simp only [Option.some.injEq, Prod.mk.injEq] at p1 e''
                obtain ⟨rfl, rfl⟩ := p1
                simp only [LW.row.injEq] at e''
                obtain ⟨⟨rfl, rfl, _, _, rfl⟩, _⟩ := e''
                obtain ⟨S3, us', q1, q2, q3, q4⟩ := p5.get i h2
                have hus : us' = us := by
                  apply List.ext_getElem (by rw [q2, s2])
                  intro n n1 n2
                  have a1 := q3 n n1
                  have a2 := s3 n n2
                  rw [a1] at a2
                  simpa using a2
                subst hus
                obtain ⟨k1, k2⟩ := subN_rep (A := A') (W := W') (unpack_rep t' q4 (fun c hc => p6 rfl c (q1 c hc))) hs
                exact fin hi' k1 k2 e
        · cases e
      · rename_i t' xs i' cells hl
        obtain ⟨hii, e9⟩ := cond_some e
        have hii := Nat.eq_of_beq_eq_true hii
        subst hii
        clear e
        have e := e9
        split at e
        · rename_i cs hs
          simp only [RepAV] at hx
          obtain ⟨b, oo, kk', len, cap, F, h1, h2, h3⟩ := hx
          obtain ⟨b', off', cap', Sa, Sb, us, g1, g2, g3, g4, g5, g6, g7, g8, g9, g10⟩ := hi.rep.locs id _ _ h1 hl
          rw [h1] at g1
          simp only [Option.some.injEq, Prod.mk.injEq, LW.row.injEq] at g1
          obtain ⟨⟨rfl, rfl, rfl, rfl, rfl⟩, rfl⟩ := g1
          obtain ⟨k1, k2⟩ := subN_rep g10 hs
          exact ⟨_, _, _, _, _, by rw [h3]; exact run_loadAt fa (g9.sub off t.size) k2, hi, mkAV_rep k1 (fun e => by rw [k2]; exact fa.one e), e⟩
        · cases e
      · cases e
    | _ =>
      simp only at e
      split at e
      · rename_i cs hl; exact plain hi hx hl e
      · cases e

end
end Go.Proofs.Fw
