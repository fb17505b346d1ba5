/- Calls of built-in functions. -/
import Derived.Test.YtjblmapbompclaaGreatFwQ
set_option linter.all false
namespace Go.Proofs.Fw
open Go

section
variable [GInv] {R : Type} {P : Program} {c : Cfg} {X : Ctx} {st : St} {a : Act} {w : World} {A : Nat → Prop} {W : Wit} {V : Nat → Value} {o : Oper} {k : St → Option R} {r : R} {Q : Exit → Act → World → Prop}
theorem arr1 {α β : Type} {f : α → β} {l : Array α} {u : β} (h : l.toList.map f = [u]) : ∃ x, l = #[x] ∧ f x = u := by
  obtain ⟨l⟩ := l
  cases l with
  | nil => simp at h
  | cons x l =>
    cases l with
    | nil => exact ⟨x, rfl, by simpa using h⟩
    | cons _ _ => simp at h
theorem arr2 {α β : Type} {f : α → β} {l : Array α} {u v : β} (h : l.toList.map f = [u, v]) : ∃ x y, l = #[x, y] ∧ f x = u ∧ f y = v := by
  obtain ⟨l⟩ := l
  cases l with
  | nil => simp at h
  | cons x l =>
    cases l with
    | nil => simp at h
    | cons y l =>
      cases l with
      | nil => exact ⟨x, y, rfl, by simpa using h⟩
      | cons _ _ => simp at h
theorem loc_killAll {j : Nat} {t : Ty} {xs : List t.den} {dp : Bool} : ∀ (ids : List Nat) {st : St}, st.loc j = some (.row t xs dp) → (st.killAll ids).loc j = some (.row t xs dp)
  | [], _, h => h
  | id :: ids, st, h => loc_killAll ids (st := st.ev (.kill id)) (by rw [loc_kill, h]; rfl)
theorem loc_freezeAll {j : Nat} {t : Ty} {xs : List t.den} {dp : Bool} : ∀ (ids : List Nat) {st : St}, j ∉ ids → st.loc j = some (.row t xs dp) → (st.freezeAll ids).loc j = some (.row t xs dp)
  | [], _, _, h => h
  | id :: ids, st, hj, h => loc_freezeAll ids (st := st.freeze1 id) (fun h => hj (by simp [h])) (loc_freeze1 st id j (fun e => hj (by simp [e])) h)
theorem call_builtin {cl : Call} {b : Go.Builtin} (ho : o.op = .call cl) (hb : cl.callee = .builtin b) :
    ∃ cs, (execOp a.eval o).run P w = (builtin b cl.argTypes o.type cs (cl.args.map a.eval)).run P w := by
  simp only [execOp, ho, Go.resolve, hb, Sem.run_bind, Sem.run_pure, Result.andThen_ok, invoke]
  exact ⟨_, rfl⟩
theorem srcOf_ok (hi : Inv X st a w A W V) {t : Ty} {ys : List t.den} {b : AV} {x : Value} (hb : RepAV A W w b x) (e : srcOf st t b = some ys) :
    ∃ S, ERd false w (.sl t) ys S [x] ∧ (∀ b' ∈ S, A b' ∨ ∃ id ∈ rowIds [b], b' ∈ foot W id ∧ ∃ lw F t xs dp, W id = some (lw, F) ∧ (∀ b, lw ≠ .box b) ∧ st.loc id = some (.row t xs dp)) ∧
      (deepOK st [b] = true → ERd true w (.sl t) ys ((rowIds [b]).flatMap (foot W)) [x]) := by
  obtain ⟨Ss, d1, d2, d3⟩ := dataL_rep hi.rep [b] [x] (by simp only [RepL]; exact ⟨x, [], rfl, hb, rfl⟩)
  exact ⟨Ss.flatten, packAll_rep d1 e, d2, fun hd => own_packAll hi.rep (by simp only [RepL]; exact ⟨x, [], rfl, hb, rfl⟩) hd e⟩
theorem appendAll_ok (hi : Inv X st a w A W V) {id : Nat} {t : Ty} {b : AV} {x : Value} {lw : LW} {F : List Nat} (hW : W id = some (lw, F)) (hnb : ∀ b, lw ≠ .box b) (hb : RepAV A W w b x)
    {tx T ty e e' : TypeId} {ie : TypeInfo} {ze : Value} (hu : P.underlying T = some (.slice e)) (hie : P.info? e = some ie) (hsz : ie.size = t.size) (hby : ie.bytes ≤ 65536) (hze : ie.zero = some ze) (hzsz : ze.cells.size = t.size)
    (htx : P.underlying tx = some (.slice e')) {dst : Option Nat} (hk : appendAll t id b X.f dst st k = some r) :
    ∃ v w' st' A' W', (Builtin.append_ #[T, tx] ty #[lw.val, x]).run P w = .ok v w' ∧ Inv X st' a w' A' W' V ∧ RepAV A' W' w' (.row id) v ∧ k (st'.put X.f dst (.row id)) = some r := by
  unfold appendAll at hk
  split at hk
  · rename_i t' xs0 dp hloc
    split at hk
    · cases hk
    · rename_i xs hcast
      obtain ⟨e1, _⟩ := castTy_eq hcast
      injection e1 with e1
      subst e1
      have := castTy_self hcast
      subst this
      split at hk
      · cases hk
      · rename_i ys hsrc
        obtain ⟨S, hrd, hfoot, hdeep⟩ := srcOf_ok hi hb hsrc
        split at hk
        · -- flat
          rename_i hf
          unfold appendRow at hk
          obtain ⟨hg, hk⟩ := cond_some hk
          obtain ⟨S2, news, hs, h2, hnd, hfl, hmv⟩ := src_of_rd hrd htx
          have e2 := hfl hf
          subst e2
          obtain ⟨v, w', W', h3, h4, h5⟩ := append_core (ty := ty) hi hW hnb hloc (.inr hf) hu hie hsz hby hze hzsz hs hfl (fun w' b' off' q1 q2 => (hmv w' b' off' q1 q2).imp fun _ _ _ h => ERd.of_flat _ hf h.rd) (by simpa using Free.nil) (fun _ c hc => by cases hc) (Nat.le_of_ble_eq_true hg)
          exact ⟨v, w', _, A, W', h3, h4, h5, hk⟩
        · rename_i hf
          split at hk
          · -- moved
            rename_i hc
            simp only [Bool.and_eq_true] at hc
            obtain ⟨⟨hdp, hdO⟩, hdist⟩ := hc
            subst hdp
            unfold appendRow at hk
            obtain ⟨hg, hk⟩ := cond_some hk
            have nd := distinct_nodup hdist
            rw [List.nodup_cons] at nd
            have hlive := rowIds_live (A := A) (W := W) (w := w) (cs := [b]) (vs := [x]) (by simp only [RepL]; exact ⟨x, [], rfl, hb, rfl⟩)
            obtain ⟨W1, i1, f1, o1, z1⟩ := kill_free hi Free.nil hlive nd.2
            rw [List.nil_append] at f1
            obtain ⟨S2, news, hs, h2, hnd, hfl, hmv⟩ := src_of_rd (hdeep hdO) htx
            have hW1 : W1 id = some (lw, F) := by rw [o1 id nd.1]; exact hW
            obtain ⟨v, w', W', h3, h4, h5⟩ := append_core (ty := ty) (dn := true) i1 hW1 hnb (loc_killAll _ hloc) (.inl rfl) hu hie hsz hby hze hzsz hs hfl hmv
              (by simp only [if_true]; exact ⟨hnd f1.nodup, fun c hc => f1.own c (h2 c hc), fun j lwj Fj ej c hc => f1.apart j lwj Fj ej c (h2 c hc)⟩) (fun e => by cases e) (Nat.le_of_ble_eq_true hg)
            exact ⟨v, w', _, A, W', h3, h4, h5, hk⟩
          · -- shared
            obtain ⟨hm, hk⟩ := cond_some hk
            unfold appendRow at hk
            obtain ⟨hg, hk⟩ := cond_some hk
            have hm := notMem_spec hm
            obtain ⟨A1, W1, i1, a1, f1, o1⟩ := freezeAll_turn hi (rowIds [b])
            have hW1 : W1 id = some (lw, F) := by rw [o1 id hm]; exact hW
            have hloc1 := loc_freezeAll _ hm hloc
            obtain ⟨A2, W2, i2, a2, x2, c2⟩ := share_ok i1 id
            obtain ⟨F2, hW2⟩ := x2 id lw F hW1
            obtain ⟨_, _, _, hloc2⟩ := c2 _ _ _ hloc1 ⟨_, hW1⟩ hf
            obtain ⟨S2, news, hs, h2, hnd, hfl, hmv⟩ := src_of_rd hrd htx
            have hSA : ∀ c ∈ S, A1 c := fun c hc => by
              rcases hfoot c hc with h | ⟨id', hid', hfo, lw', F', t', xs', dp', e1, e2, e3⟩
              · exact a1 c h
              · exact f1 id' hid' lw' F' t' xs' dp' e1 e2 e3 c (by simpa [foot, e1] using hfo)
            obtain ⟨v, w', W', h3, h4, h5⟩ := append_core (ty := ty) (dn := false) i2 hW2 hnb hloc2 (.inl rfl) hu hie hsz hby hze hzsz hs hfl hmv (by simpa using Free.nil) (fun _ c hc => a2 c (hSA c (h2 c hc))) (Nat.le_of_ble_eq_true hg)
            exact ⟨v, w', _, A2, W', h3, h4, h5, hk⟩
  · cases hk
theorem op_append (hc : chkAll P c.tab = true) {cl : Call} (hd : ∀ d : Nat, o.dst = some d → d < X.f.n) (ho : o.op = .call cl) (hcb : cl.callee = .builtin .append) (hi : Inv X st a w A W V)
    (hk : (match cl.argTypes.toList, cl.args.toList.map (opnd X.f st) with
    | [T, T2], [a, b] => match assoc T c.tab with
      | some (.slice _ t _) => bif elemAt c T2 t then match a with
        | .row id => appendAll t id b X.f o.dst st k
        | .nils => appendAll t st.nl b X.f o.dst (st.newLoc (.row t [] true)) k
        | _ => none
        else none
      | _ => none
    | _, _ => none) = some r) : o.wp P a w (Post X k r) Q := by
  split at hk
  · rename_i T T2 x y hT hxy
    obtain ⟨p, q, hpq, rfl, rfl⟩ := arr2 hxy
    have hTa : cl.argTypes = #[T, T2] := by
      rcases hcl : cl.argTypes with ⟨l⟩
      rw [hcl] at hT; simp only at hT; rw [hT]
    have hx := hi.opnd p
    have hy := hi.opnd q
    split at hk
    · rename_i e t by_ hass
      obtain ⟨hel, hk⟩ := cond_some hk
      obtain ⟨_, _, ie, ze, _, hu, hie, _, _, _, _, hsz, hby, hze, hzc, hpos⟩ := chk_slice (assoc_chk hc hass)
      have hzsz : ze.cells.size = t.size := by simpa using (zCells_rd hzc w).length
      obtain ⟨e', _, _, htx, _⟩ := elemAt_get hc hel
      have fin : ∀ {v : Value} {w' : World} {st' : St} {A' : Nat → Prop} {W' : Wit} {id : Nat}, (Builtin.append_ #[T, T2] o.type #[a.eval p, a.eval q]).run P w = .ok v w' → Inv X st' a w' A' W' V → RepAV A' W' w' (.row id) v →
          k (st'.put X.f o.dst (.row id)) = some r → o.wp P a w (Post X k r) Q := fun run h1 h2 h3 => by
        refine wp_value hd ?_ h1 h2 h3
        obtain ⟨cs, e0⟩ := call_builtin (P := P) (a := a) (w := w) ho hcb
        rw [e0]
        simp [builtin, hTa, hpq, run]
      split at hk
      · rename_i id hpe
        rw [hpe] at hx
        obtain ⟨lw, F, hW, hnb, hv⟩ := hi.rep.row_live hx
        obtain ⟨v, w', st', A', W', h1, h2, h3, h4⟩ := appendAll_ok (ty := o.type) hi hW hnb hy hu hie hsz hby hze hzsz htx hk
        rw [← hv] at h1
        exact fin h1 h2 h3 h4
      · rename_i hpe
        rw [hpe] at hx
        simp only [RepAV] at hx
        obtain ⟨i1, _⟩ := hi.newNil t
        have hy' := RepAV.ext (ext_newLoc (p := (.nil, [])) hi.rep) hy
        obtain ⟨v, w', st', A', W', h1, h2, h3, h4⟩ := appendAll_ok (ty := o.type) i1 (updW_same _ _ _) (fun b e => by cases e) hy' hu hie hsz hby hze hzsz htx hk
        have : LW.nil.val = a.eval p := hx.symm
        rw [this] at h1
        exact fin h1 h2 h3 h4
      · cases hk
    · cases hk
  · cases hk
theorem lenK_ok (hc : chkAll P c.tab = true) (hi : Inv X st a w A W V) {T ty : Nat} {x : AV} {v : Value} (hx : RepAV A W w x v) {kk : AV → Option R} (e : lenK c T x st kk = some r) :
    ∃ n : Int, (∀ w', (Builtin.len_ #[T] ty #[v]).run P w' = .ok (.int .i64 n) w') ∧ kk (.d i64 n) = some r := by
  unfold lenK at e
  split at e
  · rename_i s
    obtain ⟨h1, e⟩ := cond_some e
    have hu := leaf_str hc h1
    refine ⟨_, fun w' => ?_, e⟩
    rw [hx.str]
    have : (ByteArray.mk s.toArray).size = s.length := by simp [ByteArray.size]
    simp only [Builtin.len_, List.getElem?_toArray, List.getElem?_cons_zero, Sem.run_bind, run_underlying' hu, Result.andThen_ok, Sem.run_pure, goInt, this]
  · rename_i t xs
    obtain ⟨h1, e⟩ := cond_some e
    obtain ⟨el, hu⟩ := isSl_get hc h1
    refine ⟨_, fun w' => ?_, e⟩
    obtain ⟨S, _, hr⟩ := hx.dval
    simp only [Rd] at hr
    rcases hr with ⟨rfl, _, ad, e1⟩ | ⟨b, off, cap, S', _, e1, _⟩ <;> simp only [List.cons.injEq, and_true] at e1 <;> subst e1 <;> simp [Builtin.len_, run_underlying' hu, goInt]
  · obtain ⟨h1, e⟩ := cond_some e
    obtain ⟨el, hu⟩ := isSl_get hc h1
    simp only [RepAV] at hx
    subst hx
    exact ⟨_, fun w' => by simp [Builtin.len_, run_underlying' hu, goInt], e⟩
  · rename_i id
    obtain ⟨h1, e⟩ := cond_some e
    obtain ⟨el, hu⟩ := isSl_get hc h1
    split at e
    · rename_i t xs dp hloc
      obtain ⟨lw, F, hW, hnb, hv⟩ := hi.rep.row_live hx
      refine ⟨_, fun w' => ?_, e⟩
      subst hv
      rcases hi.rep.locs id _ _ hW hloc with ⟨g1, rfl⟩ | ⟨b, off, cap, S', g1, _⟩ <;> rw [hW] at g1 <;> simp only [Option.some.injEq, Prod.mk.injEq] at g1 <;> obtain ⟨rfl, _⟩ := g1 <;> simp [LW.val, Builtin.len_, run_underlying' hu, goInt]
    · cases e
  · cases e
theorem op_len (hc : chkAll P c.tab = true) {cl : Call} (hd : ∀ d : Nat, o.dst = some d → d < X.f.n) (ho : o.op = .call cl) (hcb : cl.callee = .builtin .len) (hi : Inv X st a w A W V)
    (hk : (match cl.argTypes.toList, cl.args.toList.map (opnd X.f st) with
    | [T], [a] => lenK c T a st fun v => k (st.put X.f o.dst v)
    | _, _ => none) = some r) : o.wp P a w (Post X k r) Q := by
  split at hk
  · rename_i T x hT hx
    obtain ⟨p, hp, rfl⟩ := arr1 hx
    have hTa : cl.argTypes = #[T] := by
      rcases hcl : cl.argTypes with ⟨l⟩
      rw [hcl] at hT; simp only at hT; rw [hT]
    obtain ⟨n, h1, h2⟩ := lenK_ok (ty := o.type) hc hi (hi.opnd p) hk
    refine wp_value hd (v := .int .i64 n) ?_ hi (RepAV.mkInt _ _) h2
    obtain ⟨cs, e0⟩ := call_builtin (P := P) (a := a) (w := w) ho hcb
    rw [e0]
    simp [builtin, hTa, hp, h1]
  · cases hk
theorem op_minmax {cl : Call} {mx : Bool} (hd : ∀ d : Nat, o.dst = some d → d < X.f.n) (ho : o.op = .call cl) (hcb : cl.callee = .builtin (if mx then .max else .min)) (hi : Inv X st a w A W V)
    (hk : minK mx (cl.args.toList.map (opnd X.f st)) (fun v => k (st.put X.f o.dst v)) = some r) : o.wp P a w (Post X k r) Q := by
  unfold minK at hk
  split at hk
  · rename_i j x j' y hxy
    obtain ⟨p, q, hpq, hp, hq⟩ := arr2 hxy
    obtain ⟨hj, hk⟩ := cond_some hk
    have hj : j = j' := by simpa using hj
    subst hj
    have h1 := hi.opnd p
    have h2 := hi.opnd q
    rw [hp] at h1
    rw [hq] at h2
    have e1 := h1.int
    have e2 := h2.int
    cases mx with
    | true =>
      refine wp_value hd (v := .int j (bif decide (@LT.lt Int _ x y) then y else x)) ?_ hi (RepAV.mkInt _ _) hk
      obtain ⟨cs, e0⟩ := call_builtin (P := P) (a := a) (w := w) ho hcb
      rw [e0]
      cases hlt : decide (@LT.lt Int _ x y) <;> simp only [decide_eq_true_eq, decide_eq_false_iff_not] at hlt <;> simp [builtin, hpq, Builtin.max_, Builtin.max2, e1, e2, hlt]
    | false =>
      refine wp_value hd (v := .int j (bif decide (@LT.lt Int _ y x) then y else x)) ?_ hi (RepAV.mkInt _ _) hk
      obtain ⟨cs, e0⟩ := call_builtin (P := P) (a := a) (w := w) ho hcb
      rw [e0]
      cases hlt : decide (@LT.lt Int _ y x) <;> simp only [decide_eq_true_eq, decide_eq_false_iff_not] at hlt <;> simp [builtin, hpq, Builtin.min_, Builtin.min2, e1, e2, hlt]
  · cases hk

end
end Go.Proofs.Fw
