/- Operations on addresses, fields, elements, bytes; what reads memory. -/
import Derived.Test.YtjblmapbompclaaGreatFwH
set_option linter.all false
namespace Go.Proofs.Fw
open Go

section
variable [GInv] {R : Type} {P : Program} {c : Cfg} {X : Ctx} {st : St} {a : Act} {w : World} {A : Nat → Prop} {W : Wit} {V : Nat → Value} {o : Oper} {k : St → Option R} {r : R} {Q : Exit → Act → World → Prop}
theorem add_mk (b off n : Nat) : (⟨b, off, none⟩ : Addr).add n = ⟨b, off + n, none⟩ := by unfold Addr.add; split <;> simp_all
theorem unK_val {op : UnOp} {x : AV} {u : Value} {kk : AV → Option R} (hx : RepAV A W w x u) (hk : unK op x kk = some r) : ∃ v av, (∀ w', (Op.unary op u).run P w' = .ok v w') ∧ RepAV A W w av v ∧ kk av = some r := by
  unfold unK at hk
  split at hk
  · exact ⟨_, _, fun w' => by rw [hx.bool]; simp [Op.unary], RepAV.mkBool _, hk⟩
  · exact ⟨_, _, fun w' => by rw [hx.int]; simp [Op.unary, Op.intArith], RepAV.mkInt _ _, hk⟩
  · cases hk
theorem op_unOp {op : UnOp} {T : Nat} {x : Operand} (hd : ∀ d : Nat, o.dst = some d → d < X.f.n) (ho : o.op = .unOp op T x) (hi : Inv X st a w A W V)
    (hk : unK op (opnd X.f st x) (fun v => k (st.put X.f o.dst v)) = some r) : o.wp P a w (Post X k r) Q := by
  obtain ⟨v, av, h1, h2, h3⟩ := unK_val (P := P) (hi.opnd x) hk
  exact wp_value hd (by simp [execOp, ho, h1]) hi h2 h3
theorem fields_get {P : Program} : ∀ (gs : List Field) (fs : List (Nat × Nat)) (f off FT : Nat), fieldsAre P gs fs = true → fs[f]? = some (off, FT) → ∃ g i, gs[f]? = some g ∧ g.offset = off ∧ g.type = FT ∧ P.info? FT = some i ∧ i.size ≠ 0
  | [], [], _, _, _, _, h => by simp at h
  | [], _ :: _, _, _, _, h, _ => by simp [fieldsAre] at h
  | _ :: _, [], _, _, _, h, _ => by simp [fieldsAre] at h
  | g :: gs, (o, T) :: fs, 0, off, FT, h, h' => by
    simp only [fieldsAre, Bool.and_eq_true, beq_iff_eq] at h
    simp only [List.getElem?_cons_zero, Option.some.injEq, Prod.mk.injEq] at h'
    obtain ⟨⟨⟨h1, h2⟩, h3⟩, _⟩ := h
    obtain ⟨rfl, rfl⟩ := h'
    cases hi : P.info? g.type with
    | none => rw [hi] at h3; simp at h3
    | some i =>
      rw [hi] at h3
      exact ⟨g, i, rfl, h1, h2, by rw [← h2]; exact hi, by simpa using h3⟩
  | g :: gs, (o, T) :: fs, f + 1, off, FT, h, h' => by
    simp only [fieldsAre, Bool.and_eq_true] at h
    obtain ⟨g', i, h1, h2⟩ := fields_get gs fs f off FT h.2 (by simpa using h')
    exact ⟨g', i, by simpa using h1, h2⟩
theorem fieldOf_get (hc : chkAll P c.tab = true) {T f off FT : Nat} (h : fieldOf c T f = some (off, FT)) :
    ∃ gs g i, P.underlying T = some (.struct gs) ∧ gs[f]? = some g ∧ g.offset = off ∧ g.type = FT ∧ P.info? FT = some i ∧ i.size ≠ 0 := by
  unfold fieldOf at h
  split at h
  · rename_i t fs ha
    obtain ⟨_, gs, _, _, hu, _, _, _, _, hf, _⟩ := chk_struct (assoc_chk hc ha)
    obtain ⟨g, i, h1, h2⟩ := fields_get gs.toList fs f off FT hf h
    exact ⟨gs, g, i, hu, by simpa using h1, h2⟩
  · cases h
theorem run_fieldAt (hc : chkAll P c.tab = true) {T f off FT : Nat} (h : fieldOf c T f = some (off, FT)) (b n : Nat) (w : World) :
    (Instr.fieldAt T (.pointer (some ⟨b, n, none⟩)) f).run P w = .ok (.pointer (some ⟨b, n + off, none⟩)) w := by
  obtain ⟨gs, g, i, hu, h1, h2, h3, h4, h5⟩ := fieldOf_get hc h
  simp only [Instr.fieldAt, Sem.run_bind, run_underlying' hu, Result.andThen_ok, h1, Instr.sureAddr, fieldPlace, Sem.run_pure, h3, run_sizeOf' h4, Sem.run_ite, h5, if_false, h2, add_mk]
theorem op_fieldAddr (hc : chkAll P c.tab = true) {T f : Nat} {x : Operand} (hd : ∀ d : Nat, o.dst = some d → d < X.f.n) (ho : o.op = .fieldAddr T x f) (hi : Inv X st a w A W V)
    (hk : (match fieldOf c T f with
    | some (off, _) => match opnd X.f st x with
      | .ref id n => k (st.put X.f o.dst (.ref id (n + off)))
      | .eref id i n => k (st.put X.f o.dst (.eref id i (n + off)))
      | .dref t x n => k (st.put X.f o.dst (.dref t x (n + off)))
      | _ => none
    | none => none) = some r) : o.wp P a w (Post X k r) Q := by
  have hx := hi.opnd x
  split at hk
  · rename_i off FT hf
    split at hk
    · rename_i id n e
      rw [e] at hx
      simp only [RepAV] at hx
      obtain ⟨b, F, h1, h2⟩ := hx
      refine wp_value hd (v := .pointer (some ⟨b, n + off, none⟩)) ?_ hi ?_ hk
      · simp only [execOp, ho, h2, Sem.run_bind, run_fieldAt hc hf, Result.andThen_ok, Sem.run_pure]
      · simp only [RepAV]; exact ⟨b, F, h1, rfl⟩
    · rename_i id i n e
      rw [e] at hx
      simp only [RepAV] at hx
      obtain ⟨b, oo, kk, len, cap, F, h1, h2, h3⟩ := hx
      refine wp_value hd (v := .pointer (some ⟨b, oo + i * kk + n + off, none⟩)) ?_ hi ?_ hk
      · simp only [execOp, ho, h3, Sem.run_bind, run_fieldAt hc hf, Result.andThen_ok, Sem.run_pure]
      · simp only [RepAV]; exact ⟨b, oo, kk, len, cap, F, h1, h2, by simp [Nat.add_assoc]⟩
    · rename_i t y n e
      rw [e] at hx
      simp only [RepAV] at hx
      obtain ⟨b, oo, S, cs, h1, h2, h3, h4⟩ := hx
      refine wp_value hd (v := .pointer (some ⟨b, oo + n + off, none⟩)) ?_ hi ?_ hk
      · simp only [execOp, ho, h3, Sem.run_bind, run_fieldAt hc hf, Result.andThen_ok, Sem.run_pure]
      · simp only [RepAV]; exact ⟨b, oo, S, cs, h1, h2, by simp [Nat.add_assoc], h4⟩
    · cases hk
  · cases hk
theorem mkAV_rep {ag : Bool} {cs : List AV} {vs : List Value} (h : RepL A W w cs vs) (h1 : ag = false → vs.length = 1) :
    RepAV A W w (mkAV ag cs) (if ag = true then .agg vs.toArray else vs.getD 0 undef) := by
  unfold mkAV
  cases ag with
  | true => simp only [cond, if_true, RepAV]; exact ⟨vs, rfl, h⟩
  | false =>
    simp only [cond, Bool.false_eq_true, if_false]
    split
    · simp only [RepL] at h
      obtain ⟨v, r, rfl, h2, rfl⟩ := h
      simpa using h2
    · simp [RepAV]
theorem subN_rep {n off : Nat} {cs ds : List AV} {vs : List Value} (h : RepL A W w cs vs) (e : subN n off cs = some ds) : RepL A W w ds ((vs.drop off).take n) ∧ ((vs.drop off).take n).length = n := by
  unfold subN at e
  cases hb : Nat.beq (takeN n (dropN off cs)).length n
  · rw [hb] at e; simp at e
  · rw [hb] at e
    simp only [cond, Option.some.injEq] at e
    have hr := takeN_rep n (dropN_rep off h)
    rw [e] at hr
    refine ⟨hr, ?_⟩
    rw [RepL.length hr, ← e]
    exact Nat.eq_of_beq_eq_true hb
theorem run_part (hc : chkAll P c.tab = true) {T : Nat} {ag : Bool} {t : Ty} (ht : tyOf c T = some (ag, t)) {vs : List Value} {off : Nat} (hl : ((vs.drop off).take t.size).length = t.size) (w : World) :
    (part T vs.toArray off).run P w = .ok (if ag = true then .agg ((vs.drop off).take t.size).toArray else ((vs.drop off).take t.size).getD 0 undef) w := by
  have fa := facts_of hc ht
  cases ag with
  | true =>
    simp only [part, Sem.run_bind, fa.agg, Result.andThen_ok, if_true, fa.size, Sem.run_ite, Sem.run_pure]
    simp
  | false =>
    have h1' := fa.one rfl
    rw [h1'] at hl ⊢
    cases hv : vs[off]? with
    | some v =>
      have hl : (vs.drop off).take 1 = [v] := by
        obtain ⟨hlt, hv⟩ := List.getElem?_eq_some_iff.1 hv
        rw [List.take_one, List.head?_drop, List.getElem?_eq_getElem hlt, hv]; rfl
      rw [hl]
      simp [part, fa.agg, hv]
    | none =>
      rw [List.getElem?_eq_none_iff] at hv
      simp at hl
      omega
theorem op_field (hc : chkAll P c.tab = true) {T f : Nat} {x : Operand} (hd : ∀ d : Nat, o.dst = some d → d < X.f.n) (ho : o.op = .field T x f) (hi : Inv X st a w A W V)
    (hk : (match fieldOf c T f with
    | some (off, FT) => match tyOf c FT, opnd X.f st x with
      | some (ag, t), .agg cs => match subN t.size off cs with
        | some cs => k (st.put X.f o.dst (mkAV ag cs))
        | none => none
      | _, _ => none
    | none => none) = some r) : o.wp P a w (Post X k r) Q := by
  have hx := hi.opnd x
  split at hk
  · rename_i off FT hf
    split at hk
    · rename_i ag t cs ht e
      rw [e] at hx
      simp only [RepAV] at hx
      obtain ⟨vs, h1, h2⟩ := hx
      obtain ⟨gs, g, i, hu, g1, g2, g3, g4, g5⟩ := fieldOf_get hc hf
      split at hk
      · rename_i ds hs
        obtain ⟨hr, hl⟩ := subN_rep h2 hs
        refine wp_value hd ?_ hi (mkAV_rep (ag := ag) hr (fun e => by rw [hl]; exact (facts_of hc ht).one e)) hk
        simp only [execOp, ho, h1, Sem.run_bind, Instr.field, run_underlying' hu, Result.andThen_ok, g1, asAgg, Sem.run_pure, g3, g2, run_part hc ht hl]
      · cases hk
    · cases hk
  · cases hk
theorem idxK_ok {i : Int} {n : Nat} {kk : Nat → Option R} (e : idxK i n kk = some r) : 0 ≤ i ∧ i < (n : Int) ∧ kk i.toNat = some r := by
  unfold idxK at e
  cases hb : (decide (0 ≤ i) && decide (i < (n : Int)))
  · rw [hb] at e; simp at e
  · rw [hb] at e
    simp only [Bool.and_eq_true, decide_eq_true_eq] at hb
    exact ⟨hb.1, hb.2, e⟩
theorem leaf_str (hc : chkAll P c.tab = true) {T : Nat} (hl : leafAt c T .str = true) : P.underlying T = some .string := by
  obtain ⟨d, hu, hd⟩ := leafAt_desc hc hl rfl
  cases d <;> simp [leafIs] at hd
  exact hu
theorem leaf_int (hc : chkAll P c.tab = true) {T : Nat} {j : IntKind} (hl : leafAt c T (.int j) = true) : P.underlying T = some (.int j) := by
  obtain ⟨d, hu, hd⟩ := leafAt_desc hc hl rfl
  cases d <;> simp [leafIs] at hd
  subst hd
  exact hu
theorem op_index (hc : chkAll P c.tab = true) {T : Nat} {x ix : Operand} (hd : ∀ d : Nat, o.dst = some d → d < X.f.n) (ho : o.op = .index T x ix) (hi : Inv X st a w A W V)
    (hk : (match opnd X.f st x, opnd X.f st ix with
    | .d .str s, .d (.int _) i => bif leafAt c T .str then idxK i s.length fun n => k (st.put X.f o.dst (.d (.int .u8) ((s.getD n 0).toNat : Int))) else none
    | _, _ => none) = some r) : o.wp P a w (Post X k r) Q := by
  have hx := hi.opnd x
  have hix := hi.opnd ix
  split at hk
  · rename_i s j i e1 e2
    rw [e1] at hx
    rw [e2] at hix
    obtain ⟨hl, hk⟩ := cond_some hk
    have hs : P.underlying T = some .string := leaf_str hc hl
    obtain ⟨h0, h1, h2⟩ := idxK_ok hk
    have hlt : i.toNat < s.length := by omega
    refine wp_value hd (v := .int .u8 ((s.getD i.toNat 0).toNat : Int)) ?_ hi (RepAV.mkInt _ _) h2
    have hg : (⟨s.toArray⟩ : ByteArray)[i.toNat]? = some (s.getD i.toNat 0) := by
      have : (⟨s.toArray⟩ : ByteArray)[i.toNat]? = s[i.toNat]? := by
        rw [List.getElem?_eq_getElem hlt]
        rw [getElem?_pos (⟨s.toArray⟩ : ByteArray) i.toNat (by simpa [ByteArray.size] using hlt)]
        rfl
      rw [this, List.getD_eq_getElem?_getD, List.getElem?_eq_getElem hlt]; rfl
    simp only [execOp, ho, hx.str, hix.int, Sem.run_bind, Instr.index, asIntOf, Sem.run_pure, Result.andThen_ok, run_underlying' hs, if_pos h0, hg]
  · cases hk
theorem op_extract {i : Nat} {x : Operand} (hd : ∀ d : Nat, o.dst = some d → d < X.f.n) (ho : o.op = .extract x i) (hi : Inv X st a w A W V)
    (hk : (match tupNth i (opnd X.f st x) with | .any => none | v => k (st.put X.f o.dst v)) = some r) : o.wp P a w (Post X k r) Q := by
  have hx := hi.opnd x
  cases e : opnd X.f st x with
  | tup vs =>
    rw [e] at hx hk
    simp only [RepAV] at hx
    obtain ⟨us, h1, h2⟩ := hx
    have nth_rep : ∀ (n : Nat) (vs : List AV) (us : List Value), RepL A W w vs us → nth n vs = .any ∨ ∃ u, us[n]? = some u ∧ RepAV A W w (nth n vs) u := by
      intro n vs
      induction vs generalizing n with
      | nil => intro us _; left; cases n <;> rfl
      | cons v vs ih =>
        intro us h
        simp only [RepL] at h
        obtain ⟨u, s, rfl, g1, g2⟩ := h
        cases n with
        | zero => exact .inr ⟨u, rfl, g1⟩
        | succ n => simpa [nth] using ih n s g2
    simp only [tupNth] at hk
    rcases nth_rep i vs us h2 with hn | ⟨u, hu, hr⟩
    · rw [hn] at hk; simp at hk
    · have hk' : k (st.put X.f o.dst (nth i vs)) = some r := by
        revert hk; cases nth i vs <;> simp
      refine wp_value hd (v := u) ?_ hi hr hk'
      simp [execOp, ho, h1, Instr.extract, hu]
  | _ => rw [e] at hk; simp [tupNth] at hk
theorem op_makeFunc {fn : Fn} {first caps : Array Operand} (hd : ∀ d : Nat, o.dst = some d → d < X.f.n) (ho : o.op = .makeFunc fn first caps) (hi : Inv X st a w A W V)
    (hk : (match isFunc fn, first.toList with
    | some g, [] => k (st.put X.f o.dst (.fn g (caps.toList.map (opnd X.f st))))
    | _, _ => none) = some r) : o.wp P a w (Post X k r) Q := by
  split at hk
  · rename_i g hg hf
    cases fn <;> simp [isFunc] at hg
    subst hg
    have hf' : first = #[] := by cases first; simp_all
    have hl : ∀ l : List Operand, RepL A W w (l.map (opnd X.f st)) (l.map a.eval) := by
      intro l
      induction l with
      | nil => simp [RepL]
      | cons x l ih => simp only [List.map_cons, RepL]; exact ⟨_, _, rfl, hi.opnd x, ih⟩
    refine wp_value hd (v := .func (.func _) #[] (caps.toList.map a.eval).toArray) ?_ hi (by simp only [RepAV]; exact ⟨_, rfl, hl _⟩) hk
    simp [execOp, ho, Instr.makeFunc, hf']
    cases caps; simp
  · cases hk

end
end Go.Proofs.Fw
