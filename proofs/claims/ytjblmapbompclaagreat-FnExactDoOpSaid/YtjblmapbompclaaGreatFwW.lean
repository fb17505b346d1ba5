/- Regions that draw their order: pure operations. -/
import Derived.Test.YtjblmapbompclaaGreatFwV
set_option linter.all false
namespace Go.Proofs.Fw
open Go
def Cl (X : Ctx) (w w' : World) : Prop := ∀ b, X.C b → w'.heap[b]? = w.heap[b]?

section
variable [GInv] {R : Type} {P : Program} {c : Cfg} {X : Ctx} {st : St} {a : Act} {w : World} {A : Nat → Prop} {W : Wit} {V : Nat → Value} {o : Oper} {kk : AV → Option R} {r : R}
theorem loadCells_at (hi : Inv X st a w A W V) (hA : ∀ b, A b → X.C b) (hB : ∀ j b, st.kb.has j = true → W j = some (.box b, [b]) → X.C b) {n : Nat} {x : AV} {v : Value} {cs : List AV} (hk : ∀ id off, x = .ref id off → st.kb.has id = true)
    (hx : RepAV A W w x v) (e : loadCells st n x = some cs) :
    ∃ b off vs, v = .pointer (some ⟨b, off, none⟩) ∧ (∀ w', Cl X w w' → Seg w' b off vs) ∧ vs.length = n ∧ RepL A W w cs vs := by
  have hr := hi.rep
  unfold loadCells at e
  split at e
  · rename_i id off
    split at e
    · rename_i bs hl
      simp only [RepAV] at hx
      obtain ⟨b, F, h1, h2⟩ := hx
      obtain ⟨b', vs, g1, g2, g3, g4⟩ := hr.locs id _ _ h1 hl
      rw [h1] at g1
      simp only [Option.some.injEq, Prod.mk.injEq, LW.box.injEq] at g1
      obtain ⟨rfl, rfl⟩ := g1
      obtain ⟨k1, k2⟩ := subN_rep g4 e
      have hC := hB id b (hk id off rfl) h1
      exact ⟨b, off, _, h2, fun w' hw => by have := (g2.sub off n).mono (hw b hC); simpa using this, k2, k1⟩
    · cases e
  · rename_i t y off
    simp only [RepAV] at hx
    obtain ⟨b, oo, S, us, h1, h2, h3, h4, h5⟩ := hx
    obtain ⟨k1, k2⟩ := subN_rep (unpack_rep t h5 h2) e
    exact ⟨b, oo + off, _, h3, fun w' hw => (h4.sub off n).mono (hw b (hA b h1)), k2, k1⟩
  · cases e
theorem fillRaw_ok (hc : chkAll P c.tab = true) (hi : Inv X st a w A W V) {T : Nat} {places : List (Nat × Nat)}
    (hp : ∀ (f off FT : Nat), fieldOf c T f = some (off, FT) → ∃ i, P.info? FT = some i ∧ places[f]? = some (off, i.size)) :
    ∀ (parts : List (Nat × Operand)) (cs cs' : List AV) (vs : List Value), RepL A W w cs vs → fillRaw c T X.f st parts cs = some cs' →
    ∃ vs', RepL A W w cs' vs' ∧ Instr.fill (places[·]?) vs.toArray (parts.map fun (i, x) => (i, a.eval x)) = some vs'.toArray
  | [], cs, cs', vs, hr, e => by
    simp only [fillRaw, Option.some.injEq] at e
    subst e
    exact ⟨vs, hr, rfl⟩
  | (i, x) :: parts, cs, cs', vs, hr, e => by
    simp only [fillRaw] at e
    split at e
    · rename_i off FT hf
      split at e
      · rename_i ag t ht
        obtain ⟨h1, e⟩ := cond_some e
        simp only [Bool.and_eq_true] at h1
        obtain ⟨g3, _⟩ := cells_rep (hi.opnd x) h1.1.1
        have hl := RepL.length g3
        have hln := Nat.eq_of_beq_eq_true h1.1.2
        have g5 : (a.eval x).cells.size = t.size := by rw [hln] at hl; simpa using hl
        have fa := facts_of hc ht
        obtain ⟨ie, hie, hpl⟩ := hp i off FT hf
        have hsz : ie.size = t.size := by
          have := fa.size default
          rw [run_sizeOf' hie] at this
          exact (Result.ok.inj this).1
        obtain ⟨vs2, q2, q3⟩ := fillRaw_ok hc hi hp parts _ cs' _ (setN_rep off g3 hr) e
        refine ⟨vs2, q2, ?_⟩
        simp only [List.map_cons]
        rw [fill_cons (off := off) (by rw [hpl, hsz, g5]) (by rw [g5]; have := Nat.le_of_ble_eq_true h1.2; have h2 := RepL.length hr; simp; omega)]
        exact q3
      · cases e
    · cases e
theorem pureK_ok (hc : chkAll P c.tab = true) (hq : eqFacts P c.tab c.eqs = true) (hi : Inv X st a w A W V) (hA : ∀ b, A b → X.C b) (hB : ∀ j b, st.kb.has j = true → W j = some (.box b, [b]) → X.C b)
    (hk : pureK c X.f o st kk = some r) : ∃ v av, (∀ w', Cl X w w' → (execOp a.eval o).run P w' = .ok (.value v) w') ∧ RepAV A W w av v ∧ kk av = some r := by
  unfold pureK at hk
  split at hk
  · -- move
    rename_i x ho
    exact ⟨a.eval x, _, fun w' _ => by simp only [execOp, ho, Sem.run_pure], hi.opnd x, hk⟩
  · rename_i x ho
    exact ⟨a.eval x, _, fun w' _ => by simp only [execOp, ho, Sem.run_pure], hi.opnd x, hk⟩
  · -- pick
    rename_i x y z ho
    have hx := hi.opnd x
    split at hk
    · rename_i t e
      rw [e] at hx
      have hx := hx.bool
      cases t with
      | true => exact ⟨a.eval y, _, fun w' _ => by simp [execOp, ho, hx, asBool], hi.opnd y, hk⟩
      | false => exact ⟨a.eval z, _, fun w' _ => by simp [execOp, ho, hx, asBool], hi.opnd z, hk⟩
    · cases hk
  · -- fieldAddr
    rename_i T x f ho
    have hx := hi.opnd x
    split at hk
    · rename_i off FT hf
      split at hk
      · rename_i id n e
        rw [e] at hx
        simp only [RepAV] at hx
        obtain ⟨b, F, h1, h2⟩ := hx
        refine ⟨.pointer (some ⟨b, n + off, none⟩), _, fun w' _ => ?_, ?_, hk⟩
        · simp only [execOp, ho, h2, Sem.run_bind, run_fieldAt hc hf b n w', Result.andThen_ok, Sem.run_pure]
        · simp only [RepAV]; exact ⟨b, F, h1, rfl⟩
      · rename_i id i n e
        rw [e] at hx
        simp only [RepAV] at hx
        obtain ⟨b, o', k', len, cap, F, h1, h2, h3⟩ := hx
        refine ⟨.pointer (some ⟨b, o' + i * k' + n + off, none⟩), _, fun w' _ => ?_, ?_, hk⟩
        · simp only [execOp, ho, h3, Sem.run_bind, run_fieldAt hc hf b _ w', Result.andThen_ok, Sem.run_pure]
        · simp only [RepAV]; exact ⟨b, o', k', len, cap, F, h1, h2, by rw [Nat.add_assoc]⟩
      · rename_i t y n e
        rw [e] at hx
        simp only [RepAV] at hx
        obtain ⟨b, o', S, cs, h1, h2, h3, h4, h5⟩ := hx
        refine ⟨.pointer (some ⟨b, o' + n + off, none⟩), _, fun w' _ => ?_, ?_, hk⟩
        · simp only [execOp, ho, h3, Sem.run_bind, run_fieldAt hc hf b _ w', Result.andThen_ok, Sem.run_pure]
        · simp only [RepAV]; exact ⟨b, o', S, cs, h1, h2, by rw [Nat.add_assoc], h4, h5⟩
      · cases hk
    · cases hk
  · -- load
    rename_i T x ho
    have hx := hi.opnd x
    have typed : ∀ {ag : Bool} {t : Ty} {y : AV} {cs : List AV}, tyOf c T = some (ag, t) → RepAV A W w y (a.eval x) → (∀ id off, y = .ref id off → st.kb.has id = true) → loadCells st t.size y = some cs → kk (mkAV ag cs) = some r →
        ∃ v av, (∀ w', Cl X w w' → (execOp a.eval o).run P w' = .ok (.value v) w') ∧ RepAV A W w av v ∧ kk av = some r := fun {ag t y cs} ht hy hid hl hk => by
      have fa := facts_of hc ht
      obtain ⟨b, off, vs, h1, h2, h3, h4⟩ := loadCells_at hi hA hB hid hy hl
      refine ⟨if ag = true then .agg vs.toArray else vs.getD 0 Go.undef, _, fun w' hw => ?_, mkAV_rep h4 (fun e => by rw [h3]; exact fa.one e), hk⟩
      simp only [execOp, ho, Sem.run_bind, h1, run_loadAt fa (h2 w' hw) h3, Result.andThen_ok, Sem.run_pure]
    split at hk
    · rename_i id off e
      obtain ⟨hid, hk⟩ := cond_some hk
      rw [e] at hx
      split at hk
      · obtain ⟨h1, hk⟩ := cond_some hk
        split at hk
        · rename_i cs hl
          simp only [RepAV] at hx
          obtain ⟨b, F, g1, g2⟩ := hx
          obtain ⟨b', vs, p1, p2, p3, p4⟩ := hi.rep.locs id _ _ g1 hl
          rw [g1] at p1
          simp only [Option.some.injEq, Prod.mk.injEq, LW.box.injEq] at p1
          obtain ⟨rfl, rfl⟩ := p1
          have fin : ∀ y, nth off cs = y → y ≠ .any → kk y = some r → ∃ v av, (∀ w', Cl X w w' → (execOp a.eval o).run P w' = .ok (.value v) w') ∧ RepAV A W w av v ∧ kk av = some r := fun y hy hne hk => by
            rcases nth_rep off p4 with hn | ⟨u, hu, hr⟩
            · exact absurd (hy.symm.trans hn) hne
            · rw [hy] at hr
              refine ⟨u, y, fun w' hw => ?_, hr, hk⟩
              obtain ⟨q1, q2⟩ := List.getElem?_eq_some_iff.1 hu
              have hcell := (p2.mono (hw b (hB id b hid g1))) off q1
              simp only [Nat.zero_add, q2] at hcell
              simp [execOp, ho, g2, Instr.loadAt, Instr.sureAddr, loadVar, one_agg hc h1, hcell]
          split at hk
          · rename_i hn; exact fin _ hn (by simp) hk
          · rename_i hn; exact fin _ hn (by simp) hk
          · cases hk
        · cases hk
      · rename_i ag t ht
        split at hk
        · rename_i cs hl
          exact typed ht hx (fun id' off' e' => by cases e'; exact hid) hl hk
        · cases hk
    · rename_i t y off e
      rw [e] at hx
      split at hk
      · cases hk
      · rename_i ag t' ht
        split at hk
        · rename_i cs hl
          exact typed ht hx (fun id' off' e' => by cases e') hl hk
        · cases hk
    · cases hk
  · -- nilCheck
    rename_i x ho
    have hx := hi.opnd x
    split at hk
    · rename_i id off e
      rw [e] at hx
      refine ⟨a.eval x, _, fun w' _ => ?_, hx, hk⟩
      simp only [RepAV] at hx
      obtain ⟨b, F, h1, h2⟩ := hx
      simp [execOp, ho, h2]
    · rename_i id i off e
      rw [e] at hx
      refine ⟨a.eval x, _, fun w' _ => ?_, hx, hk⟩
      simp only [RepAV] at hx
      obtain ⟨b, o', k', len, cap, F, h1, h2, h3⟩ := hx
      simp [execOp, ho, h3]
    · rename_i t y off e
      rw [e] at hx
      refine ⟨a.eval x, _, fun w' _ => ?_, hx, hk⟩
      simp only [RepAV] at hx
      obtain ⟨b, o', S, cs, h1, h2, h3, h4, h5⟩ := hx
      simp [execOp, ho, h3]
    · rename_i g cs e
      rw [e] at hx
      refine ⟨a.eval x, _, fun w' _ => ?_, hx, hk⟩
      simp only [RepAV] at hx
      obtain ⟨vs, h1, h2⟩ := hx
      simp [execOp, ho, h1]
    · cases hk
  · -- binOp
    rename_i op T x y T' ho
    split at hk
    · rename_i id hid
      have hx := hi.opnd x
      rw [rowOf_spec hid] at hx
      obtain ⟨z, v, h1, h2, h3⟩ := rowNilK_ok hc hi.rep (ox := x) (oy := y) hx (hi.opnd y) hk
      refine ⟨z, v, fun w' hw => ?_, h2, h3⟩
      simp only [execOp, ho, Sem.run_bind, h1 w', Result.andThen_ok, Sem.run_pure]
    · obtain ⟨z, v, h1, h2, h3⟩ := binK_ok hc hq (ox := x) (oy := y) (hi.opnd x) (hi.opnd y) hk
      refine ⟨z, v, fun w' hw => ?_, h2, h3⟩
      simp only [execOp, ho, Sem.run_bind, h1 w' (fun b hb => hw b (hA b hb)), Result.andThen_ok, Sem.run_pure]
  · -- unOp
    rename_i op T x ho
    obtain ⟨v, av, h1, h2, h3⟩ := unK_val (P := P) (hi.opnd x) hk
    exact ⟨v, av, fun w' _ => by simp [execOp, ho, h1], h2, h3⟩
  · -- convert
    rename_i S D x ho
    have hx := hi.opnd x
    split at hk
    · rename_i ps j j' n hS hD e
      rw [e] at hx
      obtain ⟨h1, hk⟩ := cond_some hk
      have hu := leaf_int hc h1
      obtain ⟨ds, hds⟩ := tyOf_under (ag := ps.1) (t := ps.2) hc hS
      refine ⟨.int j (j.wrap n), _, fun w' _ => ?_, RepAV.mkInt _ _, hk⟩
      simp [execOp, ho, hx.int, convert, run_underlying' hds, run_underlying' hu, Conv.intToInt]
    · cases hk
  · -- field
    rename_i T x f ho
    have hx := hi.opnd x
    split at hk
    · rename_i off FT hf
      split at hk
      · rename_i ag t cs ht e
        rw [e] at hx
        simp only [RepAV] at hx
        obtain ⟨vs, h1, h2⟩ := hx
        obtain ⟨gs, g, i, hu, g1, g2, g3, g4, g5⟩ := fieldOf_get hc hf
        split at hk
        · rename_i ds hs
          obtain ⟨hr, hl⟩ := subN_rep h2 hs
          refine ⟨if ag = true then .agg ((vs.drop off).take t.size).toArray else ((vs.drop off).take t.size).getD 0 Go.undef, _, fun w' _ => ?_, mkAV_rep (ag := ag) hr (fun e => by rw [hl]; exact (facts_of hc ht).one e), hk⟩
          simp only [execOp, ho, h1, Sem.run_bind, Instr.field, run_underlying' hu, Result.andThen_ok, g1, asAgg, Sem.run_pure, g3, g2, run_part hc ht hl]
        · cases hk
      · cases hk
    · cases hk
  · -- indexAddr
    rename_i T x ix ho
    have hx := hi.opnd x
    have hix := hi.opnd ix
    split at hk
    · rename_i t xs j i e1 e2
      rw [e1] at hx
      rw [e2] at hix
      obtain ⟨hl, hk⟩ := cond_some hk
      obtain ⟨h0, h1, hk⟩ := idxK_ok hk
      have hlt : i.toNat < xs.length := by omega
      obtain ⟨S, hS, hr⟩ := hx.dval
      simp only [Rd] at hr
      rcases hr with ⟨rfl, _⟩ | ⟨b, off, cap, S', rfl, e3, hcap, hrow⟩
      · simp at hlt
      · simp only [List.cons.injEq, and_true] at e3
        obtain ⟨S1, cs, s1, s2, s3, s4⟩ := hrow.get i.toNat hlt
        refine ⟨.pointer (some ⟨b, off + i.toNat * t.size, none⟩), _, fun w' _ => ?_, ?_, hk⟩
        · simp only [execOp, ho, e3, hix.int, Sem.run_bind, run_indexAt hc hl h0 h1, Result.andThen_ok, Sem.run_pure]
        · simp only [RepAV]
          exact ⟨b, off + i.toNat * t.size, S1, cs, hS b (by simp), fun c hc => hS c (by simp [s1 c hc]), rfl, s3, by rw [getD_get hlt]; exact s4⟩
    · rename_i id j i e1 e2
      rw [e1] at hx
      rw [e2] at hix
      split at hk
      · rename_i t xs dp hloc
        obtain ⟨hl, hk⟩ := cond_some hk
        obtain ⟨h0, h1, hk⟩ := idxK_ok hk
        have hlt : i.toNat < xs.length := by omega
        obtain ⟨lw, F, hW, hb, hv⟩ := hi.rep.row_live hx
        rcases hi.rep.locs id _ _ hW hloc with ⟨g1, g2⟩ | ⟨b, off, cap, S', g1, g2, g3⟩
        · subst g2; simp at hlt
        · rw [hW] at g1
          simp only [Option.some.injEq, Prod.mk.injEq] at g1
          obtain ⟨rfl, rfl⟩ := g1
          refine ⟨.pointer (some ⟨b, off + i.toNat * t.size, none⟩), _, fun w' _ => ?_, ?_, hk⟩
          · simp only [execOp, ho, hv, LW.val, hix.int, Sem.run_bind, run_indexAt hc hl h0 h1, Result.andThen_ok, Sem.run_pure]
          · simp only [RepAV]
            exact ⟨b, off, t.size, xs.length, cap, _, hW, hlt, by simp⟩
      · cases hk
    · cases hk
  · -- index
    rename_i T x ix ho
    have hx := hi.opnd x
    have hix := hi.opnd ix
    split at hk
    · rename_i s j i e1 e2
      rw [e1] at hx
      rw [e2] at hix
      obtain ⟨hl, hk⟩ := cond_some hk
      have hs : P.underlying T = some .string := leaf_str hc hl
      obtain ⟨h0, h1, h2⟩ := idxK_ok hk
      have hlt : i.toNat < s.length := by omega
      refine ⟨.int .u8 ((s.getD i.toNat 0).toNat : Int), _, fun w' _ => ?_, RepAV.mkInt _ _, h2⟩
      have hg : (⟨s.toArray⟩ : ByteArray)[i.toNat]? = some (s.getD i.toNat 0) := by
        have : (⟨s.toArray⟩ : ByteArray)[i.toNat]? = s[i.toNat]? := by
          rw [List.getElem?_eq_getElem hlt]
          rw [getElem?_pos (⟨s.toArray⟩ : ByteArray) i.toNat (by simpa [ByteArray.size] using hlt)]
          rfl
        rw [this, List.getD_eq_getElem?_getD, List.getElem?_eq_getElem hlt]; rfl
      simp only [execOp, ho, hx.str, hix.int, Sem.run_bind, Instr.index, asIntOf, Sem.run_pure, Result.andThen_ok, run_underlying' hs, if_pos h0, hg]
    · cases hk
  · -- extract
    rename_i x i ho
    have hx := hi.opnd x
    cases e : opnd X.f st x with
    | tup vs =>
      rw [e] at hx hk
      simp only [RepAV] at hx
      obtain ⟨us, h1, h2⟩ := hx
      simp only [tupNth] at hk
      rcases nth_rep i h2 with hn | ⟨u, hu, hr⟩
      · rw [hn] at hk; simp at hk
      · have hk' : kk (nth i vs) = some r := by
          revert hk; cases nth i vs <;> simp
        refine ⟨u, _, fun w' _ => ?_, hr, hk'⟩
        simp [execOp, ho, h1, Instr.extract, hu]
    | _ => rw [e] at hk; simp [tupNth] at hk
  · -- len
    rename_i cl ho
    split at hk
    · rename_i T x hcb hT hxy
      obtain ⟨p, hp, rfl⟩ := arr1 hxy
      have hTa : cl.argTypes = #[T] := by
        rcases hcl : cl.argTypes with ⟨l⟩
        rw [hcl] at hT; simp only at hT; rw [hT]
      obtain ⟨n, h1, h2⟩ := lenK_ok (ty := o.type) hc hi (hi.opnd p) hk
      refine ⟨.int .i64 n, _, fun w' _ => ?_, RepAV.mkInt _ _, h2⟩
      obtain ⟨cs, e0⟩ := call_builtin (P := P) (a := a) (w := w') ho hcb
      rw [e0]
      simp [builtin, hTa, hp, h1]
    · cases hk
  · -- slice
    rename_i T x lo hi' ho
    have hx := hi.opnd x
    have hlo := opt_rep hi lo
    have hhi := opt_rep hi hi'
    split at hk
    · rename_i s e
      rw [e] at hx
      obtain ⟨hl, hk⟩ := cond_some hk
      have hu := leaf_str hc hl
      have b1 := boundK_ok hhi hk
      obtain ⟨h, hh, hle, hk⟩ : ∃ h, ((hi'.map a.eval = none ∧ h = s.length) ∨ ∃ j i, hi'.map a.eval = some (.int j i) ∧ 0 ≤ i ∧ i ≤ (s.length : Int) ∧ h = i.toNat) ∧ h ≤ s.length ∧
          boundK (lo.map (opnd X.f st)) 0 h (fun l => kk (.d .str ((s.take h).drop l))) = some r := by
        rcases b1 with ⟨_, h2, h3⟩ | ⟨j, i, h2, h3, h4, h5⟩
        · exact ⟨s.length, .inl ⟨h2, rfl⟩, Nat.le_refl _, h3⟩
        · exact ⟨i.toNat, .inr ⟨j, i, h2, h3, h4, rfl⟩, by omega, h5⟩
      have b2 := boundK_ok hlo hk
      obtain ⟨l, hl', hk⟩ : ∃ l, ((lo.map a.eval = none ∧ l = 0) ∨ ∃ j i, lo.map a.eval = some (.int j i) ∧ 0 ≤ i ∧ i ≤ (h : Int) ∧ l = i.toNat) ∧ kk (.d .str ((s.take h).drop l)) = some r := by
        rcases b2 with ⟨_, h2, h3⟩ | ⟨j, i, h2, h3, h4, h5⟩
        · exact ⟨0, .inl ⟨h2, rfl⟩, h3⟩
        · exact ⟨i.toNat, .inr ⟨j, i, h2, h3, h4, rfl⟩, h5⟩
      refine ⟨.string ⟨((s.take h).drop l).toArray⟩, _, fun w' _ => ?_, RepAV.mkStr _, hk⟩
      have hsz : (ByteArray.mk s.toArray).size = s.length := by simp [ByteArray.size]
      simp [execOp, ho, hx.str, Instr.sliceAt, run_underlying' hu, Instr.slice, hsz, run_bounds (P := P) (hm := 0) hh hl', extract_mk]
    · rename_i t xs e
      rw [e] at hx
      obtain ⟨hl, hk⟩ := cond_some hk
      obtain ⟨el, ie, ze, hu, _, hie, hsz, _⟩ := elemAt_get hc hl
      obtain ⟨S, hS, hr⟩ := hx.dval
      simp only [Rd] at hr
      have b1 := boundK_ok hhi hk
      obtain ⟨h, hh, hle, hk⟩ : ∃ h, (∀ cap, xs.length ≤ cap → (hi'.map a.eval = none ∧ h = xs.length) ∨ ∃ j i, hi'.map a.eval = some (.int j i) ∧ 0 ≤ i ∧ i ≤ (cap : Int) ∧ h = i.toNat) ∧ h ≤ xs.length ∧
          boundK (lo.map (opnd X.f st)) 0 h (fun l => kk (.d (.sl t) ((xs.take h).drop l))) = some r := by
        rcases b1 with ⟨_, h2, h3⟩ | ⟨j, i, h2, h3, h4, h5⟩
        · exact ⟨xs.length, fun _ _ => .inl ⟨h2, rfl⟩, Nat.le_refl _, h3⟩
        · exact ⟨i.toNat, fun cap hcap => .inr ⟨j, i, h2, h3, by omega, rfl⟩, by omega, h5⟩
      have b2 := boundK_ok hlo hk
      obtain ⟨l, hl', hlh, hk⟩ : ∃ l, ((lo.map a.eval = none ∧ l = 0) ∨ ∃ j i, lo.map a.eval = some (.int j i) ∧ 0 ≤ i ∧ i ≤ (h : Int) ∧ l = i.toNat) ∧ l ≤ h ∧ kk (.d (.sl t) ((xs.take h).drop l)) = some r := by
        rcases b2 with ⟨_, h2, h3⟩ | ⟨j, i, h2, h3, h4, h5⟩
        · exact ⟨0, .inl ⟨h2, rfl⟩, Nat.zero_le _, h3⟩
        · exact ⟨i.toNat, .inr ⟨j, i, h2, h3, h4, rfl⟩, by omega, h5⟩
      rcases hr with ⟨rfl, rfl, ad, e3⟩ | ⟨b, off, cap, S', rfl, e3, hcap, hrow⟩
      · simp only [List.cons.injEq, and_true] at e3
        have h0 : h = 0 := by simpa using hle
        subst h0
        have l0 : l = 0 := by omega
        subst l0
        refine ⟨.slice ad 0 0, _, fun w' _ => ?_, by simp only [RepAV, Rd]; exact ⟨[], by simp, .inl ⟨by simp, rfl, ad, rfl⟩⟩, hk⟩
        have hb : (Instr.sliceBounds true 0 0 (lo.map a.eval) (hi'.map a.eval) none).run P w' = .ok (0, 0, 0) w' := run_bounds (hm := 0) (hh 0 (by simp)) hl'
        cases ad <;> simp [execOp, ho, e3, Instr.sliceAt, run_underlying' hu, Instr.slice, hb, run_sizeOf' hie]
      · simp only [List.cons.injEq, and_true] at e3
        have hlen : ((xs.take h).drop l).length = h - l := by simp; omega
        have hrow' : ∃ T, RdRow (Rd w t) w b t.size (off + l * t.size) ((xs.take h).drop l) T ∧ ∀ c ∈ T, c ∈ S' := by
          have hrow := hrow
          rw [cut_list xs l h hlh] at hrow
          obtain ⟨T1, T2, e5, _, q2⟩ := hrow.split
          obtain ⟨T3, T4, e6, q3, _⟩ := q2.split
          refine ⟨T3, ?_, fun c hc => by rw [e5, e6]; simp [hc]⟩
          have : (xs.take l).length = l := by simp; omega
          rwa [this] at q3
        obtain ⟨T3, hrow', hT⟩ := hrow'
        have hb : ∀ w', (Instr.sliceBounds true xs.length cap (lo.map a.eval) (hi'.map a.eval) none).run P w' = .ok (l, h, cap) w' := fun w' => run_bounds (hm := 0) (hh cap hcap) hl'
        by_cases hm : cap = l
        · have hempty : (xs.take h).drop l = [] := List.eq_nil_of_length_eq_zero (by rw [hlen]; omega)
          refine ⟨.slice (some ⟨b, off, none⟩) (h - l) (cap - l), _, fun w' _ => ?_, ?_, hk⟩
          · simp only [execOp, ho, e3, Instr.sliceAt, Sem.run_bind, run_underlying' hu, Result.andThen_ok, Instr.slice, Option.map_none, hb, run_sizeOf' hie, Sem.run_pure, if_pos hm]
          · simp only [RepAV, Rd]
            refine ⟨[b], fun c hc => hS c (by simp at hc; simp [hc]), .inr ⟨b, off, cap - l, [], rfl, by rw [hlen], by rw [hlen]; omega, ?_⟩⟩
            rw [hempty]; rfl
        · refine ⟨.slice (some ⟨b, off + l * t.size, none⟩) (h - l) (cap - l), _, fun w' _ => ?_, ?_, hk⟩
          · simp only [execOp, ho, e3, Instr.sliceAt, Sem.run_bind, run_underlying' hu, Result.andThen_ok, Instr.slice, Option.map_none, hb, run_sizeOf' hie, Sem.run_pure, if_neg hm, hsz, Option.map_some, add_mk]
          · simp only [RepAV, Rd]
            refine ⟨b :: T3, fun c hc => ?_, .inr ⟨b, _, cap - l, T3, rfl, by rw [hlen], by rw [hlen]; omega, hrow'⟩⟩
            rcases List.mem_cons.1 hc with rfl | hc
            · exact hS _ (by simp)
            · exact hS c (by simp [hT c hc])
    · cases hk
  · -- build
    rename_i T parts ho
    split at hk
    · rename_i t fs ha
      split at hk
      · rename_i cs2 hf
        obtain ⟨it, gs, z, hit, hu, hsz, hz, hzc, hza, hfs, _⟩ := chk_struct (assoc_chk hc ha)
        obtain ⟨places, p1, p2⟩ := places_of hfs
        have hp : ∀ (f off FT : Nat), fieldOf c T f = some (off, FT) → ∃ i, P.info? FT = some i ∧ places[f]? = some (off, i.size) := fun f off FT h => by
          unfold fieldOf at h
          rw [ha] at h
          exact p2 f off FT h
        obtain ⟨vs2, q2, q3⟩ := fillRaw_ok hc hi hp parts.toList t.zeros cs2 _ (zeros_rep t hzc) hf
        refine ⟨.agg vs2.toArray, .agg cs2, fun w' _ => ?_, by simp only [RepAV]; exact ⟨vs2, rfl, q2⟩, hk⟩
        have hb : P.built T (parts.map fun (i, x) => (i, a.eval x)).toList = some vs2.toArray := by
          simp only [Program.built, hit, hu, hz, p1]
          have : z.cells.toList.toArray = z.cells := by simp
          rw [this] at q3
          rw [Array.toList_map]
          simpa using q3
        simp only [execOp, ho, Sem.run_bind, run_build w' T _ _ hb, Result.andThen_ok, Sem.run_pure]
      · cases hk
    · cases hk
  · cases hk

end
end Go.Proofs.Fw
