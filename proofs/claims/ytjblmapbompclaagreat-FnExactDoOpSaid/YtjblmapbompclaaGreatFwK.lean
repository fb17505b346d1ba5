/- Loads; slices of strings and of rows; lengths; smaller and greater. -/
import Derived.Test.YtjblmapbompclaaGreatFwJ
set_option linter.all false
namespace Go.Proofs.Fw
open Go

section
variable [GInv] {R : Type} {P : Program} {c : Cfg} {X : Ctx} {st : St} {a : Act} {w : World} {A : Nat → Prop} {W : Wit} {V : Nat → Value} {o : Oper} {k : St → Option R} {r : R} {Q : Exit → Act → World → Prop}
theorem one_agg (hc : chkAll P c.tab = true) {T : Nat} (h : isOne c T = true) (w : World) : (isAgg T).run P w = .ok false w := by
  unfold isOne at h
  split at h
  · rename_i ha
    have := assoc_chk hc ha
    simp only [chk] at this
    cases hi : P.info? T with
    | none => rw [hi] at this; simp at this
    | some i =>
      cases hu : P.underlying T with
      | none => rw [hi, hu] at this; simp at this
      | some d =>
        simp only [isAgg, Sem.run_bind, run_underlying' hu, Result.andThen_ok]
        rw [hi, hu] at this
        cases d <;> first | rfl | simp at this
  · cases h
theorem nth_rep : ∀ (n : Nat) {vs : List AV} {us : List Value}, RepL A W w vs us → nth n vs = .any ∨ ∃ u, us[n]? = some u ∧ RepAV A W w (nth n vs) u := by
  intro n vs
  induction vs generalizing n with
  | nil => intro us _; left; cases n <;> rfl
  | cons v vs ih =>
    intro us h
    simp only [RepL] at h
    obtain ⟨u, s, rfl, g1, g2⟩ := h
    cases n with
    | zero => exact .inr ⟨u, rfl, g1⟩
    | succ n => simpa [nth] using ih n g2
theorem op_load (hc : chkAll P c.tab = true) {T : Nat} {x : Operand} (hd : ∀ d : Nat, o.dst = some d → d < X.f.n) (ho : o.op = .load T x) (hi : Inv X st a w A W V)
    (hk : (match opnd X.f st x with
    | .ref id off => match tyOf c T with
      | none => bif isOne c T then match st.loc id with
        | some (.box cs) => match nth off cs with
          | .fn g cs => k (st.put X.f o.dst (.fn g cs))
          | .ref i n => k (st.put X.f o.dst (.ref i n))
          | _ => none
        | _ => none
        else none
      | some _ => loadK c (mem X.f.g c.opn) T (.ref id off) st fun v st => k (st.put X.f o.dst v)
    | a => loadK c (mem X.f.g c.opn) T a st fun v st => k (st.put X.f o.dst v)) = some r) : o.wp P a w (Post X k r) Q := by
  have hx := hi.opnd x
  have go : ∀ y, opnd X.f st x = y → loadK c (mem X.f.g c.opn) T y st (fun v st => k (st.put X.f o.dst v)) = some r → o.wp P a w (Post X k r) Q := fun y e hk => by
    rw [e] at hx
    obtain ⟨z, u, st', A', W', h1, h2, h3, h4⟩ := loadK_ok (op := mem X.f.g c.opn) hc hi hx hk
    refine wp_value hd (v := z) ?_ h2 h3 h4
    simp only [execOp, ho, Sem.run_bind, h1, Result.andThen_ok, Sem.run_pure]
  split at hk
  · rename_i id off e
    split at hk
    · obtain ⟨h1, hk⟩ := cond_some hk
      split at hk
      · rename_i cs hl
        rw [e] at hx
        simp only [RepAV] at hx
        obtain ⟨b, F, g1, g2⟩ := hx
        obtain ⟨b', vs, p1, p2, p3, p4⟩ := hi.rep.locs id _ _ g1 hl
        rw [g1] at p1
        simp only [Option.some.injEq, Prod.mk.injEq, LW.box.injEq] at p1
        obtain ⟨rfl, rfl⟩ := p1
        have fin : ∀ y, nth off cs = y → y ≠ .any → k (st.put X.f o.dst y) = some r → o.wp P a w (Post X k r) Q := fun y hy hne hk => by
          rcases nth_rep off p4 with hn | ⟨u, hu, hr⟩
          · exact absurd (hy.symm.trans hn) hne
          · rw [hy] at hr
            refine wp_value hd (v := u) ?_ hi hr hk
            obtain ⟨q1, q2⟩ := List.getElem?_eq_some_iff.1 hu
            have hcell := p2 off q1
            simp only [Nat.zero_add, q2] at hcell
            simp [execOp, ho, g2, Instr.loadAt, Instr.sureAddr, loadVar, one_agg hc h1, hcell]
        split at hk
        · rename_i hn; exact fin _ hn (by simp) hk
        · rename_i hn; exact fin _ hn (by simp) hk
        · cases hk
      · cases hk
    · exact go _ e hk
  · exact go _ rfl hk
theorem boundK_ok {x : Option AV} {u : Option Value} {d y : Nat} {kk : Nat → Option R} (hx : match x, u with | none, none => True | some x, some u => RepAV A W w x u | _, _ => False) (e : boundK x d y kk = some r) :
    (x = none ∧ u = none ∧ kk d = some r) ∨ ∃ j i, u = some (.int j i) ∧ 0 ≤ i ∧ i ≤ (y : Int) ∧ kk i.toNat = some r := by
  cases x with
  | none =>
    cases u with
    | none => exact .inl ⟨rfl, rfl, e⟩
    | some u => exact hx.elim
  | some x =>
    cases u with
    | none => exact hx.elim
    | some u =>
      unfold boundK at e
      split at e
      · simp_all
      · rename_i j i he
        simp only [Option.some.injEq] at he
        subst he
        obtain ⟨h1, e⟩ := cond_some e
        simp only [Bool.and_eq_true, decide_eq_true_eq] at h1
        simp only at hx
        exact .inr ⟨j, i, by rw [hx.int], h1.1, h1.2, e⟩
      · cases e
theorem opt_rep (hi : Inv X st a w A W V) (lo : Option Operand) : match lo.map (opnd X.f st), lo.map a.eval with | none, none => True | some x, some u => RepAV A W w x u | _, _ => False := by
  cases lo with
  | none => trivial
  | some x => exact hi.opnd x
theorem run_bound {i : Int} {j : IntKind} {y : Nat} {code : BoundsCode} (h0 : 0 ≤ i) (h1 : i ≤ (y : Int)) : (Instr.sliceBound (.int j i) y code).run P w = .ok i.toNat w := by
  simp [Instr.sliceBound, asIntOf, h0, h1]
theorem run_bounds {isS : Bool} {len cap hm : Nat} {lo hi : Option Value} {l h : Nat} (hh : (hi = none ∧ h = len) ∨ ∃ j i, hi = some (.int j i) ∧ 0 ≤ i ∧ i ≤ (cap : Int) ∧ h = i.toNat)
    (hl : (lo = none ∧ l = 0) ∨ ∃ j i, lo = some (.int j i) ∧ 0 ≤ i ∧ i ≤ (h : Int) ∧ l = i.toNat) :
    (Instr.sliceBounds isS len cap lo hi none).run P w = .ok (l, h, cap) w := by
  rcases hh with ⟨rfl, rfl⟩ | ⟨j, i, rfl, h0, h1, rfl⟩ <;> rcases hl with ⟨rfl, rfl⟩ | ⟨j', i', rfl, g0, g1, rfl⟩
  · simp [Instr.sliceBounds]
  · simp [Instr.sliceBounds, run_bound g0 g1]
  · simp [Instr.sliceBounds, run_bound h0 h1]
  · simp [Instr.sliceBounds, run_bound h0 h1, run_bound g0 g1]
theorem extract_mk (s : List UInt8) (l h : Nat) : (⟨s.toArray⟩ : ByteArray).extract l h = ⟨((s.take h).drop l).toArray⟩ := by
  apply ByteArray.ext
  simp [ByteArray.data_extract, List.drop_take]
theorem Inv.rerow (hi : Inv X st a w A W V) {id : Nat} {lw lw' : LW} {F F' : List Nat} {l : Loc} {w' : World} (hW : W id = some (lw, F)) (hnb : ∀ b, lw ≠ .box b) (hk : Kept X.M w w')
    (hsame : ∀ b, b < w.heap.size → b ∉ F' → w'.heap[b]? = w.heap[b]?) (hF : F'.Nodup) (hown : ∀ b ∈ F', b < w'.heap.size ∧ X.M b ∧ ¬ A b)
    (hap : ∀ j lwj Fj, j ≠ id → W j = some (lwj, Fj) → ∀ b ∈ F', b ∉ Fj) (hl : ∀ W', W' id = some (lw', F') → (∀ j lw F, j ≠ id → W j = some (lw, F) → W' j = some (lw, F)) → LocRep A W' w' id l) :
    ∃ W', Inv X ((st.ev (.kill id)).ev (.loc id l)) a w' A W' V ∧ W' id = some (lw', F') ∧ (∀ j, j ≠ id → W' j = W j) := by
  have hbx : ∀ b F, W id ≠ some (.box b, F) := fun b F e => by rw [hW] at e; cases e; exact hnb b rfl
  have h1 := hi.rep.kill hbx
  have hlt : id < st.nl := by
    rcases Nat.lt_or_ge id st.nl with h | h
    · exact h
    · have := hi.rep.fresh id h; rw [hW] at this; cases this
  have hne : ∀ j lwj Fj, updW W id none j = some (lwj, Fj) → j ≠ id ∧ W j = some (lwj, Fj) := fun j lwj Fj e => by
    by_cases e' : j = id
    · subst e'; rw [updW_same] at e; cases e
    · exact ⟨e', by rw [updW_other e'] at e; exact e⟩
  have h2 := h1.reset (w' := w') (l := l) (lw := lw') (F := F') (updW_same _ _ _) hlt hk.size hsame hF hown (fun j lwj Fj hj e => hap j lwj Fj hj (hne j lwj Fj e).2)
    (hl _ (updW_same _ _ _) (fun j lw F hj e => by rw [updW_other hj, updW_other hj]; exact e))
  refine ⟨_, hi.turn h2 (Nat.le_refl _) hk (fun _ h => h) (fun _ h => .inl h) (fun j b F e => ?_) (hs := fun b hb => hsame b (hi.old hb) (fun hF' => hb.elim (fun hA => (hown b hF').2.2 hA) (fun ⟨j, _, e⟩ => hap j _ _ (fun e' => by subst e'; exact hbx _ _ e) e b hF' (by simp)))), updW_same _ _ _, fun j hj => by rw [updW_other hj, updW_other hj]⟩
  have hj : j ≠ id := fun e' => by subst e'; exact hbx b F e
  rw [updW_other hj, updW_other hj]; exact e
theorem cut_list {α : Type} (xs : List α) (l h : Nat) (hlh : l ≤ h) : xs = xs.take l ++ ((xs.take h).drop l ++ xs.drop h) := by
  have := List.take_append_drop l (xs.take h)
  rw [List.take_take, Nat.min_eq_left hlh] at this
  rw [← List.append_assoc, this, List.take_append_drop]
theorem cut_ok (hi : Inv X st a w A W V) {id : Nat} {t : Ty} {xs : List t.den} {dp : Bool} {lw : LW} {F : List Nat} (hW : W id = some (lw, F)) (hl : st.loc id = some (.row t xs dp)) (l h : Nat) (hlh : l ≤ h) (hh : h ≤ xs.length) :
    ∃ (W' : Wit) (lw' : LW), Inv X ((st.ev (.kill id)).ev (.loc id (.row t ((xs.take h).drop l) dp))) a w A W' V ∧ RepAV A W' w (.row id) lw'.val ∧
      ((lw = .nil ∧ lw' = .nil ∧ xs = []) ∨ ∃ b off cap, lw = .row b off t.size xs.length cap ∧ xs.length ≤ cap ∧ lw'.val = .slice (if cap = l then some ⟨b, off, none⟩ else some ⟨b, off + l * t.size, none⟩) (h - l) (cap - l)) := by
  have hr := hi.rep
  rcases hr.locs id _ _ hW hl with ⟨g1, g2⟩ | ⟨b, off, cap, S', g1, g2, g3, g4, g5, g6⟩
  · rw [hW] at g1
    simp only [Option.some.injEq, Prod.mk.injEq] at g1
    obtain ⟨rfl, rfl⟩ := g1
    subst g2
    obtain ⟨W', h1, h2, h3⟩ := hi.rerow (lw' := .nil) (F' := []) (l := .row t (([].take h).drop l) dp) hW (fun b e => by cases e) (Kept.refl _ _) (fun _ _ _ => rfl) (by simp) (by simp) (by simp) (fun W' e _ => .inl ⟨e, by simp⟩)
    exact ⟨W', .nil, h1, by simp only [RepAV]; exact ⟨.nil, [], h2, fun b e => (by cases e), rfl⟩, .inl ⟨rfl, rfl, rfl⟩⟩
  · rw [hW] at g1
    simp only [Option.some.injEq, Prod.mk.injEq] at g1
    obtain ⟨rfl, rfl⟩ := g1
    have hlen : ((xs.take h).drop l).length = h - l := by simp; omega
    obtain ⟨T1, T3, T4, eS, q3⟩ : ∃ T1 T3 T4, S' = T1 ++ (T3 ++ T4) ∧ RdRow (ERd dp w t) w b t.size (off + l * t.size) ((xs.take h).drop l) T3 := by
      rw [cut_list xs l h hlh] at g5
      obtain ⟨T1, T2, e5, _, q2⟩ := g5.split
      obtain ⟨T3, T4, e6, q3, _⟩ := q2.split
      have : (xs.take l).length = l := by simp; omega
      rw [this] at q3
      exact ⟨T1, T3, T4, by rw [e5, e6], q3⟩
    have nd := hr.nodup id _ _ hW
    have hfo : ∀ c ∈ b :: (if dp = true then T3 else []), c ∈ b :: (if dp = true then S' else []) := fun c hc => by
      cases dp <;> simp at hc ⊢
      · exact hc
      · rcases hc with h | h
        · exact .inl h
        · exact .inr (by rw [eS]; simp [h])
    have nd' : (b :: (if dp = true then T3 else [])).Nodup := by
      cases dp with
      | false => simp
      | true =>
        simp only [if_true] at nd ⊢
        rw [eS] at nd
        rw [List.nodup_cons] at nd ⊢
        exact ⟨fun h => nd.1 (by simp [h]), (List.nodup_append.1 (List.nodup_append.1 nd.2).2.1).1⟩
    let off' := if cap = l then off else off + l * t.size
    have hrow : RdRow (ERd dp w t) w b t.size off' ((xs.take h).drop l) T3 := by
      by_cases hm : cap = l
      · have he : (xs.take h).drop l = [] := List.eq_nil_of_length_eq_zero (by rw [hlen]; omega)
        rw [he] at q3 ⊢
        simpa only [RdRow] using q3
      · simp only [off', if_neg hm]; exact q3
    obtain ⟨W', h1, h2, h3⟩ := hi.rerow (lw' := .row b off' t.size ((xs.take h).drop l).length (cap - l)) (F' := b :: (if dp = true then T3 else [])) (l := .row t ((xs.take h).drop l) dp) (w' := w) hW (fun b e => by cases e) (Kept.refl _ _) (fun _ _ _ => rfl) nd'
      (fun c hc => hr.own id _ _ hW c (hfo c hc)) (fun j lwj Fj hj e c hc => hr.apart id j _ _ _ _ (Ne.symm hj) hW e c (hfo c hc))
      (fun W' e _ => .inr ⟨b, off', cap - l, T3, e, by rw [hlen]; omega, fun i hi' => by
          by_cases hm : cap = l
          · simp [hm] at hi'
          · simp only [off', if_neg hm]
            rw [Nat.sub_mul] at hi'
            rw [Nat.add_assoc]
            have : l * t.size ≤ cap * t.size := Nat.mul_le_mul_right _ (by omega)
            exact g3 (l * t.size + i) (by omega), ⟨fun i hi' => by
          by_cases hm : cap = l
          · simp [hm] at hi'
          · simp only [off', if_neg hm]
            rw [Nat.sub_mul] at hi'
            rw [Nat.add_assoc]
            have : l * t.size ≤ cap * t.size := Nat.mul_le_mul_right _ (by omega)
            exact g4.1 (l * t.size + i) (by omega), fun e => ⟨(g4.2 e).1, by have := (g4.2 e).2; omega⟩⟩, hrow, fun e c hc => g6 e c (by rw [eS]; simp [hc])⟩)
    refine ⟨W', _, h1, by simp only [RepAV]; exact ⟨_, _, h2, fun b e => (by cases e), rfl⟩, .inr ⟨b, off, cap, rfl, g2, ?_⟩⟩
    simp only [LW.val, hlen, off']
    split <;> rfl
theorem op_slice (hc : chkAll P c.tab = true) {T : Nat} {x : Operand} {lo hi' : Option Operand} (hd : ∀ d : Nat, o.dst = some d → d < X.f.n) (ho : o.op = .slice T x lo hi' none) (hi : Inv X st a w A W V)
    (hk : sliceK c T X.f o (opnd X.f st x) (lo.map (opnd X.f st)) (hi'.map (opnd X.f st)) st k = some r) : o.wp P a w (Post X k r) Q := by
  have hx := hi.opnd x
  have hlo := opt_rep hi lo
  have hhi := opt_rep hi hi'
  unfold sliceK at hk
  split at hk
  · rename_i s e
    rw [e] at hx
    obtain ⟨hl, hk⟩ := cond_some hk
    have hu := leaf_str hc hl
    have b1 := boundK_ok hhi hk
    obtain ⟨h, hh, hle, hk⟩ : ∃ h, ((hi'.map a.eval = none ∧ h = s.length) ∨ ∃ j i, hi'.map a.eval = some (.int j i) ∧ 0 ≤ i ∧ i ≤ (s.length : Int) ∧ h = i.toNat) ∧ h ≤ s.length ∧
        boundK (lo.map (opnd X.f st)) 0 h (fun l => k (st.put X.f o.dst (.d .str ((s.take h).drop l)))) = some r := by
      rcases b1 with ⟨_, h2, h3⟩ | ⟨j, i, h2, h3, h4, h5⟩
      · exact ⟨s.length, .inl ⟨h2, rfl⟩, Nat.le_refl _, h3⟩
      · exact ⟨i.toNat, .inr ⟨j, i, h2, h3, h4, rfl⟩, by omega, h5⟩
    have b2 := boundK_ok hlo hk
    obtain ⟨l, hl', hk⟩ : ∃ l, ((lo.map a.eval = none ∧ l = 0) ∨ ∃ j i, lo.map a.eval = some (.int j i) ∧ 0 ≤ i ∧ i ≤ (h : Int) ∧ l = i.toNat) ∧ k (st.put X.f o.dst (.d .str ((s.take h).drop l))) = some r := by
      rcases b2 with ⟨_, h2, h3⟩ | ⟨j, i, h2, h3, h4, h5⟩
      · exact ⟨0, .inl ⟨h2, rfl⟩, h3⟩
      · exact ⟨i.toNat, .inr ⟨j, i, h2, h3, h4, rfl⟩, h5⟩
    refine wp_value hd (v := .string ⟨((s.take h).drop l).toArray⟩) ?_ hi (RepAV.mkStr _) hk
    have hsz : (ByteArray.mk s.toArray).size = s.length := by simp [ByteArray.size]
    simp [execOp, ho, hx.str, Instr.sliceAt, run_underlying' hu, Instr.slice, hsz, run_bounds (P := P) (hm := 0) hh hl', extract_mk]
  · rename_i t xs e
    rw [e] at hx
    obtain ⟨hl, hk⟩ := cond_some hk
    obtain ⟨el, ie, ze, hu, _, hie, hsz, _⟩ := elemAt_get hc hl
    obtain ⟨S, hS, hr⟩ := hx.dval
    simp only [Rd] at hr
    have b1 := boundK_ok hhi hk
    obtain ⟨h, hh, hle, hk⟩ : ∃ h, (∀ cap, xs.length ≤ cap → (hi'.map a.eval = none ∧ h = xs.length) ∨ ∃ j i, hi'.map a.eval = some (.int j i) ∧ 0 ≤ i ∧ i ≤ (cap : Int) ∧ h = i.toNat) ∧ h ≤ xs.length ∧
        boundK (lo.map (opnd X.f st)) 0 h (fun l => k (st.put X.f o.dst (.d (.sl t) ((xs.take h).drop l)))) = some r := by
      rcases b1 with ⟨_, h2, h3⟩ | ⟨j, i, h2, h3, h4, h5⟩
      · exact ⟨xs.length, fun _ _ => .inl ⟨h2, rfl⟩, Nat.le_refl _, h3⟩
      · exact ⟨i.toNat, fun cap hcap => .inr ⟨j, i, h2, h3, by omega, rfl⟩, by omega, h5⟩
    have b2 := boundK_ok hlo hk
    obtain ⟨l, hl', hlh, hk⟩ : ∃ l, ((lo.map a.eval = none ∧ l = 0) ∨ ∃ j i, lo.map a.eval = some (.int j i) ∧ 0 ≤ i ∧ i ≤ (h : Int) ∧ l = i.toNat) ∧ l ≤ h ∧ k (st.put X.f o.dst (.d (.sl t) ((xs.take h).drop l))) = some r := by
      rcases b2 with ⟨_, h2, h3⟩ | ⟨j, i, h2, h3, h4, h5⟩
      · exact ⟨0, .inl ⟨h2, rfl⟩, Nat.zero_le _, h3⟩
      · exact ⟨i.toNat, .inr ⟨j, i, h2, h3, h4, rfl⟩, by omega, h5⟩
    rcases hr with ⟨rfl, rfl, ad, e3⟩ | ⟨b, off, cap, S', rfl, e3, hcap, hrow⟩
    · simp only [List.cons.injEq, and_true] at e3
      have h0 : h = 0 := by simpa using hle
      subst h0
      have l0 : l = 0 := by omega
      subst l0
      refine wp_value hd (v := .slice ad 0 0) ?_ hi (by simp only [RepAV, Rd]; exact ⟨[], by simp, .inl ⟨by simp, rfl, ad, rfl⟩⟩) hk
      have hb : (Instr.sliceBounds true 0 0 (lo.map a.eval) (hi'.map a.eval) none).run P w = .ok (0, 0, 0) w := run_bounds (hm := 0) (hh 0 (by simp)) hl'
      cases ad <;> simp [execOp, ho, e3, Instr.sliceAt, run_underlying' hu, Instr.slice, hb, run_sizeOf' hie]
    · simp only [List.cons.injEq, and_true] at e3
      have hlen : ((xs.take h).drop l).length = h - l := by simp; omega
      have hrow' : ∃ T, RdRow (Rd w t) w b t.size (off + l * t.size) ((xs.take h).drop l) T ∧ ∀ c ∈ T, c ∈ S' := by
        have e4 : xs = (xs.take l) ++ (((xs.take h).drop l) ++ xs.drop h) := by
          have := List.take_append_drop l (xs.take h)
          rw [List.take_take, Nat.min_eq_left hlh] at this
          rw [← List.append_assoc, this, List.take_append_drop]
        rw [e4] at hrow
        obtain ⟨T1, T2, e5, _, q2⟩ := hrow.split
        obtain ⟨T3, T4, e6, q3, _⟩ := q2.split
        refine ⟨T3, ?_, fun c hc => by rw [e5, e6]; simp [hc]⟩
        have : (xs.take l).length = l := by simp; omega
        rwa [this] at q3
      obtain ⟨T3, hrow', hT⟩ := hrow'
      have hb : (Instr.sliceBounds true xs.length cap (lo.map a.eval) (hi'.map a.eval) none).run P w = .ok (l, h, cap) w := run_bounds (hm := 0) (hh cap hcap) hl'
      by_cases hm : cap = l
      · have hz : h = l := by omega
        have hempty : (xs.take h).drop l = [] := List.eq_nil_of_length_eq_zero (by rw [hlen]; omega)
        refine wp_value hd (v := .slice (some ⟨b, off, none⟩) (h - l) (cap - l)) ?_ hi ?_ hk
        · simp only [execOp, ho, e3, Instr.sliceAt, Sem.run_bind, run_underlying' hu, Result.andThen_ok, Instr.slice, Option.map_none, hb, run_sizeOf' hie, Sem.run_pure, if_pos hm]
        · simp only [RepAV, Rd]
          refine ⟨[b], fun c hc => hS c (by simp at hc; simp [hc]), .inr ⟨b, off, cap - l, [], rfl, by rw [hlen], by rw [hlen]; omega, ?_⟩⟩
          rw [hempty]; rfl
      · refine wp_value hd (v := .slice (some ⟨b, off + l * t.size, none⟩) (h - l) (cap - l)) ?_ hi ?_ hk
        · simp only [execOp, ho, e3, Instr.sliceAt, Sem.run_bind, run_underlying' hu, Result.andThen_ok, Instr.slice, Option.map_none, hb, run_sizeOf' hie, Sem.run_pure, if_neg hm, hsz, Option.map_some, add_mk]
        · simp only [RepAV, Rd]
          refine ⟨b :: T3, fun c hc => ?_, .inr ⟨b, _, cap - l, T3, rfl, by rw [hlen], by rw [hlen]; omega, hrow'⟩⟩
          rcases List.mem_cons.1 hc with rfl | hc
          · exact hS _ (by simp)
          · exact hS c (by simp [hT c hc])
  · rename_i id e
    rw [e] at hx
    obtain ⟨lw, F, hW, hnb, hv⟩ := hi.rep.row_live hx
    split at hk
    · rename_i t xs dp hloc
      obtain ⟨hl, hk⟩ := cond_some hk
      obtain ⟨el, ie, ze, hu, _, hie, hsz, _⟩ := elemAt_get hc hl
      have fin : ∀ (l h : Nat), l ≤ h → h ≤ xs.length → (∀ cap, xs.length ≤ cap → (Instr.sliceBounds true xs.length cap (lo.map a.eval) (hi'.map a.eval) none).run P w = .ok (l, h, cap) w) →
          k (((st.ev (.kill id)).ev (.loc id (.row t ((xs.take h).drop l) dp))).put X.f o.dst (.row id)) = some r → o.wp P a w (Post X k r) Q := fun l h hlh hh hb hk => by
        obtain ⟨W', lw', h1, h2, h3⟩ := cut_ok hi hW hloc l h hlh hh
        refine wp_value hd ?_ h1 h2 hk
        rcases h3 with ⟨rfl, rfl, rfl⟩ | ⟨b, off, cap, rfl, hcap, h3⟩
        · have h0 : h = 0 := by simpa using hh
          subst h0
          have l0 : l = 0 := by omega
          subst l0
          have := hb 0 (by simp)
          simp only [List.length_nil] at this
          simp [execOp, ho, hv, LW.val, Instr.sliceAt, run_underlying' hu, Instr.slice, this, run_sizeOf' hie]
        · have := hb cap hcap
          rw [h3]
          simp only [execOp, ho, hv, LW.val, Instr.sliceAt, Sem.run_bind, run_underlying' hu, Result.andThen_ok, Instr.slice, Option.map_none, this, run_sizeOf' hie, Sem.run_pure, hsz]
          by_cases hm : cap = l
          · simp [hm]
          · simp [hm, add_mk]
      split at hk
      · rename_i e2
        have hn : hi'.map a.eval = none := by cases hi' <;> simp_all
        rcases boundK_ok hlo hk with ⟨_, g2, g3⟩ | ⟨j, i, g2, g3, g4, g5⟩
        · refine fin 0 xs.length (Nat.zero_le _) (Nat.le_refl _) (fun cap _ => run_bounds (hm := 0) (.inl ⟨hn, rfl⟩) (.inl ⟨g2, rfl⟩)) ?_
          simpa using g3
        · refine fin i.toNat xs.length (by omega) (Nat.le_refl _) (fun cap _ => run_bounds (hm := 0) (.inl ⟨hn, rfl⟩) (.inr ⟨j, i, g2, g3, g4, rfl⟩)) ?_
          simpa using g5
      · rename_i y e1 e2
        have hn : lo.map a.eval = none := by cases lo <;> simp_all
        rw [e2] at hhi
        rcases boundK_ok hhi hk with ⟨g1, _⟩ | ⟨j, i, g2, g3, g4, g5⟩
        · cases g1
        · refine fin 0 i.toNat (Nat.zero_le _) (by omega) (fun cap hcap => run_bounds (hm := 0) (.inr ⟨j, i, g2, g3, by omega, rfl⟩) (.inl ⟨hn, rfl⟩)) ?_
          simpa using g5
      · cases hk
    · cases hk
  · cases hk

end
end Go.Proofs.Fw
