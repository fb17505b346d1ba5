/- Operations, one lemma each: what the abstract step says, the machine's does. -/
import Derived.Test.YtjblmapbompclaaGreatFwG
import Derived.WalkSpells
import Derived.Lib.SliceRun
set_option linter.all false
namespace Go.Proofs.Fw
open Go

section
variable [GInv] {R : Type} {P : Program} {c : Cfg} {X : Ctx} {st : St} {a : Act} {w : World} {A : Nat → Prop} {W : Wit} {V : Nat → Value} {o : Oper} {k : St → Option R} {r : R} {Q : Exit → Act → World → Prop}
theorem RepAV.dval {t : Ty} {x : t.den} {v : Value} (h : RepAV A W w (.d t x) v) : ∃ S, (∀ b ∈ S, A b) ∧ Rd w t x S [v] := by simpa only [RepAV] using h
theorem RepAV.bool {b : Bool} {v : Value} (h : RepAV A W w (.d .bool b) v) : v = .bool b := by
  obtain ⟨S, _, h⟩ := h.dval; simp only [Rd] at h; simpa using h.2
theorem RepAV.int {j : IntKind} {n : Int} {v : Value} (h : RepAV A W w (.d (.int j) n) v) : v = .int j n := by
  obtain ⟨S, _, h⟩ := h.dval; simp only [Rd] at h; simpa using h.2
theorem RepAV.str {l : List UInt8} {v : Value} (h : RepAV A W w (.d .str l) v) : v = .string ⟨l.toArray⟩ := by
  obtain ⟨S, _, h⟩ := h.dval; simp only [Rd] at h; simpa using h.2
theorem RepAV.mkBool (b : Bool) : RepAV A W w (.d .bool b) (.bool b) := by simp only [RepAV, Rd]; exact ⟨[], by simp, by simp⟩
theorem RepAV.mkInt (j : IntKind) (n : Int) : RepAV A W w (.d (.int j) n) (.int j n) := by simp only [RepAV, Rd]; exact ⟨[], by simp, by simp⟩
theorem RepAV.mkStr (l : List UInt8) : RepAV A W w (.d .str l) (.string ⟨l.toArray⟩) := by simp only [RepAV, Rd]; exact ⟨[], by simp, by simp⟩
theorem RepAV.err {b : Bool} {v : Value} (h : RepAV A W w (.d .err b) v) : (b = true ∧ v = .nilIface) ∨ (b = false ∧ ∃ t u, v = .iface t u) := by
  obtain ⟨S, _, h⟩ := h.dval; simp only [Rd] at h; simpa using h.2
theorem Inv.newNil (hi : Inv X st a w A W V) (t : Ty) : Inv X (st.newLoc (.row t [] true)) a w A (updW W st.nl (some (.nil, []))) V ∧ RepAV A (updW W st.nl (some (.nil, []))) w (.row st.nl) (.slice none 0 0) := by
  refine ⟨hi.turn (hi.rep.newNil t) (Nat.le_refl _) (Kept.refl _ _) (fun _ h => h) (fun _ h => .inl h) (fun j b F e => ?_), ?_⟩
  · rw [updW_other (fun e' => ?_), e]
    rw [e', hi.rep.fresh st.nl (Nat.le_refl _)] at e; cases e
  · simp only [RepAV]
    exact ⟨.nil, [], updW_same _ _ _, fun b e => (by cases e), rfl⟩
theorem matAV_ok (hi : Inv X st a w A W V) {T : Nat} {v v' : AV} {st' : St} {u : Value} (hv : RepAV A W w v u) (e : matAV c T v st = (v', st')) : ∃ W', Inv X st' a w A W' V ∧ RepAV A W' w v' u := by
  unfold matAV at e
  split at e
  · split at e
    · rename_i t _
      simp only [Prod.mk.injEq] at e
      obtain ⟨rfl, rfl⟩ := e
      obtain ⟨h1, h2⟩ := hi.newNil t
      refine ⟨_, h1, ?_⟩
      simp only [RepAV] at hv; subst hv; exact h2
    · simp only [Prod.mk.injEq] at e
      obtain ⟨rfl, rfl⟩ := e
      exact ⟨W, hi, by simp [RepAV]⟩
  · simp only [Prod.mk.injEq] at e
    obtain ⟨rfl, rfl⟩ := e
    exact ⟨W, hi, hv⟩
theorem op_move {x : Operand} (hd : ∀ d : Nat, o.dst = some d → d < X.f.n) (ho : o.op = .move x ∨ o.op = .assign x) (hi : Inv X st a w A W V)
    (hk : (match matAV c o.type (opnd X.f st x) st with | (v, st) => k (st.put X.f o.dst v)) = some r) : o.wp P a w (Post X k r) Q := by
  rcases e : matAV c o.type (opnd X.f st x) st with ⟨v', st'⟩
  rw [e] at hk
  obtain ⟨W', h1, h2⟩ := matAV_ok hi (hi.opnd x) e
  refine wp_value hd (v := a.eval x) ?_ h1 h2 hk
  rcases ho with ho | ho <;> simp [execOp, ho]
theorem op_pick {x y z : Operand} (hd : ∀ d : Nat, o.dst = some d → d < X.f.n) (ho : o.op = .pick x y z) (hi : Inv X st a w A W V)
    (hk : (match opnd X.f st x with | .d .bool t => bif t then k (st.put X.f o.dst (opnd X.f st y)) else k (st.put X.f o.dst (opnd X.f st z)) | _ => none) = some r) : o.wp P a w (Post X k r) Q := by
  have hx := hi.opnd x
  split at hk
  · rename_i t e
    rw [e] at hx
    have hb := hx.bool
    cases t with
    | true => exact wp_value hd (v := a.eval y) (by simp [execOp, ho, hb, asBool]) hi (hi.opnd y) hk
    | false => exact wp_value hd (v := a.eval z) (by simp [execOp, ho, hb, asBool]) hi (hi.opnd z) hk
  · cases hk
theorem op_nilCheck {x : Operand} (hd : ∀ d : Nat, o.dst = some d → d < X.f.n) (ho : o.op = .nilCheck x) (hi : Inv X st a w A W V)
    (hk : (match opnd X.f st x with
      | .ref id off => k (st.put X.f o.dst (.ref id off))
      | .eref id i off => k (st.put X.f o.dst (.eref id i off))
      | .dref t x off => k (st.put X.f o.dst (.dref t x off))
      | .fn g cs => k (st.put X.f o.dst (.fn g cs))
      | _ => none) = some r) : o.wp P a w (Post X k r) Q := by
  have hx := hi.opnd x
  split at hk
  · rename_i e; rw [e] at hx
    have hx' := hx
    simp only [RepAV] at hx
    obtain ⟨b, F, _, hv⟩ := hx
    exact wp_value hd (v := a.eval x) (by simp [execOp, ho, hv]) hi hx' hk
  · rename_i e; rw [e] at hx
    have hx' := hx
    simp only [RepAV] at hx
    obtain ⟨b, _, _, _, _, F, _, _, hv⟩ := hx
    exact wp_value hd (v := a.eval x) (by simp [execOp, ho, hv]) hi hx' hk
  · rename_i e; rw [e] at hx
    have hx' := hx
    simp only [RepAV] at hx
    obtain ⟨b, _, _, _, _, _, hv, _⟩ := hx
    exact wp_value hd (v := a.eval x) (by simp [execOp, ho, hv]) hi hx' hk
  · rename_i e; rw [e] at hx
    have hx' := hx
    simp only [RepAV] at hx
    obtain ⟨vs, hv, _⟩ := hx
    exact wp_value hd (v := a.eval x) (by simp [execOp, ho, hv]) hi hx' hk
  · cases hk
theorem toList_mk (l : List UInt8) : (⟨l.toArray⟩ : ByteArray).toList = l := by
  rw [ByteArray.toList_eq]
theorem intDiv_run {op : BinOp} {j : IntKind} {x y : Int} (hy : y ≠ 0) : (Op.intDiv .quo j x y).run P w = .ok (.int j (j.wrap (x.tdiv y))) w ∧ (Op.intDiv .rem j x y).run P w = .ok (.int j (x.tmod y)) w := by
  simp [Op.intDiv, hy]
theorem bits_run (op : BinOp) (j : IntKind) (x y : Int) (h : op = .and ∨ op = .or ∨ op = .xor ∨ op = .andNot) : (Op.intBits op j x y).run P w = .ok (.int j (bitsOf op j x y)) w := by
  rcases h with h | h | h | h <;> subst h <;> rfl
theorem binAV_ok {op : BinOp} {x y v : AV} {T : TypeId} {ox oy : Operand} {u u' : Value} (hx : RepAV A W w x u) (hy : RepAV A W w y u') (e : binAV op x y = some v) :
    ∃ z, (∀ w0, (do eqGuard op T ox oy u u'; binOp op T u u' : Sem Value).run P w0 = .ok z w0) ∧ RepAV A W w v z := by
  unfold binAV at e
  split at e
  · rename_i j m j' n
    have e1 := hx.int
    have e2 := hy.int
    subst e1 e2
    simp only [eqGuard_at_int, pure_bind]
    split at e
    · rename_i hj
      subst hj
      cases op with
      | add => simp only [Option.some.injEq] at e; subst e; exact ⟨_, (fun w0 => by simp [binOp, Op.intArith]), RepAV.mkInt _ _⟩
      | sub => simp only [Option.some.injEq] at e; subst e; exact ⟨_, (fun w0 => by simp [binOp, Op.intArith]), RepAV.mkInt _ _⟩
      | mul => simp only [Option.some.injEq] at e; subst e; exact ⟨_, (fun w0 => by simp [binOp, Op.intArith]), RepAV.mkInt _ _⟩
      | eql => simp only [Option.some.injEq] at e; subst e; exact ⟨_, (fun w0 => by simp [binOp, Op.intCmp]), RepAV.mkBool _⟩
      | neq => simp only [Option.some.injEq] at e; subst e; exact ⟨_, (fun w0 => by simp [binOp, Op.intCmp]), RepAV.mkBool _⟩
      | lss => simp only [Option.some.injEq] at e; subst e; exact ⟨_, (fun w0 => by simp [binOp, Op.intCmp]), RepAV.mkBool _⟩
      | leq => simp only [Option.some.injEq] at e; subst e; exact ⟨_, (fun w0 => by simp [binOp, Op.intCmp]), RepAV.mkBool _⟩
      | gtr => simp only [Option.some.injEq] at e; subst e; exact ⟨_, (fun w0 => by simp [binOp, Op.intCmp]), RepAV.mkBool _⟩
      | geq => simp only [Option.some.injEq] at e; subst e; exact ⟨_, (fun w0 => by simp [binOp, Op.intCmp]), RepAV.mkBool _⟩
      | and => simp only [Option.some.injEq] at e; subst e; exact ⟨_, (fun w0 => by rw [binOp_and]; exact bits_run _ _ _ _ (by simp)), RepAV.mkInt _ _⟩
      | or => simp only [Option.some.injEq] at e; subst e; exact ⟨_, (fun w0 => by rw [binOp_or]; exact bits_run _ _ _ _ (by simp)), RepAV.mkInt _ _⟩
      | xor => simp only [Option.some.injEq] at e; subst e; exact ⟨_, (fun w0 => by rw [binOp_xor]; exact bits_run _ _ _ _ (by simp)), RepAV.mkInt _ _⟩
      | andNot => simp only [Option.some.injEq] at e; subst e; exact ⟨_, (fun w0 => by rw [binOp_andNot]; exact bits_run _ _ _ _ (by simp)), RepAV.mkInt _ _⟩
      | _ => cases e
    · cases e
  · rename_i m n
    have e1 := hx.str
    have e2 := hy.str
    subst e1 e2
    simp only [eqGuard_at_string, pure_bind]
    cases op with
    | eql => simp only [Option.some.injEq] at e; subst e; exact ⟨_, (fun w0 => by simp [binOp, Op.stringOp, toList_mk]), RepAV.mkBool _⟩
    | neq => simp only [Option.some.injEq] at e; subst e; exact ⟨_, (fun w0 => by simp [binOp, Op.stringOp, toList_mk]), RepAV.mkBool _⟩
    | lss => simp only [Option.some.injEq] at e; subst e; exact ⟨_, (fun w0 => by simp [binOp, Op.stringOp, toList_mk]), RepAV.mkBool _⟩
    | leq => simp only [Option.some.injEq] at e; subst e; exact ⟨_, (fun w0 => by simp [binOp, Op.stringOp, toList_mk]), RepAV.mkBool _⟩
    | gtr => simp only [Option.some.injEq] at e; subst e; exact ⟨_, (fun w0 => by simp [binOp, Op.stringOp, toList_mk]), RepAV.mkBool _⟩
    | geq => simp only [Option.some.injEq] at e; subst e; exact ⟨_, (fun w0 => by simp [binOp, Op.stringOp, toList_mk]), RepAV.mkBool _⟩
    | _ => cases e
  · cases e
theorem leafAt_desc (hc : chkAll P c.tab = true) {T : Nat} {t : Ty} (h : leafAt c T t = true) (hs : t.flat = true) : ∃ d, P.underlying T = some d ∧ leafIs t d = true := by
  unfold leafAt at h
  split at h
  · rename_i u hu
    have := of_decide_eq_true h
    subst this
    unfold tyOf at hu
    cases ha : assoc T c.tab with
    | none => rw [ha] at hu; simp at hu
    | some i =>
      rw [ha] at hu
      have hk := assoc_chk hc ha
      cases i with
      | leaf t' =>
        simp only [TyI.ty, Option.some.injEq, Prod.mk.injEq, true_and] at hu
        subst hu
        obtain ⟨i, d, z, _, hd, _, _, _, _, h4⟩ := chk_leaf hk
        exact ⟨d, hd, h4⟩
      | slice e t' b =>
        simp only [TyI.ty, Option.some.injEq, Prod.mk.injEq, true_and] at hu
        subst hu
        simp [Ty.flat] at hs
      | struct t' fs => simp [TyI.ty] at hu
      | one => simp [TyI.ty] at hu
      | map _ => simp [TyI.ty] at hu
  · cases h
def eqFacts (P : Program) (tab : List (Nat × TyI)) : List Nat → Bool
  | [] => true
  | T :: r => !P.stoodInHeld T && !P.eqGuardType P.depth T && (match P.underlying T with | some (.struct fs) => fs.toList.all (fun f => !(f.name == "_")) | _ => false) && eqFacts P tab r
theorem mem_facts {tab : List (Nat × TyI)} {T : Nat} : ∀ {l : List Nat}, eqFacts P tab l = true → mem T l = true →
    P.stoodInHeld T = false ∧ P.eqGuardType P.depth T = false ∧ ∃ fs, P.underlying T = some (.struct fs) ∧ ∀ f ∈ fs.toList, (f.name == "_") = false
  | [], _, h => by simp [mem] at h
  | U :: r, hf, h => by
    simp only [eqFacts, Bool.and_eq_true, Bool.not_eq_true'] at hf
    simp only [mem] at h
    cases e : Nat.beq U T
    · rw [e] at h; exact mem_facts hf.2 (by simpa using h)
    · have := Nat.eq_of_beq_eq_true e
      subst this
      refine ⟨hf.1.1.1, hf.1.1.2, ?_⟩
      have h3 := hf.1.2
      split at h3
      · rename_i fs hu
        exact ⟨fs, hu, fun f hf' => by simpa using List.all_eq_true.1 h3 f hf'⟩
      · cases h3
theorem Rd.atom {t : Ty} {x : t.den} {S : List Nat} {cs : List Value} (hs : simple t = true) (h : Rd w t x S cs) : ∃ v, cs = [v] ∧ isAgg' v = false := by
  cases t <;> simp [simple] at hs <;> simp only [Rd] at h <;> exact ⟨_, h.2, rfl⟩
theorem eq_leaf {t : Ty} {T : Nat} {x y : t.den} {q : Bool} {S S' : List Nat} {u v : Value} (d : Nat) (hs : simple t = true) {de : TypeDesc} (hu : P.underlying T = some de) (hl : leafIs t de = true)
    (hx : Rd w t x S [u]) (hy : Rd w t y S' [v]) (he : eqD t x y = some q) : (Op.equalIn (d + 1) T u v).run P w = .ok q w := by
  cases t <;> simp [simple] at hs
  · simp only [Rd, List.cons.injEq, and_true] at hx hy
    rw [hx.2, hy.2]
    simp only [eqD, Option.some.injEq] at he
    subst he
    cases de <;> simp [leafIs] at hl
    exact run_equalIn_bool' w d T _ _ hu
  · simp only [Rd, List.cons.injEq, and_true] at hx hy
    rw [hx.2, hy.2]
    simp only [eqD, Option.some.injEq] at he
    subst he
    cases de <;> simp [leafIs] at hl
    exact run_equalIn_int w d T _ _ _ _ hu
  · simp only [Rd, List.cons.injEq, and_true] at hx hy
    rw [hx.2, hy.2]
    simp only [eqD, Option.some.injEq] at he
    subst he
    cases de <;> simp [leafIs] at hl
    rw [run_equalIn_string w d T _ _ hu, toList_mk, toList_mk]
theorem run_part_leaf {T : Nat} {cs : Array Value} {off : Nat} {v : Value} {t : Ty} {de : TypeDesc} (hu : P.underlying T = some de) (hl : leafIs t de = true) (h : cs[off]? = some v) : (part T cs off).run P w = .ok v w := by
  obtain ⟨k1, k2, _⟩ := leaf_desc hl
  have hg : (isAgg T).run P w = .ok false w := by
    simp only [isAgg, Sem.run_bind, run_underlying' hu, Result.andThen_ok]
    cases de <;> first | rfl | exact absurd rfl (k1 _) | exact absurd rfl (k2 _ _)
  simp [part, hg, h]
theorem eqFields_ok (hc : chkAll P c.tab = true) (d : Nat) : ∀ (fs : List Field) (l : List (Nat × Nat)) (t : Ty) (off : Nat) (x y : t.den) (q : Bool) (S S' : List Nat) (xs ys px py : List Value),
    fieldsAre P fs l = true → eqOK c t off l = true → (∀ f ∈ fs, (f.name == "_") = false) → Rd w t x S xs → Rd w t y S' ys → px.length = off → py.length = off → eqD t x y = some q →
    (Op.eqFields (d + 1) (px ++ xs).toArray (py ++ ys).toArray fs).run P w = .ok q w
  | [], l, t, off, x, y, q, S, S', xs, ys, px, py, hf, hk, _, _, _, _, _, _ => by
    cases l with
    | nil => cases t <;> simp [eqOK] at hk
    | cons _ _ => simp [fieldsAre] at hf
  | [f], l, t, off, x, y, q, S, S', xs, ys, px, py, hf, hk, hn, hx, hy, lx, ly, he => by
    cases l with
    | nil => simp [fieldsAre] at hf
    | cons p r =>
      obtain ⟨o, FT⟩ := p
      simp only [fieldsAre, Bool.and_eq_true, beq_iff_eq] at hf
      obtain ⟨⟨⟨h1, h2⟩, _⟩, h4⟩ := hf
      cases r with
      | cons _ _ => simp [fieldsAre] at h4
      | nil =>
        have hk' : Nat.beq o off = true ∧ leafAt c FT t = true ∧ simple t = true := by
          cases t <;> simp only [eqOK, Bool.and_eq_true] at hk <;> exact ⟨hk.1.1, hk.1.2, hk.2⟩
        obtain ⟨k1, k2, k3⟩ := hk'
        have e := Nat.eq_of_beq_eq_true k1
        obtain ⟨de, hu, hl⟩ := leafAt_desc hc k2 (by cases t <;> simp [simple] at k3 <;> rfl)
        obtain ⟨u, rfl, _⟩ := Rd.atom k3 hx
        obtain ⟨v, rfl, _⟩ := Rd.atom k3 hy
        have hn' := hn f (by simp)
        simp only [Op.eqFields, ne_eq, beq_eq_false_iff_ne.1 hn', not_false_eq_true, if_true, Sem.run_bind]
        rw [h2, h1, e, run_part_leaf hu hl (v := u) (by simp [← lx]), Result.andThen_ok, run_part_leaf hu hl (v := v) (by simp [← ly]), Result.andThen_ok, eq_leaf d k3 hu hl hx hy he, Result.andThen_ok]
        cases q <;> simp
  | f :: g :: fs, l, t, off, x, y, q, S, S', xs, ys, px, py, hf, hk, hn, hx, hy, lx, ly, he => by
    cases l with
    | nil => simp [fieldsAre] at hf
    | cons p r =>
      obtain ⟨o, FT⟩ := p
      simp only [fieldsAre, Bool.and_eq_true, beq_iff_eq] at hf
      obtain ⟨⟨⟨h1, h2⟩, _⟩, h4⟩ := hf
      cases r with
      | nil => simp [fieldsAre] at h4
      | cons p2 r =>
        cases t with
        | pair ta tb =>
          simp only [eqOK, Bool.and_eq_true] at hk
          obtain ⟨⟨⟨k1, k2⟩, k3⟩, k4⟩ := hk
          have e := Nat.eq_of_beq_eq_true k1
          obtain ⟨de, hu, hl⟩ := leafAt_desc hc k2 (by cases ta <;> simp [simple] at k3 <;> rfl)
          simp only [Rd] at hx hy
          obtain ⟨S1, S2, c1, c2, _, rfl, hx1, hx2⟩ := hx
          obtain ⟨T1, T2, d1, d2, _, rfl, hy1, hy2⟩ := hy
          obtain ⟨u, rfl, _⟩ := Rd.atom k3 hx1
          obtain ⟨v, rfl, _⟩ := Rd.atom k3 hy1
          simp only [eqD] at he
          cases ha : eqD ta x.1 y.1 with
          | none => rw [ha] at he; simp at he
          | some q1 =>
            rw [ha] at he
            cases hb : eqD tb x.2 y.2 with
            | none => rw [hb] at he; simp at he
            | some q2 =>
              rw [hb] at he
              simp only [Option.some.injEq] at he
              have ih := eqFields_ok hc d (g :: fs) (p2 :: r) tb (off + 1) x.2 y.2 q2 S2 T2 c2 d2 (px ++ [u]) (py ++ [v]) h4 k4 (fun f hf => hn f (by simp [hf])) hx2 hy2 (by simp [lx]) (by simp [ly]) hb
              have hn' := hn f (by simp)
              rw [Op.eqFields]
              simp only [ne_eq, beq_eq_false_iff_ne.1 hn', not_false_eq_true, if_true, Sem.run_bind]
              rw [h2, h1, e, run_part_leaf hu hl (v := u) (by simp [← lx]), Result.andThen_ok, run_part_leaf hu hl (v := v) (by simp [← ly]), Result.andThen_ok, eq_leaf d k3 hu hl hx1 hy1 ha, Result.andThen_ok]
              cases q1 with
              | false => simp [← he]
              | true =>
                simp only [Bool.not_true, Bool.false_eq_true, if_false]
                simp only [Bool.true_and] at he
                rw [← he]
                simpa using ih
        | _ => simp [eqOK] at hk
theorem structEq_ok (hc : chkAll P c.tab = true) (hq : eqFacts P c.tab c.eqs = true) {T : Nat} {xs ys : List AV} {us vs : List Value} {q : Bool}
    (hx : RepL A W w xs us) (hy : RepL A W w ys vs) (he : structEq c T xs ys = some q) (op : BinOp) (ox oy : Operand) :
    (eqGuard op T ox oy (.agg us.toArray) (.agg vs.toArray)).run P w = .ok () w ∧ (Op.equalIn 10000 T (.agg us.toArray) (.agg vs.toArray)).run P w = .ok q w := by
  unfold structEq at he
  cases ha : assoc T c.tab with
  | none => rw [ha] at he; simp at he
  | some i =>
    rw [ha] at he
    cases i with
    | struct t fs =>
      simp only at he
      cases hm : (mem T c.eqs && eqOK c t 0 fs)
      · rw [hm] at he; simp at he
      · rw [hm] at he
        simp only [Bool.and_eq_true] at hm
        obtain ⟨m1, m2⟩ := hm
        simp only [cond] at he
        cases hx' : t.packAll xs with
        | none => rw [hx'] at he; simp at he
        | some x =>
          rw [hx'] at he
          cases hy' : t.packAll ys with
          | none => rw [hy'] at he; simp at he
          | some y =>
            rw [hy'] at he
            simp only at he
            obtain ⟨Sx, dx, _⟩ := raw_rep hx
            obtain ⟨Sy, dy, _⟩ := raw_rep hy
            have rx := packAll_rep dx hx'
            have ry := packAll_rep dy hy'
            obtain ⟨k1, k2, gs, hu, hn⟩ := mem_facts hq m1
            obtain ⟨_, gs', _, _, hu', _, _, _, _, hf, _⟩ := chk_struct (assoc_chk hc ha)
            rw [hu] at hu'
            simp only [Option.some.injEq, TypeDesc.struct.injEq] at hu'
            subst hu'
            refine ⟨run_eqGuard_agg w op T ox oy _ _ k2, ?_⟩
            have hfo : P.fieldsOf T = gs := by simp [Program.fieldsOf, hu]
            rw [run_equalIn_struct w 9999 T _ _ (by rw [hfo]; exact hu) k1, hfo]
            have := eqFields_ok (w := w) hc 9998 gs.toList fs t 0 x y q _ _ us vs [] [] hf m2 hn rx ry rfl rfl he
            simpa using this
    | _ => simp at he
theorem run_eq_nilnil (d : Nat) {T : Nat} {ms : Array (String × TypeId)} (hu : P.underlying T = some (.interface ms)) : (Op.equalIn (d + 1) T .nilIface .nilIface).run P w = .ok true w := by
  simp [Op.equalIn, run_underlying' hu]
theorem run_eq_held (d : Nat) {T t : Nat} {v : Value} {ms : Array (String × TypeId)} (hu : P.underlying T = some (.interface ms)) : (Op.equalIn (d + 1) T (.iface t v) .nilIface).run P w = .ok false w := by
  simp [Op.equalIn, run_underlying' hu]
theorem isSl_get (hc : chkAll P c.tab = true) {T : Nat} (h : isSl c T = true) : ∃ e, P.underlying T = some (.slice e) := by
  unfold isSl at h
  split at h
  · rename_i e u b ha
    obtain ⟨i, z, ie, ze, _, hu, _⟩ := chk_slice (assoc_chk hc ha)
    exact ⟨e, hu⟩
  · cases h
theorem alt_spec {α : Type} {x y : Option α} {z : α} (h : alt x y = some z) : x = some z ∧ y = some z := by
  unfold alt at h
  split at h
  · rename_i e; exact ⟨h, by rw [← e]; exact h⟩
  · cases h
theorem nilK_spec {ne e : Bool} {kk : AV → Option R} (h : nilK ne e kk = some r) (b : Bool) (hb : b = true → e = true) : kk (.d .bool (if b then !ne else ne)) = some r := by
  unfold nilK at h
  cases b with
  | true =>
    rw [hb rfl] at h
    exact (alt_spec h).1
  | false =>
    cases e with
    | true => exact (alt_spec h).2
    | false => exact h
theorem run_nilK {T e : Nat} (hu : P.underlying T = some (.slice e)) {op : BinOp} {ne : Bool} (hop : nilOp op = some ne) {ox oy : Operand} (a : Option Addr) (n m : Nat) (w0 : World) :
    (do eqGuard op T ox oy (.slice a n m) (.slice none 0 0); binOp op T (.slice a n m) (.slice none 0 0) : Sem Value).run P w0 = .ok (.bool (if a.isNone then !ne else ne)) w0 := by
  have hg : eqGuard op T ox oy (.slice a n m) (.slice none 0 0) = pure () := by cases op <;> rfl
  rw [hg, pure_bind]
  unfold nilOp at hop
  split at hop
  · simp only [Option.some.injEq] at hop
    subst hop
    rw [Lib.run_eql_slice_nil w0 T e a n m 0 0 hu]
    cases a <;> rfl
  · simp only [Option.some.injEq] at hop
    subst hop
    rw [run_neq_slice_nil_any w0 T e a n m 0 0 hu]
    cases a <;> rfl
  · cases hop
theorem rowNilK_ok (hc : chkAll P c.tab = true) (hr : Rep st w X.M A W V) {T : Nat} {op : BinOp} {id : Nat} {y : AV} {ox oy : Operand} {u u' : Value} {kk : AV → Option R}
    (hx : RepAV A W w (.row id) u) (hy : RepAV A W w y u') (e : rowNilK c T op id y st kk = some r) :
    ∃ z v, (∀ w0, (do eqGuard op T ox oy u u'; binOp op T u u' : Sem Value).run P w0 = .ok z w0) ∧ RepAV A W w v z ∧ kk v = some r := by
  unfold rowNilK at e
  split at e
  · rename_i ne t xs dp hne hl
    obtain ⟨h1, e⟩ := cond_some e
    simp only [Bool.and_eq_true] at h1
    obtain ⟨el, hu⟩ := isSl_get hc h1.1
    have hy : u' = .slice none 0 0 := by
      cases y <;> simp [isNilsB] at h1
      simpa only [RepAV] using hy
    subst hy
    simp only [RepAV] at hx
    obtain ⟨lw, F, hW, hnb, rfl⟩ := hx
    rcases hr.locs id _ _ hW hl with ⟨g1, g2⟩ | ⟨b, off, cap, S', g1, _⟩
    · rw [hW] at g1
      simp only [Option.some.injEq, Prod.mk.injEq] at g1
      obtain ⟨rfl, _⟩ := g1
      subst g2
      exact ⟨_, _, fun w0 => run_nilK hu hne none 0 0 w0, RepAV.mkBool _, nilK_spec e true (fun _ => rfl)⟩
    · rw [hW] at g1
      simp only [Option.some.injEq, Prod.mk.injEq] at g1
      obtain ⟨rfl, _⟩ := g1
      exact ⟨_, _, fun w0 => run_nilK hu hne _ _ _ w0, RepAV.mkBool _, nilK_spec e false (fun h => by cases h)⟩
  · cases e
theorem rowOf_spec {v : AV} {id : Nat} (h : rowOf v = some id) : v = .row id := by cases v <;> simp_all [rowOf]
theorem binK_ok (hc : chkAll P c.tab = true) (hq : eqFacts P c.tab c.eqs = true) {T : Nat} {op : BinOp} {ox oy : Operand} {x y : AV} {u u' : Value} {kk : AV → Option R}
    (hx : RepAV A W w x u) (hy : RepAV A W w y u') (e : binK c T op (isConst oy) x y kk = some r) :
    ∃ z v, (∀ w0, (∀ b, A b → w0.heap[b]? = w.heap[b]?) → (do eqGuard op T ox oy u u'; binOp op T u u' : Sem Value).run P w0 = .ok z w0) ∧ RepAV A W w v z ∧ kk v = some r := by
  unfold binK at e
  split at e
  · rename_i m n
    have e1 := hx.str
    have e2 := hy.str
    subst e1 e2
    cases hl : Nat.ble (m.length + n.length) maxGrow
    · rw [hl] at e; simp at e
    · rw [hl] at e
      have hle := Nat.le_of_ble_eq_true hl
      unfold maxGrow at hle
      refine ⟨.string ⟨(m ++ n).toArray⟩, _, fun w0 _ => ?_, RepAV.mkStr _, e⟩
      have hs : (⟨m.toArray⟩ : ByteArray) ++ ⟨n.toArray⟩ = ⟨(m ++ n).toArray⟩ := by
        apply ByteArray.ext
        simp
      have h1 : (ByteArray.mk m.toArray).size = m.length := by simp [ByteArray.size]
      have h2 : (ByteArray.mk n.toArray).size = n.length := by simp [ByteArray.size]
      simp only [eqGuard_at_string, pure_bind, binOp, Op.stringOp, Sem.run_ite, h1, h2]
      rw [if_neg (by simp only [IntKind.max, IntKind.signed, IntKind.bits]; omega), hs]
      rfl
  · rename_i j m j' n
    have e1 := hx.int
    have e2 := hy.int
    subst e1 e2
    cases hl : (!(@BEq.beq Int _ n 0) && decide (j = j'))
    · rw [hl] at e; simp at e
    · rw [hl] at e
      simp only [Bool.and_eq_true, Bool.not_eq_true', decide_eq_true_eq, beq_eq_false_iff_ne] at hl
      obtain ⟨h1, rfl⟩ := hl
      refine ⟨_, _, fun w0 _ => ?_, RepAV.mkInt _ _, e⟩
      simp only [eqGuard_at_int, pure_bind, binOp_quo]
      exact (intDiv_run (op := .quo) h1).1
  · rename_i j m j' n
    have e1 := hx.int
    have e2 := hy.int
    subst e1 e2
    cases hl : (!(@BEq.beq Int _ n 0) && decide (j = j'))
    · rw [hl] at e; simp at e
    · rw [hl] at e
      simp only [Bool.and_eq_true, Bool.not_eq_true', decide_eq_true_eq, beq_eq_false_iff_ne] at hl
      obtain ⟨h1, rfl⟩ := hl
      refine ⟨_, _, fun w0 _ => ?_, RepAV.mkInt _ _, e⟩
      simp only [eqGuard_at_int, pure_bind, binOp_rem]
      exact (intDiv_run (op := .rem) h1).2
  · rename_i j m j' n
    have e1 := hx.int
    have e2 := hy.int
    subst e1 e2
    cases hl : decide (@LE.le Int _ 0 n)
    · rw [hl] at e; simp at e
    · rw [hl] at e
      have h0 : (0 : Int) ≤ n := of_decide_eq_true hl
      refine ⟨_, _, fun w0 _ => ?_, RepAV.mkInt _ _, e⟩
      simp only [eqGuard_at_int, pure_bind, binOp, Op.shift]
      rw [if_neg (by omega)]
      rfl
  · rename_i j m j' n
    have e1 := hx.int
    have e2 := hy.int
    subst e1 e2
    cases hl : decide (@LE.le Int _ 0 n)
    · rw [hl] at e; simp at e
    · rw [hl] at e
      have h0 : (0 : Int) ≤ n := of_decide_eq_true hl
      refine ⟨_, _, fun w0 _ => ?_, RepAV.mkInt _ _, e⟩
      simp only [eqGuard_at_int, pure_bind, binOp, Op.shift]
      rw [if_neg (by omega)]
      rfl
  · rename_i p q
    have e1 := hx.bool
    have e2 := hy.bool
    subst e1 e2
    cases hl : leafAt c T .bool
    · rw [hl] at e; simp at e
    · rw [hl] at e
      obtain ⟨d, hu, hd⟩ := leafAt_desc hc hl rfl
      cases d <;> simp [leafIs] at hd
      exact ⟨_, _, fun w0 _ => by simp [eqGuard_at_bool, binOp, Op.equal, Op.maxDepth, run_equalIn_bool' w0 _ T _ _ hu], RepAV.mkBool _, e⟩
  · rename_i p q
    have e1 := hx.bool
    have e2 := hy.bool
    subst e1 e2
    cases hl : leafAt c T .bool
    · rw [hl] at e; simp at e
    · rw [hl] at e
      obtain ⟨d, hu, hd⟩ := leafAt_desc hc hl rfl
      cases d <;> simp [leafIs] at hd
      exact ⟨_, _, fun w0 _ => by simp [eqGuard_at_bool, binOp, Op.equal, Op.maxDepth, run_equalIn_bool' w0 _ T _ _ hu], RepAV.mkBool _, e⟩
  · rename_i p
    have e2 := hy.err
    simp only [true_and, Bool.true_eq_false, false_and, or_false] at e2
    subst e2
    cases hl : (isConst oy && leafAt c T .err)
    · rw [hl] at e; simp at e
    · rw [hl] at e
      simp only [Bool.and_eq_true] at hl
      obtain ⟨d, hu, hd⟩ := leafAt_desc hc hl.2 rfl
      cases d <;> simp [leafIs] at hd
      cases oy <;> simp [isConst] at hl
      rcases hx.err with ⟨rfl, rfl⟩ | ⟨rfl, t, v, rfl⟩
      · exact ⟨_, _, fun w0 _ => by simp [eqGuard_nil_constR, binOp, Op.equal, Op.maxDepth, run_eq_nilnil 9999 hu], RepAV.mkBool _, e⟩
      · exact ⟨_, _, fun w0 _ => by simp [eqGuard_at_iface, binOp, Op.equal, Op.maxDepth, run_eq_held 9999 hu], RepAV.mkBool _, e⟩
  · rename_i p
    have e2 := hy.err
    simp only [true_and, Bool.true_eq_false, false_and, or_false] at e2
    subst e2
    cases hl : (isConst oy && leafAt c T .err)
    · rw [hl] at e; simp at e
    · rw [hl] at e
      simp only [Bool.and_eq_true] at hl
      obtain ⟨d, hu, hd⟩ := leafAt_desc hc hl.2 rfl
      cases d <;> simp [leafIs] at hd
      cases oy <;> simp [isConst] at hl
      rcases hx.err with ⟨rfl, rfl⟩ | ⟨rfl, t, v, rfl⟩
      · exact ⟨_, _, fun w0 _ => by simp [eqGuard_nil_constR, binOp, Op.equal, Op.maxDepth, run_eq_nilnil 9999 hu], RepAV.mkBool _, e⟩
      · exact ⟨_, _, fun w0 _ => by simp [eqGuard_at_iface, binOp, Op.equal, Op.maxDepth, run_eq_held 9999 hu], RepAV.mkBool _, e⟩
  · rename_i xs ys
    simp only [RepAV] at hx hy
    obtain ⟨us, rfl, hx⟩ := hx
    obtain ⟨vs, rfl, hy⟩ := hy
    cases hs : structEq c T xs ys with
    | none => rw [hs] at e; simp at e
    | some q =>
      rw [hs] at e
      refine ⟨_, _, fun w0 hw => ?_, RepAV.mkBool q, e⟩
      obtain ⟨g1, g2⟩ := structEq_ok hc hq (RepL.mono (fun _ h => h) hw (fun id lw F e => ⟨F, e⟩) _ _ hx) (RepL.mono (fun _ h => h) hw (fun id lw F e => ⟨F, e⟩) _ _ hy) hs .eql ox oy
      rw [Sem.run_bind, g1, Result.andThen_ok, run_eql_struct, g2, Result.andThen_ok]
  · rename_i xs ys
    simp only [RepAV] at hx hy
    obtain ⟨us, rfl, hx⟩ := hx
    obtain ⟨vs, rfl, hy⟩ := hy
    cases hs : structEq c T xs ys with
    | none => rw [hs] at e; simp at e
    | some q =>
      rw [hs] at e
      refine ⟨_, _, fun w0 hw => ?_, RepAV.mkBool (!q), e⟩
      obtain ⟨g1, g2⟩ := structEq_ok hc hq (RepL.mono (fun _ h => h) hw (fun id lw F e => ⟨F, e⟩) _ _ hx) (RepL.mono (fun _ h => h) hw (fun id lw F e => ⟨F, e⟩) _ _ hy) hs .neq ox oy
      rw [Sem.run_bind, g1, Result.andThen_ok, run_neq_struct, g2, Result.andThen_ok]
  · rename_i t xs
    split at e
    · rename_i ne hne
      obtain ⟨hT, e⟩ := cond_some e
      obtain ⟨el, hu⟩ := isSl_get hc hT
      obtain ⟨S, _, hx⟩ := hx.dval
      have hy : u' = .slice none 0 0 := by simpa only [RepAV] using hy
      subst hy
      simp only [Rd] at hx
      rcases hx with ⟨h1, _, a, h2⟩ | ⟨b, off, cap, S', _, h2, _⟩
      · simp only [List.cons.injEq, and_true] at h2
        subst h1 h2
        exact ⟨_, _, fun w0 _ => run_nilK hu hne a 0 0 w0, RepAV.mkBool _, nilK_spec e a.isNone (fun _ => rfl)⟩
      · simp only [List.cons.injEq, and_true] at h2
        subst h2
        exact ⟨_, _, fun w0 _ => run_nilK hu hne _ _ _ w0, RepAV.mkBool _, nilK_spec e false (fun h => by cases h)⟩
    · cases e
  · split at e
    · rename_i ne hne
      obtain ⟨hT, e⟩ := cond_some e
      obtain ⟨el, hu⟩ := isSl_get hc hT
      have hx : u = .slice none 0 0 := by simpa only [RepAV] using hx
      have hy : u' = .slice none 0 0 := by simpa only [RepAV] using hy
      subst hx hy
      exact ⟨_, _, fun w0 _ => run_nilK hu hne none 0 0 w0, RepAV.mkBool _, e⟩
    · cases e
  · split at e
    · rename_i v he
      obtain ⟨z, h1, h2⟩ := binAV_ok (T := T) (ox := ox) (oy := oy) (P := P) hx hy he
      exact ⟨z, v, fun w0 _ => h1 w0, h2, e⟩
    · cases e
theorem op_bin (hc : chkAll P c.tab = true) (hq : eqFacts P c.tab c.eqs = true) {op : BinOp} {T T' : Nat} {x y : Operand} (hd : ∀ d : Nat, o.dst = some d → d < X.f.n) (ho : o.op = .binOp op T x y T') (hi : Inv X st a w A W V)
    (hk : (match rowOf (opnd X.f st x) with
    | some id => rowNilK c T op id (opnd X.f st y) st fun v => k (st.put X.f o.dst v)
    | none => binK c T op (isConst y) (opnd X.f st x) (opnd X.f st y) (fun v => k (st.put X.f o.dst v))) = some r) : o.wp P a w (Post X k r) Q := by
  split at hk
  · rename_i id hid
    have hx := hi.opnd x
    rw [rowOf_spec hid] at hx
    obtain ⟨z, v, h1, h2, h3⟩ := rowNilK_ok hc hi.rep (ox := x) (oy := y) hx (hi.opnd y) hk
    refine wp_value hd (v := z) ?_ hi h2 h3
    simp only [execOp, ho, Sem.run_bind, h1 w, Result.andThen_ok, Sem.run_pure]
  · obtain ⟨z, v, h1, h2, h3⟩ := binK_ok hc hq (ox := x) (oy := y) (hi.opnd x) (hi.opnd y) hk
    refine wp_value hd (v := z) ?_ hi h2 h3
    simp only [execOp, ho, Sem.run_bind, h1 w (fun _ _ => rfl), Result.andThen_ok, Sem.run_pure]

end
end Go.Proofs.Fw
