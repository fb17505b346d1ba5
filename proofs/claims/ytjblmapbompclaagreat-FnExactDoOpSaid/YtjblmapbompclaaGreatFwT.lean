/- Maps of the function's own: made, written, read. -/
import Derived.Test.YtjblmapbompclaaGreatFwS
set_option linter.all false
namespace Go.Proofs.Fw
open Go

section
variable [GInv] {R : Type} {P : Program} {c : Cfg} {X : Ctx} {st : St} {a : Act} {w : World} {A : Nat → Prop} {W : Wit} {V : Nat → Value} {o : Oper} {k : St → Option R} {r : R} {Q : Exit → Act → World → Prop}
theorem chk_map {P : Program} {T e : Nat} (h : chk P T (.map e) = true) : ∃ kt, P.underlying T = some (.map kt e) ∧ P.underlying kt = some .string := by
  simp only [chk] at h
  cases hd : P.underlying T with
  | none => rw [hd] at h; simp at h
  | some d =>
    rw [hd] at h
    cases d with
    | map kt e' =>
      simp only [Bool.and_eq_true, beq_iff_eq] at h
      obtain ⟨rfl, h2⟩ := h
      refine ⟨kt, rfl, ?_⟩
      cases hk : P.underlying kt with
      | none => rw [hk] at h2; simp at h2
      | some dk =>
        rw [hk] at h2
        cases dk <;> first | rfl | simp at h2
    | _ => simp at h
theorem op_makeMap (hc : chkAll P c.tab = true) {T : Nat} (hd : ∀ d : Nat, o.dst = some d → d < X.f.n) (ho : o.op = .makeMap T none) (hi : Inv X st a w A W V)
    (hk : (match assoc T c.tab with
    | some (.map e) => match tyOf c e with
      | some (ag, t) => bif t.flat then k ((st.newLoc (.mp ag t [])).put X.f o.dst (.row st.nl)) else none
      | none => none
    | _ => none) = some r) : o.wp P a w (Post X k r) Q := by
  split at hk
  · rename_i e ha
    split at hk
    · rename_i ag t ht
      obtain ⟨hf, hk⟩ := cond_some hk
      have run : (execOp a.eval o).run P w = .ok (.value (.map (some w.heap.size))) (mkW w (.map #[] 0)) := by
        simp [execOp, ho, Instr.makeMap, mkW]
      have h1 := hi.rep.newLoc (l := .mp ag t []) (lw := .map w.heap.size) (F := [w.heap.size]) (w' := mkW w (.map #[] 0)) (by rw [mkW_size]; omega) (mkW_old w _) (by simp)
        (fun b hb => by simp at hb; subst hb; exact ⟨Nat.le_refl _, by rw [mkW_size]; omega, hi.newM (Nat.le_refl _)⟩)
        ⟨w.heap.size, #[], 0, updW_same _ _ _, mkW_new w _, hf, rfl⟩
      refine wp_value hd run (hi.turn h1 (Nat.le_refl _) (mkW_kept _ _ _) (fun _ h => h) (fun _ h => .inl h) (fun j b F e => ?_) (hs := fun b hb => mkW_old w _ b (hi.old hb))) ?_ hk
      · rw [updW_other (fun e' => by subst e'; rw [hi.rep.fresh st.nl (Nat.le_refl _)] at e; cases e)]; exact e
      · simp only [RepAV]
        exact ⟨.map w.heap.size, _, updW_same _ _ _, fun b e => (by cases e), rfl⟩
    · cases hk
  · cases hk
theorem bstr_eq (s k : List UInt8) : ((⟨s.toArray⟩ : ByteArray) == ⟨k.toArray⟩) = (s == k) := by
  show (s.toArray == k.toArray) = (s == k)
  simp
theorem bstr_self (a : ByteArray) : (a == a) = true := by
  show (a.data == a.data) = true
  simp
theorem run_checkKey {e : Bool} {n kt : Nat} {s : ByteArray} (u2 : P.underlying kt = some .string) : (Instr.checkKey e (n + 1) kt (.string s)).run P w = .ok () w := by
  simp only [Instr.checkKey, Sem.run_bind, run_underlying' u2, Result.andThen_ok, Sem.run_pure]
theorem sameBits_str (n : Nat) (a : ByteArray) : Instr.sameBits n (.string a) (.string a) = true := by
  cases n <;> simp [Instr.sameBits, bstr_self]
theorem run_stays (a : ByteArray) : (Instr.keyThatStays (.string a) (.string a)).run P w = .ok (.string a) w := by
  unfold Instr.keyThatStays
  rw [if_pos (sameBits_str _ a)]
  rfl
theorem find_map {ag : Bool} {t : Ty} {s : List UInt8} : ∀ (arr : List MapEntry) {es : List (List UInt8 × t.den)} (i : Nat), MpRep w ag t arr es →
    (∃ j v e0, Instr.findNow .string (.string ⟨s.toArray⟩) arr i = some (some (i + j, v)) ∧ hasM es s = true ∧ ValF w ag t (getM t.dflt es s) v ∧ arr[j]? = some e0 ∧ e0.key = .string ⟨s.toArray⟩ ∧
      ∀ (y : t.den) (v' : Value), ValF w ag t y v' → MpRep w ag t (arr.modify j fun e => { e with key := .string ⟨s.toArray⟩, val := v' }) (putM es s y)) ∨
    (Instr.findNow .string (.string ⟨s.toArray⟩) arr i = some none ∧ hasM es s = false ∧ getM t.dflt es s = t.dflt ∧
      ∀ (y : t.den) (e' : MapEntry), e'.key = .string ⟨s.toArray⟩ → ValF w ag t y e'.val → MpRep w ag t (arr ++ [e']) (putM es s y))
  | [], es, i, h => by
    have h : es = [] := h
    subst h
    exact .inr ⟨rfl, rfl, rfl, fun y e' h1 h2 => ⟨s, y, [], rfl, h1, h2, rfl⟩⟩
  | e :: arr, es, i, ⟨k, x, r, h1, h2, h3, h4⟩ => by
    subst h1
    have hs : Instr.sameNow .string (.string ⟨s.toArray⟩) e.key = some (s == k) := by
      rw [h2]
      simp only [Instr.sameNow, bstr_eq]
    cases hb : (s == k) with
    | true =>
      rw [hb] at hs
      refine .inl ⟨0, e.val, e, ?_, ?_, ?_, rfl, ?_, fun y v' hv => ?_⟩
      · simp only [Instr.findNow, hs, Nat.add_zero]
      · simp only [hasM, hb, cond_true]
      · simp only [getM, hb, cond_true]; exact h3
      · have : s = k := by simpa using hb
        rw [this]; exact h2
      · simp only [putM, hb, cond_true]
        exact ⟨s, y, r, rfl, rfl, hv, h4⟩
    | false =>
      rw [hb] at hs
      rcases find_map arr (i + 1) h4 with ⟨j, v, e0, g1, g2, g3, g4, g5, g6⟩ | ⟨g1, g2, g3, g4⟩
      · refine .inl ⟨j + 1, v, e0, ?_, ?_, ?_, by simpa using g4, g5, fun y v' hv => ?_⟩
        · simp only [Instr.findNow, hs, g1]
          rw [show i + 1 + j = i + (j + 1) by omega]
        · simp only [hasM, hb, cond_false]; exact g2
        · simp only [getM, hb, cond_false]; exact g3
        · simp only [putM, hb, cond_false]
          exact ⟨k, x, _, rfl, h2, h3, g6 y v' hv⟩
      · refine .inr ⟨?_, ?_, ?_, fun y e' k1 k2 => ?_⟩
        · simp only [Instr.findNow, hs, g1]
        · simp only [hasM, hb, cond_false]; exact g2
        · simp only [getM, hb, cond_false]; exact g3
        · simp only [putM, hb, cond_false]
          exact ⟨k, x, _, rfl, h2, h3, g4 y e' k1 k2⟩
theorem ValF.rep {ag : Bool} {t : Ty} {x : t.den} {v : Value} (h : ValF w ag t x v) : RepAV A W w (mkAV ag (t.unpack x)) v := by
  unfold ValF at h
  cases ag with
  | true =>
    simp only [if_true] at h
    obtain ⟨cs, rfl, h⟩ := h
    simpa using mkAV_rep (ag := true) (unpack_rep (A := A) (W := W) t h (by simp)) (fun e => by cases e)
  | false =>
    simp only [Bool.false_eq_true, if_false] at h
    simpa using mkAV_rep (ag := false) (unpack_rep (A := A) (W := W) t h (by simp)) (fun _ => rfl)
theorem zero_valF {ag : Bool} {t : Ty} {z : Value} (h1 : zCells t z = true) (h2 : isAgg' z = ag) : ValF w ag t t.dflt z := by
  have := zCells_rd h1 w
  unfold ValF
  cases ag with
  | true =>
    simp only [if_true]
    cases z with
    | agg cs => exact ⟨cs.toList, by simp, this⟩
    | _ => simp [isAgg'] at h2
  | false =>
    simp only [Bool.false_eq_true, if_false]
    cases z <;> first | exact this | simp [isAgg'] at h2
theorem mapLoc (hr : Rep st w X.M A W V) {id : Nat} {v : Value} {ag : Bool} {t : Ty} {es : List (List UInt8 × t.den)} (hv : RepAV A W w (.row id) v) (hl : st.loc id = some (.mp ag t es)) :
    ∃ b arr clock, W id = some (.map b, [b]) ∧ v = .map (some b) ∧ w.heap[b]? = some (.map arr clock) ∧ t.flat = true ∧ MpRep w ag t arr.toList es := by
  obtain ⟨lw, F, h1, h2, h3⟩ := hr.row_live hv
  obtain ⟨b, arr, clock, g1, g2, g3, g4⟩ := hr.locs id _ _ h1 hl
  rw [h1] at g1
  simp only [Option.some.injEq, Prod.mk.injEq] at g1
  obtain ⟨rfl, rfl⟩ := g1
  exact ⟨b, arr, clock, h1, h3, g2, g3, g4⟩
theorem op_lookup (hc : chkAll P c.tab = true) {T : Nat} {m x : Operand} {co : Bool} (hd : ∀ d : Nat, o.dst = some d → d < X.f.n) (ho : o.op = .lookup T m x co) (hi : Inv X st a w A W V)
    (hk : mapGetK c T co (opnd X.f st m) (opnd X.f st x) st (fun v => k (st.put X.f o.dst v)) = some r) : o.wp P a w (Post X k r) Q := by
  have hm := hi.opnd m
  have hx := hi.opnd x
  unfold mapGetK at hk
  split at hk
  · rename_i e ha
    split at hk
    · rename_i ag t ht
      split at hk
      · rename_i id s e1 e2
        rw [e1] at hm
        rw [e2] at hx
        split at hk
        · rename_i ag' t' es hl
          obtain ⟨hcond, hk⟩ := cond_some hk
          simp only [Bool.and_eq_true, beq_iff_eq, decide_eq_true_eq] at hcond
          obtain ⟨rfl, rfl⟩ := hcond
          obtain ⟨kt, u1, u2⟩ := chk_map (assoc_chk hc ha)
          have fa := facts_of hc ht
          obtain ⟨b, arr, clock, _, hv, hb, hf, hrep⟩ := mapLoc hi.rep hm hl
          have hxs := hx.str
          obtain ⟨z, hz1, hz2, hz3⟩ := fa.zero
          have hck : (Instr.checkKey arr.isEmpty 10000 kt (.string ⟨s.toArray⟩)).run P w = .ok () w := run_checkKey (n := 9999) u2
          have hgo : (getObj b).run P w = .ok (.map arr clock) w := by simp [getObj, Sem.run, hb]
          have hfk : ∃ v, ValF w ag t (getM t.dflt es s) v ∧ ∀ co, (Instr.lookup T (.map (some b)) (.string ⟨s.toArray⟩) co).run P w = .ok (if co then .tuple #[v, .bool (hasM es s)] else v) w := by
            rcases find_map (s := s) arr.toList 0 hrep with ⟨j, v, e0, g1, g2, g3, _⟩ | ⟨g1, g2, g3, _⟩
            · refine ⟨v, g3, fun co => ?_⟩
              simp only [Instr.lookup, Sem.run_bind, run_underlying' u1, Result.andThen_ok, hgo, hck, Instr.findKey, run_underlying' u2, g1, Sem.run_pure, g2]
            · refine ⟨z, by rw [g3]; exact zero_valF hz2 hz3, fun co => ?_⟩
              simp only [Instr.lookup, Sem.run_bind, run_underlying' u1, Result.andThen_ok, hgo, hck, Instr.findKey, run_underlying' u2, g1, Sem.run_pure, g2, hz1]
          obtain ⟨v, hv1, hrun⟩ := hfk
          have hval : RepAV A W w (mkAV ag (t.unpack (getM t.dflt es s))) v := hv1.rep
          cases co with
          | true =>
            refine wp_value hd (v := .tuple #[v, .bool (hasM es s)]) ?_ hi ?_ hk
            · simp only [execOp, ho, hv, hxs, Sem.run_bind, hrun, Result.andThen_ok, Sem.run_pure, if_true]
            · simp only [RepAV]
              exact ⟨[v, .bool (hasM es s)], rfl, by simp only [RepL]; exact ⟨v, _, rfl, hval, _, [], rfl, RepAV.mkBool _, rfl⟩⟩
          | false =>
            refine wp_value hd (v := v) ?_ hi hval hk
            simp [execOp, ho, hv, hxs, hrun]
        · cases hk
      · cases hk
    · cases hk
  · cases hk
def setB (w : World) (b : Nat) (ob : Obj) : World := { w with heap := w.heap.setIfInBounds b ob }
theorem setB_size (w : World) (b : Nat) (ob : Obj) : (setB w b ob).heap.size = w.heap.size := by simp [setB]
theorem setB_other (w : World) (b : Nat) (ob : Obj) {j : Nat} (h : j ≠ b) : (setB w b ob).heap[j]? = w.heap[j]? := by
  simp only [setB]
  rw [Array.getElem?_setIfInBounds_ne (Ne.symm h)]
theorem setB_at (w : World) (b : Nat) (ob : Obj) (h : b < w.heap.size) : (setB w b ob).heap[b]? = some ob := by
  simp only [setB]
  rw [Array.getElem?_setIfInBounds_self_of_lt h]
theorem Inv.setMap (hi : Inv X st a w A W V) {id b clock : Nat} {ag : Bool} {t : Ty} {es es' : List (List UInt8 × t.den)} {arr arr' : Array MapEntry} {clock' : Nat} (hl : st.loc id = some (.mp ag t es)) (hW : W id = some (.map b, [b])) (hb : w.heap[b]? = some (.map arr clock)) (hf : t.flat = true)
    (hrep : MpRep w ag t arr'.toList es') : ∃ W', Inv X (st.ev (.loc id (.mp ag t es'))) a (setB w b (.map arr' clock')) A W' V := by
  obtain ⟨hb1, hb2, hb3⟩ := hi.rep.own id _ _ hW b (by simp)
  have hsz := setB_size w b (.map arr' clock')
  have h1 := hi.rep.set (w' := setB w b (.map arr' clock')) (l := .mp ag t es') (F' := [b]) hW (by omega) (fun c _ hc => setB_other w b _ (fun e => hc (by rw [e]; simp))) (by simp)
    (fun c hc => by simp at hc; subst hc; exact ⟨by omega, hb2, hb3⟩) (fun j lwj Fj hj e c hc => by simp at hc; subst hc; exact hi.rep.apart id j _ _ _ _ (Ne.symm hj) hW e c (by simp))
    ⟨b, arr', clock', updW_same _ _ _, setB_at w b _ hb1, hf, hrep.move⟩
  refine ⟨_, hi.turn h1 (Nat.le_refl _) ⟨rfl, rfl, rfl, by omega, fun c hc hM => setB_other w b _ (fun e => hM (by rw [e]; exact hb2))⟩ (fun _ h => h) (fun _ h => .inl h) (fun j b' F'' e => ?_) (hs := fun c hc => setB_other w b _ (fun e => ?_))⟩
  · by_cases e' : j = id
    · subst e'; rw [hW] at e; cases e
    · rw [updW_other e']; exact e
  · subst e
    rcases hc with hc | ⟨j, hj, e⟩
    · exact hb3 hc
    · exact hi.rep.apart id j _ _ _ _ (fun e' => by subst e'; rw [hW] at e; cases e) hW e c (by simp) (by simp)
theorem op_mapUpdate (hc : chkAll P c.tab = true) {T : Nat} {m x v : Operand} (hd : o.dst = none) (ho : o.op = .mapUpdate T m x v) (hi : Inv X st a w A W V)
    (hk : mapPutK c T (opnd X.f st m) (opnd X.f st x) (opnd X.f st v) st k = some r) : o.wp P a w (Post X k r) Q := by
  have hm := hi.opnd m
  have hx := hi.opnd x
  have hv := hi.opnd v
  unfold mapPutK at hk
  split at hk
  · rename_i e ha
    split at hk
    · rename_i ag t ht
      split at hk
      · rename_i id s e1 e2
        rw [e1] at hm
        rw [e2] at hx
        split at hk
        · rename_i ag' t' es hl
          split at hk
          · rename_i cs hcs
            split at hk
            · rename_i y hy
              obtain ⟨hcond, hk⟩ := cond_some hk
              simp only [Bool.and_eq_true, beq_iff_eq, decide_eq_true_eq] at hcond
              obtain ⟨rfl, rfl⟩ := hcond
              obtain ⟨kt, u1, u2⟩ := chk_map (assoc_chk hc ha)
              obtain ⟨b, arr, clock, hW, hmv, hb, hf, hrep⟩ := mapLoc hi.rep hm hl
              have hxs := hx.str
              have hck : (Instr.checkKey false 10000 kt (.string ⟨s.toArray⟩)).run P w = .ok () w := run_checkKey (n := 9999) u2
              have hgo : (getObj b).run P w = .ok (.map arr clock) w := by simp [getObj, Sem.run, hb]
              have hset : ∀ ob, (setObj b ob).run P w = .ok () (setB w b ob) := fun ob => by simp [setObj, Sem.run, hb, setB]
              have hval : ValF w ag t y (a.eval v) := by
                unfold argCells at hcs
                unfold ValF
                split at hcs
                · rename_i cs' e3
                  obtain ⟨hag, hcs⟩ := cond_some hcs
                  simp only [Option.some.injEq] at hcs
                  subst hcs
                  rw [e3] at hv
                  simp only [RepAV] at hv
                  obtain ⟨ws, e4, hv⟩ := hv
                  obtain ⟨Ss, d1, _, _⟩ := dataL_rep hi.rep _ _ hv
                  have h2 := packAll_rep d1 hy
                  rw [h2.flat t hf] at h2
                  rw [if_pos hag]
                  exact ⟨ws, e4, h2⟩
                · cases hag : ag with
                  | true => rw [hag] at hcs; simp at hcs
                  | false =>
                    rw [hag] at hcs
                    simp only [cond, Option.some.injEq] at hcs
                    subst hcs
                    obtain ⟨Ss, d1, _, _⟩ := dataL_rep hi.rep [opnd X.f st v] [a.eval v] (by simp only [RepL]; exact ⟨_, [], rfl, hv, rfl⟩)
                    have h2 := packAll_rep d1 hy
                    rw [h2.flat t hf] at h2
                    simpa using h2
              rcases find_map (s := s) arr.toList 0 hrep with ⟨j, v0, e0, g1, g2, g3, g4, g5, g6⟩ | ⟨g1, g2, g3, g4⟩
              · have hst : ∀ (w0 : World), (Instr.keyThatStays e0.key (.string ⟨s.toArray⟩)).run P w0 = .ok (.string ⟨s.toArray⟩) w0 := fun w0 => by
                  rw [g5]
                  exact run_stays _
                have hj : arr[0 + j]? = some e0 := by rw [Nat.zero_add, ← Array.getElem?_toList]; exact g4
                have run : (Instr.mapUpdate T (.map (some b)) (.string ⟨s.toArray⟩) (a.eval v)).run P w = .ok () (setB w b (.map (arr.modify (0 + j) fun e => { e with key := .string ⟨s.toArray⟩, val := a.eval v }) clock)) := by
                  simp only [Instr.mapUpdate, Sem.run_bind, run_underlying' u1, Result.andThen_ok, hgo, hck, Instr.findKey, run_underlying' u2, g1, Sem.run_pure, hj, Option.map_some, Option.getD_some, hst, hset]
                obtain ⟨W', i2⟩ := hi.setMap (arr' := arr.modify (0 + j) fun e => { e with key := .string ⟨s.toArray⟩, val := a.eval v }) (clock' := clock) (es' := putM es s y) hl hW hb hf (by
                  rw [Array.toList_modify, Nat.zero_add]; exact g6 y _ hval)
                refine wp_skip' hd ?_ i2 hk
                simp [execOp, ho, hmv, hxs, run]
              · have run : (Instr.mapUpdate T (.map (some b)) (.string ⟨s.toArray⟩) (a.eval v)).run P w = .ok () (setB w b (.map (arr.push { key := .string ⟨s.toArray⟩, val := a.eval v, born := clock }) (clock + 1))) := by
                  simp only [Instr.mapUpdate, Sem.run_bind, run_underlying' u1, Result.andThen_ok, hgo, hck, Instr.findKey, run_underlying' u2, g1, Sem.run_pure, hset]
                obtain ⟨W', i2⟩ := hi.setMap (arr' := arr.push { key := .string ⟨s.toArray⟩, val := a.eval v, born := clock }) (clock' := clock + 1) (es' := putM es s y) hl hW hb hf (by
                  rw [Array.toList_push]; exact g4 y _ rfl hval)
                refine wp_skip' hd ?_ i2 hk
                simp [execOp, ho, hmv, hxs, run]
            · cases hk
          · cases hk
        · cases hk
      · cases hk
    · cases hk
  · cases hk

end
end Go.Proofs.Fw
