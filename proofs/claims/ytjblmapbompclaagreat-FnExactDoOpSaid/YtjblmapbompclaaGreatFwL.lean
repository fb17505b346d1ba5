/- Operations that make memory: variables, structs, rows. -/
import Derived.Test.YtjblmapbompclaaGreatFwK
set_option linter.all false
namespace Go.Proofs.Fw
open Go

section
variable [GInv] {R : Type} {P : Program} {c : Cfg} {X : Ctx} {st : St} {a : Act} {w : World} {A : Nat → Prop} {W : Wit} {V : Nat → Value} {o : Oper} {k : St → Option R} {r : R} {Q : Exit → Act → World → Prop}
def mkW (w : World) (o : Obj) : World := { w with heap := w.heap.push o }
theorem mkW_size (w : World) (o : Obj) : (mkW w o).heap.size = w.heap.size + 1 := by simp [mkW]
theorem mkW_old (w : World) (o : Obj) (b : Nat) (h : b < w.heap.size) : (mkW w o).heap[b]? = w.heap[b]? := by
  simp only [mkW, Array.getElem?_push]; rw [if_neg (by omega)]
theorem mkW_new (w : World) (o : Obj) : (mkW w o).heap[w.heap.size]? = some o := Array.getElem?_push_size
theorem mkW_kept (M : Nat → Prop) (w : World) (o : Obj) : Kept M w (mkW w o) := ⟨rfl, rfl, rfl, by rw [mkW_size]; omega, fun b hb _ => mkW_old w o b hb⟩
theorem mkW_cell (w : World) (cs : Array Value) (T : TypeId) (fz : Nat × Nat) (i : Nat) : (mkW w (.cells cs T fz)).cell? ⟨w.heap.size, i, none⟩ = cs[i]? := by
  simp [World.cell?, mkW_new]
theorem mkW_frozen (w : World) (cs : Array Value) (T : TypeId) (fz : Nat × Nat) (i : Nat) (h : i < fz.1 ∨ fz.2 ≤ i) : (mkW w (.cells cs T fz)).frozen? ⟨w.heap.size, i, none⟩ = false := by
  simp only [World.frozen?, mkW_new]
  rcases h with h | h <;> simp <;> omega
theorem mkW_seg (w : World) (vs : List Value) (T : TypeId) (fz : Nat × Nat) : Seg (mkW w (.cells vs.toArray T fz)) w.heap.size 0 vs := fun i hi => by
  rw [mkW_cell]; simp [hi]
theorem RepL.grow (hi : Inv X st a w A W V) (o : Obj) {W' : Wit} (hx : Ext W W') {cs : List AV} {vs : List Value} (h : RepL A W w cs vs) : RepL A W' (mkW w o) cs vs :=
  RepL.mono (fun _ h => h) (fun b hb => mkW_old w o b (hi.rep.ltA b hb)) hx cs vs h
theorem Inv.newBox (hi : Inv X st a w A W V) {cs : List AV} {vs : List Value} (h : RepL A W w cs vs) (T : TypeId) :
    ∃ W', Inv X (st.newLoc (.box cs)) a (mkW w (.cells vs.toArray T)) A W' V ∧ RepAV A W' (mkW w (.cells vs.toArray T)) (.ref st.nl 0) (.pointer (some ⟨w.heap.size, 0, none⟩)) := by
  have hx := ext_newLoc hi.rep (p := (.box w.heap.size, [w.heap.size]))
  have h1 := hi.rep.newLoc (l := .box cs) (lw := .box w.heap.size) (F := [w.heap.size]) (w' := mkW w (.cells vs.toArray T)) (by rw [mkW_size]; omega) (mkW_old w _) (by simp)
    (fun b hb => by simp at hb; subst hb; exact ⟨Nat.le_refl _, by rw [mkW_size]; omega, hi.newM (Nat.le_refl _)⟩)
    ⟨w.heap.size, vs, updW_same _ _ _, mkW_seg w vs T _, fun i _ => mkW_frozen w _ T _ _ (.inr (by simp)), RepL.grow hi _ hx h⟩
  refine ⟨_, hi.turn h1 (Nat.le_refl _) (mkW_kept _ _ _) (fun _ h => h) (fun _ h => .inl h) (fun j b F e => ?_) (hs := fun b hb => mkW_old w _ b (hi.old hb)), ?_⟩
  · rw [updW_other (fun e' => by subst e'; rw [hi.rep.fresh st.nl (Nat.le_refl _)] at e; cases e)]; exact e
  · simp only [RepAV]; exact ⟨w.heap.size, _, updW_same _ _ _, rfl⟩
theorem cells_rep {x : AV} {v : Value} (h : RepAV A W w x v) (hk : okCells x.cells = true) : RepL A W w x.cells v.cells.toList ∧ ∀ u ∈ v.cells.toList, u.oneCell' = true := by
  have one : ∀ {x : AV} {v : Value}, RepAV A W w x v → okCells [x] = true → v.oneCell' = true := by
    intro x v h hk
    cases x with
    | d t y => obtain ⟨S, _, hr⟩ := h.dval; exact hr.one t v (by simp)
    | nils => simp only [RepAV] at h; subst h; rfl
    | ref id off => simp only [RepAV] at h; obtain ⟨_, _, _, rfl⟩ := h; rfl
    | row id =>
      simp only [RepAV] at h
      obtain ⟨lw, F, _, hb, rfl⟩ := h
      cases lw <;> rfl
    | eref id i off => simp only [RepAV] at h; obtain ⟨_, _, _, _, _, _, _, _, rfl⟩ := h; rfl
    | dref t y off => simp only [RepAV] at h; obtain ⟨_, _, _, _, _, _, rfl, _⟩ := h; rfl
    | fn g cs => simp only [RepAV] at h; obtain ⟨_, rfl, _⟩ := h; rfl
    | agg _ => simp [okCells] at hk
    | tup _ => simp [okCells] at hk
    | any => simp [okCells] at hk
  have all : ∀ {cs : List AV} {vs : List Value}, RepL A W w cs vs → okCells cs = true → ∀ u ∈ vs, u.oneCell' = true := by
    intro cs
    induction cs with
    | nil => intro vs h _ u hu; simp only [RepL] at h; subst h; simp at hu
    | cons c cs ih =>
      intro vs h hk u hu
      simp only [RepL] at h
      obtain ⟨v, s, rfl, g1, g2⟩ := h
      have hc : okCells [c] = true ∧ okCells cs = true := by cases c <;> simp_all [okCells]
      rcases List.mem_cons.1 hu with rfl | hu
      · exact one g1 hc.1
      · exact ih g2 hc.2 u hu
  cases x with
  | agg cs =>
    simp only [RepAV] at h
    obtain ⟨vs, rfl, h⟩ := h
    simp only [AV.cells, Value.cells] at hk ⊢
    exact ⟨h, all h hk⟩
  | tup _ => simp [okCells, AV.cells] at hk
  | any => simp [okCells, AV.cells] at hk
  | _ =>
    have h1 := one h (by simpa [AV.cells] using hk)
    have hc : v.cells = #[v] := by cases v <;> simp_all [Value.cells, Value.oneCell']
    rw [hc]
    refine ⟨?_, by simpa using h1⟩
    simp only [AV.cells, RepL]
    exact ⟨v, [], rfl, h, rfl⟩
theorem matCells_ok (hi : Inv X st a w A W V) {t : Ty} {x : AV} {v : Value} (h : RepAV A W w x v) (hk : okCells x.cells = true) (hl : x.cells.length = t.size) {cs : List AV} {st' : St} (e : matCells t x st = (cs, st')) :
    ∃ W', Inv X st' a w A W' V ∧ Ext W W' ∧ RepL A W' w cs v.cells.toList ∧ (∀ u ∈ v.cells.toList, u.oneCell' = true) ∧ v.cells.size = t.size ∧ (∀ j, j < st.nl → W' j = W j) := by
  obtain ⟨h1, h2⟩ := cells_rep h hk
  rcases e' : t.mat x.cells st with ⟨xs, rr, s⟩
  unfold matCells at e
  rw [e'] at e
  simp only [Prod.mk.injEq] at e
  obtain ⟨rfl, rfl⟩ := e
  obtain ⟨W', r1, r2, r3, r4, r5, r6, r7⟩ := mat_rep t hi.rep h1 xs rr s e' (by omega)
  have hlen := RepL.length r3
  have hlen' := RepL.length h1
  simp only [List.length_append] at hlen
  have : rr = [] := List.eq_nil_of_length_eq_zero (by omega)
  subst this
  have hkb : s.kb = st.kb := by rw [← mat_kb t x.cells st, e']
  refine ⟨W', hi.turn r1 (by omega) (Kept.refl _ _) (fun _ h => h) (fun _ h => .inl h) (fun j b F e => ?_) (hkb := hkb), r2, by simpa using r3, h2, by simpa [hl] using hlen', r7⟩
  rw [r7 j (by
    rcases Nat.lt_or_ge j st.nl with h | h
    · exact h
    · have := hi.rep.fresh j h; rw [e] at this; cases this)]
  exact e
theorem op_box {T : Nat} {x : Operand} (hd : ∀ d : Nat, o.dst = some d → d < X.f.n) (ho : o.op = .box T x) (hi : Inv X st a w A W V)
    (hk : (match tyOf c T with
    | some (_, t) => bif okCells (opnd X.f st x).cells && Nat.beq (opnd X.f st x).cells.length t.size then
        match matCells t (opnd X.f st x) st with | (cs, st) => k ((st.newLoc (.box cs)).put X.f o.dst (.ref st.nl 0))
      else none
    | none => match opnd X.f st x with
      | .fn g cs => k ((st.newLoc (.box [.fn g cs])).put X.f o.dst (.ref st.nl 0))
      | _ => none) = some r) : o.wp P a w (Post X k r) Q := by
  have hx := hi.opnd x
  have run : (execOp a.eval o).run P w = .ok (.value (.pointer (some ⟨w.heap.size, 0, none⟩))) (mkW w (.cells (a.eval x).cells T)) := by
    simp [execOp, ho, Instr.box, newVar, newRow, mkW]
  split at hk
  · rename_i ag t ht
    obtain ⟨h1, hk⟩ := cond_some hk
    simp only [Bool.and_eq_true] at h1
    rcases e : matCells t (opnd X.f st x) st with ⟨cs, st'⟩
    rw [e] at hk
    obtain ⟨W', g1, g2, g3, g4, g5, _⟩ := matCells_ok hi hx h1.1 (Nat.eq_of_beq_eq_true h1.2) e
    obtain ⟨W'', q1, q2⟩ := g1.newBox g3 T
    have : (a.eval x).cells.toList.toArray = (a.eval x).cells := by simp
    rw [this] at q1 q2
    exact wp_value hd run q1 q2 hk
  · split at hk
    · rename_i g cs e
      rw [e] at hx
      have hr := cells_rep hx (by simp [AV.cells, okCells])
      simp only [AV.cells] at hr
      obtain ⟨W'', q1, q2⟩ := hi.newBox hr.1 T
      have : (a.eval x).cells.toList.toArray = (a.eval x).cells := by simp
      rw [this] at q1 q2
      exact wp_value hd run q1 q2 hk
    · cases hk
theorem zOK_rep : ∀ (t : Ty) {vs r : List Value}, zOK t vs = some r → ∃ us, vs = us ++ r ∧ RepL A W w t.zeros us
  | .bool, vs, r, h => by
    unfold zOK at h; split at h <;> simp_all
    exact ⟨[.bool false], rfl, by simp only [Ty.zeros, RepL]; exact ⟨_, [], rfl, RepAV.mkBool _, rfl⟩⟩
  | .int k, vs, r, h => by
    cases vs with
    | nil => simp [zOK] at h
    | cons v vs =>
      cases v with
      | int k' n =>
        simp only [zOK] at h
        cases e' : (decide (k = k') && n == 0) <;> rw [e'] at h <;> simp at h
        simp at e'
        obtain ⟨rfl, rfl⟩ := e'
        exact ⟨[.int k 0], by simp [h], by simp only [Ty.zeros, RepL]; exact ⟨_, [], rfl, RepAV.mkInt _ _, rfl⟩⟩
      | _ => simp [zOK] at h
  | .str, vs, r, h => by
    cases vs with
    | nil => simp [zOK] at h
    | cons v vs =>
      cases v with
      | string s =>
        simp only [zOK] at h
        cases e' : (s.data.size == 0) <;> rw [e'] at h <;> simp at h
        have e2 : s = ⟨([] : List UInt8).toArray⟩ := by
          cases s with
          | mk d => congr 1; exact Array.eq_empty_of_size_eq_zero (by simpa using e')
        exact ⟨[.string s], by simp [h], by simp only [Ty.zeros, RepL]; exact ⟨_, [], rfl, by rw [e2]; exact RepAV.mkStr _, rfl⟩⟩
      | _ => simp [zOK] at h
  | .sl t, vs, r, h => by
    unfold zOK at h; split at h <;> simp_all
    exact ⟨[.slice none 0 0], rfl, by simp only [Ty.zeros, RepL, RepAV]; exact ⟨_, [], rfl, rfl, rfl⟩⟩
  | .err, vs, r, h => by
    unfold zOK at h; split at h <;> simp_all
    exact ⟨[.nilIface], rfl, by simp only [Ty.zeros, RepL, RepAV, Rd]; exact ⟨_, [], rfl, ⟨[], by simp, by simp⟩, rfl⟩⟩
  | .unit, vs, r, h => by
    simp only [zOK, Option.some.injEq] at h
    exact ⟨[], by simp [h], by simp [Ty.zeros, RepL]⟩
  | .pair a b, vs, r, h => by
    simp only [zOK] at h
    cases ha : zOK a vs with
    | none => rw [ha] at h; simp at h
    | some ra =>
      rw [ha] at h
      obtain ⟨u1, e1, h1⟩ := zOK_rep a ha
      obtain ⟨u2, e2, h2⟩ := zOK_rep b h
      refine ⟨u1 ++ u2, by rw [e1, e2, List.append_assoc], ?_⟩
      simp only [Ty.zeros]
      exact RepL.append h1 h2
theorem zeros_rep (t : Ty) {z : Value} (h : zCells t z = true) : RepL A W w t.zeros z.cells.toList := by
  unfold zCells at h
  cases e : zOK t z.cells.toList with
  | none => rw [e] at h; simp at h
  | some r =>
    rw [e] at h
    cases r with
    | cons _ _ => simp at h
    | nil =>
      obtain ⟨us, e1, h1⟩ := zOK_rep (A := A) (W := W) (w := w) t e
      rw [e1]; simpa using h1
theorem zeroMat_ok (hi : Inv X st a w A W V) (t : Ty) {z : Value} (hz : zCells t z = true) {cs : List AV} {st' : St} (e : zeroMat t st = (cs, st')) :
    ∃ W', Inv X st' a w A W' V ∧ Ext W W' ∧ RepL A W' w cs z.cells.toList ∧ z.cells.toList.length = t.size := by
  have hlen := (zCells_rd hz w).length
  have hr := zeros_rep (A := A) (W := W) (w := w) t hz
  have hl := RepL.length hr
  rcases e' : t.mat t.zeros st with ⟨xs, rr, s⟩
  unfold zeroMat at e
  rw [e'] at e
  simp only [Prod.mk.injEq] at e
  obtain ⟨rfl, rfl⟩ := e
  obtain ⟨W', r1, r2, r3, r4, r5, r6, r7⟩ := mat_rep t hi.rep hr xs rr s e' (by omega)
  have hlen' := RepL.length r3
  simp only [List.length_append] at hlen'
  have : rr = [] := List.eq_nil_of_length_eq_zero (by omega)
  subst this
  have hkb : s.kb = st.kb := by rw [← mat_kb t t.zeros st, e']
  refine ⟨W', hi.turn r1 (by omega) (Kept.refl _ _) (fun _ h => h) (fun _ h => .inl h) (fun j b F e => ?_) (hkb := hkb), r2, by simpa using r3, hlen⟩
  rw [r7 j (by
    rcases Nat.lt_or_ge j st.nl with h | h
    · exact h
    · have := hi.rep.fresh j h; rw [e] at this; cases this)]
  exact e
theorem op_alloc (hc : chkAll P c.tab = true) {T : Nat} (hd : ∀ d : Nat, o.dst = some d → d < X.f.n) (ho : o.op = .alloc T) (hi : Inv X st a w A W V)
    (hk : (match tyOf c T with
    | some (_, t) => match zeroMat t st with | (cs, st) => k ((st.newLoc (.box cs)).put X.f o.dst (.ref st.nl 0))
    | none => none) = some r) : o.wp P a w (Post X k r) Q := by
  split at hk
  · rename_i ag t ht
    have fa := facts_of hc ht
    obtain ⟨z, hz, hzr, _⟩ := fa.zero
    rcases e : zeroMat t st with ⟨cs, st'⟩
    rw [e] at hk
    obtain ⟨W', g1, g2, g3, g4⟩ := zeroMat_ok hi t hzr e
    obtain ⟨W'', q1, q2⟩ := g1.newBox g3 T
    have : z.cells.toList.toArray = z.cells := by simp
    rw [this] at q1 q2
    refine wp_value hd ?_ q1 q2 hk
    simp [execOp, ho, Instr.alloc, hz, newVar, newRow, mkW]
  · cases hk

end
end Go.Proofs.Fw
