/- One operation, whichever; guards; regions in their order. -/
import Derived.Test.YtjblmapbompclaaGreatFwT
set_option linter.all false
namespace Go.Proofs.Fw
open Go
def Callable (P : Program) (g : Nat) : Prop := ∀ args w, (callFunc g args).run P w = .ok (.enter g args) w
def HOK [GInv] (P : Program) (h : (R : Type) → CallH R) : Prop :=
  ∀ (R : Type) (X : Ctx) (st : St) (a : Act) (w : World) (A : Nat → Prop) (W : Wit) (V : Nat → Value) (g : Nat) (avs : List AV) (vs : List Value) (k : AV → St → Option R) (r : R),
    Inv X st a w A W V → RepL A W w avs vs → h R g avs st k = some r →
    Callable P g ∧ Calls P g vs.toArray w (fun e w' => ∃ st' A' W' V' av v, e = .returned v ∧ Inv X st' a w' A' W' V' ∧ RepAV A' W' w' av v ∧ k av st' = some r)

section
variable [GInv] {R : Type} {P : Program} {c : Cfg} {X : Ctx} {st : St} {a : Act} {w : World} {A : Nat → Prop} {W : Wit} {V : Nat → Value} {o : Oper} {k : St → Option R} {r : R} {Q : Exit → Act → World → Prop} {h : (R : Type) → CallH R}
theorem opnds_rep (hi : Inv X st a w A W V) : ∀ l : List Operand, RepL A W w (l.map (opnd X.f st)) (l.map a.eval)
  | [] => by simp [RepL]
  | x :: l => by simp only [List.map_cons, RepL]; exact ⟨_, _, rfl, hi.opnd x, opnds_rep hi l⟩
theorem op_call (hh : HOK P h) {cl : Call} {f : Operand} (hd : ∀ d : Nat, o.dst = some d → d < X.f.n) (ho : o.op = .call cl) (hcb : cl.callee = .value f) (hi : Inv X st a w A W V)
    (hk : (match opnd X.f st f with
    | .fn g caps => h R g ((cl.args.toList.map (opnd X.f st)) ++ caps) st fun v st => k (st.put X.f o.dst v)
    | _ => none) = some r) : o.wp P a w (Post X k r) Q := by
  have hf := hi.opnd f
  split at hk
  · rename_i g caps e
    rw [e] at hf
    simp only [RepAV] at hf
    obtain ⟨vs, e1, h1⟩ := hf
    have h2 := (opnds_rep hi cl.args.toList).append h1
    obtain ⟨hc, hcall⟩ := hh R X st a w A W V g _ _ _ r hi h2 hk
    have harr : (cl.args.toList.map a.eval ++ vs).toArray = cl.args.map a.eval ++ vs.toArray := by
      apply Array.ext'; simp
    rw [harr] at hcall
    have run : (execOp a.eval o).run P w = .ok (.enter g (cl.args.map a.eval ++ vs.toArray)) w := by
      have := hc (cl.args.map a.eval ++ vs.toArray) w
      simp only [execOp, ho, Go.resolve, hcb, e1, Deferred.ofValue, Sem.run_bind, Sem.run_pure, Result.andThen_ok, invoke, Array.empty_append]
      exact this
    unfold Oper.wp
    rw [run]
    simp only [Oper.upon]
    refine hcall.mono fun e w' ⟨st', A', W', V', av, v, he, h3, h4, h5⟩ => ?_
    subst he
    obtain ⟨V'', h6⟩ := h3.put hd h4
    exact ⟨_, A', W', V'', h5, h6⟩
  · cases hk
theorem opK_ok (hc : chkAll P c.tab = true) (hq : eqFacts P c.tab c.eqs = true) (hh : HOK P h) (hd : ∀ d : Nat, o.dst = some d → d < X.f.n) (hi : Inv X st a w A W V) (hk : opK c (h R) X.f o st k = some r) : o.wp P a w (Post X k r) Q := by
  unfold opK at hk
  split at hk
  · rename_i x ho; exact op_move hd (.inl ho) hi hk
  · rename_i x ho; exact op_move hd (.inr ho) hi hk
  · rename_i x y z ho; exact op_pick hd ho hi hk
  · rename_i T ho; exact op_alloc hc hd ho hi hk
  · rename_i T x ho; exact op_box hd ho hi hk
  · rename_i T parts ho; exact op_build hc hd ho hi hk
  · rename_i T n parts ho; exact op_buildSlice hc hd ho hi hk
  · rename_i T x ho; exact op_load hc hd ho hi hk
  · rename_i T x y ho
    split at hk
    · rename_i hd'; exact op_store hc hd' ho hi hk
    · cases hk
  · rename_i x ho; exact op_nilCheck hd ho hi hk
  · rename_i op T x y T' ho; exact op_bin hc hq hd ho hi hk
  · rename_i op T x ho; exact op_unOp hd ho hi hk
  · rename_i S D x ho; exact op_convert hc hd ho hi hk
  · rename_i fn first caps ho; exact op_makeFunc hd ho hi hk
  · rename_i T l m ho; exact op_makeSlice hc hd ho hi hk
  · rename_i T ho; exact op_makeMap hc hd ho hi hk
  · rename_i T m x v ho
    split at hk
    · rename_i hd'; exact op_mapUpdate hc hd' ho hi hk
    · cases hk
  · rename_i T m x co ho; exact op_lookup hc hd ho hi hk
  · rename_i T x lo hi' ho; exact op_slice hc hd ho hi hk
  · rename_i T x f ho; exact op_fieldAddr hc hd ho hi hk
  · rename_i T x f ho; exact op_field hc hd ho hi hk
  · rename_i T x ix ho; exact op_indexAddr hc hd ho hi hk
  · rename_i T x ix ho; exact op_index hc hd ho hi hk
  · rename_i x i ho; exact op_extract hd ho hi hk
  · rename_i cl ho
    unfold callK at hk
    split at hk
    · rename_i hcb; exact op_len hc hd ho hcb hi hk
    · rename_i hcb; exact op_append hc hd ho hcb hi hk
    · rename_i hcb; exact op_minmax (mx := false) hd ho hcb hi hk
    · rename_i hcb; exact op_minmax (mx := true) hd ho hcb hi hk
    · rename_i f hcb; exact op_call hh hd ho hcb hi hk
    · cases hk
  · cases hk
theorem RepAV.undef : RepAV A W w (.tup []) Go.undef := by
  simp only [RepAV]; exact ⟨[], rfl, by simp [RepL]⟩
theorem Inv.reslot (hi : Inv X st a w A W V) {e : Nat} (he : e < X.f.n) {av : AV} (hv : RepAV A W w av (a.tmps.getD e Go.undef)) : ∃ V', Inv X (st.ev (.slot (X.f.b + e) av)) a w A W V' := by
  obtain ⟨V', h⟩ := hi.put (dst := some e) (fun d hd => by cases hd; exact he) hv
  have hs := hi.size
  have : a.put (some e) (a.tmps.getD e Go.undef) = a := by
    obtain ⟨tm, df⟩ := a
    simp only [Act.put]
    congr 1
    apply Array.ext (by simp)
    intro i h1 h2
    rw [Array.getElem_setIfInBounds]
    split
    · rename_i e'; subst e'; simp [h2]
    · rfl
  rw [this] at h
  exact ⟨V', h⟩
theorem at_lt {f : Fm} {t : Nat} (h : st.at f t ≠ .any) : t < f.n := by
  unfold St.at at h
  cases e : Nat.blt t f.n
  · rw [e] at h; exact absurd rfl h
  · exact Nat.le_of_ble_eq_true e
theorem guardK_ok (hi : Inv X st a w A W V) {ops : Array Oper} {no yes : St → Option R} (hk : guardK X.f ops o st no yes = some r) :
    (Region.wanted o (yielded ops a.tmps) = true ∧ ∃ st' V', Inv X st' a w A W V' ∧ st'.kb = st.kb ∧ yes st' = some r) ∨
    (Region.wanted o (yielded ops a.tmps) = false ∧ ∃ st' V', Inv X st' a w A W V' ∧ st'.kb = st.kb ∧ no st' = some r) := by
  unfold guardK at hk
  unfold Region.wanted
  split at hk
  · rename_i hg
    rw [hg]
    exact .inl ⟨rfl, st, V, hi, rfl, hk⟩
  · rename_i j want hg
    rw [hg]
    simp only
    unfold yielded
    split at hk
    · cases hk
    · rename_i e he
      rw [he]
      have hv := hi.at e
      simp only [Option.bind_some]
      split at hk
      · rename_i b hb
        have hlt : e < X.f.n := at_lt (by rw [hb]; simp)
        rw [hb] at hv
        have hv := hv.bool
        have hget : a.tmps[e]? = some (.bool b) := by
          have hs := hi.size
          have : @LT.lt Nat _ e a.tmps.size := by rw [hs]; exact hlt
          rw [Array.getElem?_eq_getElem this]
          simp [this] at hv
          rw [hv]
        rw [hget]
        have hre : ∀ b', b = b' → ∃ V', Inv X (st.ev (.slot (X.f.b + e) (.d .bool b'))) a w A W V' := fun b' e' => hi.reslot hlt (by rw [hv, e']; exact RepAV.mkBool _)
        cases b <;> cases want <;> simp only [cond] at hk
        · obtain ⟨V', h1⟩ := hre false rfl
          exact .inl ⟨by simp, _, V', h1, rfl, hk⟩
        · obtain ⟨V', h1⟩ := hre false rfl
          exact .inr ⟨by simp, _, V', h1, rfl, hk⟩
        · obtain ⟨V', h1⟩ := hre true rfl
          exact .inr ⟨by simp, _, V', h1, rfl, hk⟩
        · obtain ⟨V', h1⟩ := hre true rfl
          exact .inl ⟨by simp, _, V', h1, rfl, hk⟩
      · rename_i hb
        have hlt : e < X.f.n := at_lt (by rw [hb]; simp)
        rw [hb] at hv
        simp only [RepAV, RepL] at hv
        obtain ⟨vs, hv, rfl⟩ := hv
        have hget : a.tmps[e]? = some (.tuple #[]) := by
          have hs := hi.size
          have : @LT.lt Nat _ e a.tmps.size := by rw [hs]; exact hlt
          rw [Array.getElem?_eq_getElem this]
          simp [this] at hv
          rw [hv]
        rw [hget]
        exact .inr ⟨by simp, st, V, hi, rfl, hk⟩
      · cases hk
theorem dstOK_spec {f : Fm} (hd : dstOK f o = true) : ∀ d : Nat, o.dst = some d → d < f.n := fun d e => by
  unfold dstOK at hd
  rw [e] at hd
  exact Nat.le_of_ble_eq_true hd
theorem operK_ok (hc : chkAll P c.tab = true) (hq : eqFacts P c.tab c.eqs = true) (hh : HOK P h) {ops : Array Oper} (hi : Inv X st a w A W V) (hk : operK c (h R) X.f ops o st k = some r) :
    if Region.wanted o (yielded ops a.tmps) then o.wp P a w (Post X k r) Q else Post X k r (a.put o.dst Go.undef) w := by
  unfold operK at hk
  obtain ⟨hd, hk⟩ := cond_some hk
  have hd := dstOK_spec hd
  rcases guardK_ok hi hk with ⟨e, st', V', h1, _, h2⟩ | ⟨e, st', V', h1, _, h2⟩
  · rw [e]; simp only [if_true]; exact opK_ok hc hq hh hd h1 h2
  · rw [e]
    obtain ⟨V'', h3⟩ := h1.put hd RepAV.undef
    exact ⟨_, A, W, V'', h2, h3⟩
theorem opsK_ok (hc : chkAll P c.tab = true) (hq : eqFacts P c.tab c.eqs = true) (hh : HOK P h) {ops : Array Oper} (hQ : ∀ a w, Post X k r a w → Q .normal a w) : ∀ (l : List Oper) (n : Nat) (st : St) (a : Act) (w : World) (A : Nat → Prop) (W : Wit) (V : Nat → Value),
    (∀ j, j < l.length → l[j]? = ops[n + j]?) → Inv X st a w A W V → opsK c (h R) X.f ops l st k = some r → wpOps P ops Q (List.range' n l.length) a w
  | [], n, st, a, w, A, W, V, _, hi, hk => hQ a w ⟨st, A, W, V, hk, hi⟩
  | o :: l, n, st, a, w, A, W, V, hl, hi, hk => by
    have ho : ops[n]? = some o := by have := hl 0 (by simp); simpa using this.symm
    simp only [List.length_cons, List.range'_succ, wpOps, ho]
    have hrest : ∀ a w, Post X (fun st => opsK c (h R) X.f ops l st k) r a w → wpOps P ops Q (List.range' (n + 1) l.length) a w := fun a w ⟨st', A', W', V', h1, h2⟩ =>
      opsK_ok hc hq hh hQ l (n + 1) st' a w A' W' V' (fun j hj => by have := hl (j + 1) (by simpa using hj); rw [List.getElem?_cons_succ] at this; rw [this]; congr 1; omega) h2 h1
    have := operK_ok (Q := Q) (ops := ops) hc hq hh hi hk
    split
    · rename_i hw
      rw [hw] at this
      simp only [if_true] at this
      exact .inl (Oper.wp_mono hrest this)
    · rename_i hw
      rw [if_neg hw] at this
      exact hrest _ _ this

end
end Go.Proofs.Fw
