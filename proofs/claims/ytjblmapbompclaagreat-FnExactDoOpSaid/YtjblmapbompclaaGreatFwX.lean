/- Regions that draw their order: every order comes to what 'pure ones first' comes to. -/
import Derived.Test.YtjblmapbompclaaGreatFwW
set_option linter.all false
namespace Go.Proofs.Fw
open Go

section
variable [GInv] {P : Program} {ops : Array Oper} {C : World → Prop} {Q : Exit → Act → World → Prop}
def YieldsC (P : Program) (ops : Array Oper) (C : World → Prop) (o : Oper) (v : Value) (a : Act) : Prop :=
  (Region.wanted o (yielded ops a.tmps) = true ∧ ∀ w, C w → (execOp a.eval o).run P w = .ok (.value v) w) ∨ (Region.wanted o (yielded ops a.tmps) = false ∧ v = Go.undef)
def closedL (ops : Array Oper) (listed : Array Bool) : Prop := ∃ j, closer ops j = true ∧ listed.getD j false = true
theorem closedL_mono {listed : Array Bool} {i : Nat} (h : closedL ops listed) : closedL ops (listed.setIfInBounds i true) := by
  obtain ⟨j, h1, h2⟩ := h
  refine ⟨j, h1, ?_⟩
  by_cases e : i = j
  · subst e
    rcases Nat.lt_or_ge i listed.size with h' | h'
    · simp [h']
    · rw [Array.getD_eq_getD_getElem?, Array.getElem?_eq_none h'] at h2; simp at h2
  · rw [getD_set_ne false e]; exact h2
def DC (ops : Array Oper) (listed : Array Bool) : Prop := ∀ (m : Nat) (o : Oper), ops[m]? = some o → listed.getD m false = true → ∀ e ∈ o.after, Region.binds .any e = true → listed.getD e.on false = true
theorem getD_any {listed : Array Bool} {i : Nat} (h : listed.getD i true = false) : listed.getD i false = false := by
  rcases Nat.lt_or_ge i listed.size with h' | h'
  · simp [h'] at h ⊢; exact h
  · simp [Array.getElem?_eq_none h'] at h
theorem DC.step {listed : Array Bool} (h : DC ops listed) {j : Nat} (hj : j ∈ Region.ready .any ops listed) : DC ops (listed.setIfInBounds j true) := fun m o hm hl e he hb => by
  have up : ∀ i, listed.getD i false = true → (listed.setIfInBounds j true).getD i false = true := fun i h => by
    by_cases e : j = i
    · subst e
      rcases Nat.lt_or_ge j listed.size with h' | h'
      · simp [h']
      · rw [Array.getD_eq_getD_getElem?, Array.getElem?_eq_none h'] at h; simp at h
    · rw [getD_set_ne false e]; exact h
  by_cases hjm : j = m
  · subst hjm
    obtain ⟨_, oj, hoj, hall⟩ := mem_ready.1 hj
    rw [hoj] at hm
    cases hm
    exact up _ (hall e he hb)
  · rw [getD_set_ne false hjm] at hl
    exact up _ (h m o hm hl e he hb)
theorem closer_spec {listed : Array Bool} (hd : DC ops listed) {j : Nat} {o : Oper} (ho : ops[j]? = some o) (hc : closer ops j = true) (hall : ∀ e ∈ o.after, Region.binds .any e = true → listed.getD e.on false = true) {i : Nat} (hp : pureAt ops i = true) : listed.getD i false = true := by
  unfold closer at hc
  rw [ho] at hc
  simp only [Bool.and_eq_true, List.all_eq_true] at hc
  have hi : i < ops.size := by
    rcases Nat.lt_or_ge i ops.size with h | h
    · exact h
    · unfold pureAt at hp; rw [Array.getElem?_eq_none h] at hp; simp at hp
  have := hc.2 i (by simpa using hi)
  rw [hp] at this
  simp only [Bool.not_true, Bool.false_or, Bool.or_eq_true, List.any_eq_true, Bool.and_eq_true] at this
  rcases this with ⟨e, h1, h2, h3⟩ | ⟨e, h1, h2, h3⟩
  · have h3 := Nat.eq_of_beq_eq_true h3
    rw [← h3]
    exact hall e (by simpa using h1) h2
  · have h4 := hall e (by simpa using h1) h2
    cases hm : ops[e.on]? with
    | none => rw [hm] at h3; cases h3
    | some m =>
      rw [hm] at h3
      simp only [List.any_eq_true, Bool.and_eq_true] at h3
      obtain ⟨e', g1, g2, g3⟩ := h3
      have g3 := Nat.eq_of_beq_eq_true g3
      rw [← g3]
      exact hd e.on m hm h4 e' (by simpa using g1) g2
theorem closer_pure {j : Nat} (hc : closer ops j = true) : pureAt ops j = false := by
  unfold closer at hc
  unfold pureAt
  cases e : ops[j]? with
  | none => rfl
  | some o =>
    rw [e] at hc
    simp only [Bool.and_eq_true, Bool.not_eq_true'] at hc
    exact hc.1
def wpAnyC (P : Program) (ops : Array Oper) (C : World → Prop) (Q : Exit → Act → World → Prop) : Nat → Array Bool → Act → World → Prop
  | 0, listed, a, w => Region.ready .any ops listed = [] ∧ Q .normal a w
  | n + 1, listed, a, w => (Region.ready .any ops listed = [] → Q .normal a w) ∧
    ∀ i ∈ Region.ready .any ops listed, wpOp P ops Q i (fun a' w' => (closedL ops (listed.setIfInBounds i true) ∨ C w') ∧ wpAnyC P ops C Q n (listed.setIfInBounds i true) a' w') a w
theorem wpAnyC_mono {C' : World → Prop} (hC : ∀ w, C w → C' w) : ∀ (n : Nat) (listed : Array Bool) (a : Act) (w : World), wpAnyC P ops C Q n listed a w → wpAnyC P ops C' Q n listed a w
  | 0, _, _, _, h => h
  | n + 1, listed, a, w, h => ⟨h.1, fun i hi => wpOp_mono (fun a' w' h' => ⟨h'.1.imp (fun h => h) (hC w'), wpAnyC_mono hC n _ a' w' h'.2⟩) (h.2 i hi)⟩
theorem wpAnyC_closed {C' : World → Prop} : ∀ (n : Nat) (listed : Array Bool) (a : Act) (w : World), closedL ops listed → wpAnyC P ops C Q n listed a w → wpAnyC P ops C' Q n listed a w
  | 0, _, _, _, _, h => h
  | n + 1, listed, a, w, hl, h => ⟨h.1, fun i hi => wpOp_mono (fun a' w' h' => ⟨.inl (closedL_mono hl), wpAnyC_closed n _ a' w' (closedL_mono hl) h'.2⟩) (h.2 i hi)⟩
theorem wpAny_of_C : ∀ (n : Nat) (listed : Array Bool) (a : Act) (w : World), wpAnyC P ops C Q n listed a w → wpAny P .any ops Q n listed a w
  | 0, _, _, _, h => h
  | n + 1, listed, a, w, h => ⟨h.1, fun i hi => wpOp_mono (fun a' w' h' => wpAny_of_C n _ a' w' h'.2) (h.2 i hi)⟩
theorem YieldsC.wpOp {i : Nat} {o : Oper} {v : Value} {a : Act} (hi : ops[i]? = some o) (hy : YieldsC P ops C o v a) {K : Act → World → Prop} {w : World} (hw : C w) (h : K (a.put o.dst v) w) : wpOp P ops Q i K a w := by
  unfold Go.wpOp
  simp only [hi]
  rcases hy with ⟨e, hv⟩ | ⟨e, rfl⟩
  · rw [if_pos e]
    refine .inl ?_
    unfold Oper.wp
    rw [hv w hw]
    exact h
  · rw [if_neg (by rw [e]; simp)]
    exact h
theorem YieldsC.same {o : Oper} {v : Value} {a a' : Act} (hy : YieldsC P ops C o v a) (h1 : execOp a'.eval o = execOp a.eval o) (h2 : Region.wanted o (yielded ops a'.tmps) = Region.wanted o (yielded ops a.tmps)) : YieldsC P ops C o v a' := by
  unfold YieldsC
  rw [h1, h2]
  exact hy
theorem put_defer (a : Act) (x : Option Tmp) (v : Value) (d : Deferred) : ({ (a.put x v) with defers := d :: (a.put x v).defers } : Act) = ({ a with defers := d :: a.defers } : Act).put x v := by
  cases x <;> rfl
theorem wpOp_ahead {j : Nat} {oi oj : Oper} {v : Value} (hj : ops[j]? = some oj) (hap : oi.apart ops oj = true) (hsi : ∀ cs b, oi.op ≠ .select cs b) (hsj : ∀ cs b, oj.op ≠ .select cs b)
    (hQ : ∀ c a w, ¬ Q (.panic c) a w) {K : Act → World → Prop} {a : Act} {w : World} (hy : YieldsC P ops C oi v a) (h : wpOp P ops Q j K (a.put oi.dst v) w) :
    wpOp P ops Q j (fun a' w' => YieldsC P ops C oi v a' ∧ K (a'.put oi.dst v) w') a w := by
  obtain ⟨h1, h2, h3⟩ := Oper.apart_spec hap
  have hkeep : ∀ (b : Act), YieldsC P ops C oi v b → ∀ u, YieldsC P ops C oi v (b.put oj.dst u) := fun b hb u => hb.same (execOp_put oi hsi b oj.dst u h3) (wanted_put oi b oj.dst u h3)
  have hdone : ∀ (b : Act) (u : Value) (w' : World), YieldsC P ops C oi v b → K ((b.put oi.dst v).put oj.dst u) w' → YieldsC P ops C oi v (b.put oj.dst u) ∧ K ((b.put oj.dst u).put oi.dst v) w' := fun b u w' hb hk =>
    ⟨hkeep b hb u, by rw [← Act.put_comm b v u h2]; exact hk⟩
  unfold Go.wpOp at h ⊢
  simp only [hj] at h ⊢
  rw [wanted_put oj a oi.dst v h1] at h
  by_cases hw : Region.wanted oj (yielded ops a.tmps) = true
  · rw [if_pos hw] at h ⊢
    rcases h with h | ⟨g1, g2⟩
    · refine .inl ?_
      unfold Oper.wp at h ⊢
      rw [execOp_put oj hsj a oi.dst v h1] at h
      cases hr : (execOp a.eval oj).run P w with
      | ok n w' =>
        rw [hr] at h
        cases n with
        | value u => exact hdone a u w' hy h
        | skip => exact hdone a Go.undef w' hy h
        | defer d =>
          simp only [Oper.upon] at h ⊢
          rw [put_defer] at h
          exact hdone _ Go.undef w' (hy.same rfl rfl) h
        | enter f args =>
          simp only [Oper.upon] at h ⊢
          refine Calls.mono h fun e w'' he => ?_
          cases e with
          | returned u => exact hdone a u w'' hy he
          | panicked ch => exact absurd he (hQ _ _ _)
          | outgrown => exact he
        | row rw_ args =>
          simp only [Oper.upon] at h ⊢
          exact Rows.mono h fun u w'' he => hdone a u w'' hy he
        | _ => simp only [Oper.upon] at h
      | halt x w' =>
        rw [hr] at h
        cases x with
        | panic u => simp only [Oper.upon] at h; exact absurd h (hQ _ _ _)
        | _ => simp only [Oper.upon] at h
    · refine .inr ⟨?_, g2⟩
      unfold Oper.asks at g1 ⊢
      rw [execOp_put oj hsj a oi.dst v h1] at g1
      exact g1
  · rw [if_neg hw] at h ⊢
    exact hdone a Go.undef w hy h
theorem wpAnyC_first {i : Nat} {oi : Oper} {v : Value} (hi : ops[i]? = some oi) (hp : pureAt ops i = true) (hsel : ∀ (j : Nat) (o : Oper) cs b, ops[j]? = some o → o.op ≠ .select cs b) (hQ : ∀ c a w, ¬ Q (.panic c) a w) :
    ∀ (n : Nat) (listed : Array Bool) (a : Act) (w : World), DC ops listed → C w →
      (∀ j oj, ops[j]? = some oj → j ≠ i → listed.getD j true = false → (∀ e ∈ oj.after, Region.binds .any e = true → e.on ≠ i) → oi.apart ops oj = true) →
      i ∈ Region.ready .any ops listed → (∀ c, closer ops c = true → listed.getD c false = false) → YieldsC P ops C oi v a →
      wpAnyC P ops C Q n (listed.setIfInBounds i true) (a.put oi.dst v) w → wpAnyC P ops C Q (n + 1) listed a w
  | n, listed, a, w, hdc, hw, hfree, hr, hno, hy, H => by
    refine ⟨fun h0 => (by rw [h0] at hr; cases hr), fun j hj => ?_⟩
    by_cases hji : j = i
    · subst hji
      exact hy.wpOp hi hw ⟨.inr hw, H⟩
    · have hj2 := ready_mono (i := i) hj hji
      obtain ⟨hjun, oj, hoj, hall⟩ := mem_ready.1 hj
      have hnot : ∀ e ∈ oj.after, Region.binds .any e = true → e.on ≠ i := fun e he hb heq => by
        have h1 := hall e he hb
        have h0 := (mem_ready.1 hr).1
        rw [heq] at h1
        rcases Nat.lt_or_ge i listed.size with h' | h'
        · simp [h'] at h0 h1; rw [h0] at h1; cases h1
        · simp [Array.getElem?_eq_none h'] at h1
      cases n with
      | zero => rw [H.1] at hj2; cases hj2
      | succ n =>
        have h2 := wpOp_ahead hoj (hfree j oj hoj hji hjun hnot) (fun cs b => hsel i oi cs b hi) (fun cs b => hsel j oj cs b hoj) hQ hy (H.2 j hj2)
        have hjc : closer ops j = false := by
          cases e : closer ops j
          · rfl
          · have h1 := closer_spec hdc hoj e hall hp
            rw [getD_any (mem_ready.1 hr).1] at h1; cases h1
        have hno' : ∀ c, closer ops c = true → (listed.setIfInBounds j true).getD c false = false := fun c hc => by
          have : j ≠ c := fun e => by subst e; rw [hjc] at hc; cases hc
          rw [getD_set_ne false this]; exact hno c hc
        have hcw : ∀ w', (closedL ops ((listed.setIfInBounds i true).setIfInBounds j true) ∨ C w') → C w' := fun w' h => by
          rcases h with ⟨c, hc1, hc2⟩ | h
          · have h1 : j ≠ c := fun e => by subst e; rw [hjc] at hc1; cases hc1
            have h2 : i ≠ c := fun e => by subst e; rw [closer_pure hc1] at hp; cases hp
            rw [getD_set_ne false h1, getD_set_ne false h2, hno c hc1] at hc2
            cases hc2
          · exact h
        refine wpOp_mono (fun a' w' h3 => ⟨.inr (hcw w' h3.2.1), ?_⟩) h2
        refine wpAnyC_first hi hp hsel hQ n (listed.setIfInBounds j true) a' w' (hdc.step hj) (hcw w' h3.2.1) (fun k ok hk hki hun hno => hfree k ok hk hki ?_ hno) (ready_mono hr (Ne.symm hji)) hno' h3.1 ?_
        · by_cases hjk : j = k
          · subst hjk; exact hjun
          · rw [getD_set_ne true hjk] at hun; exact hun
        · rw [Array.setIfInBounds_comm _ _ hji]
          exact h3.2.2
end

section
variable [GInv] {R : Type} {P : Program} {c : Cfg} {X : Ctx} {st : St} {a : Act} {w : World} {A : Nat → Prop} {W : Wit} {V : Nat → Value} {o : Oper} {k : St → Option R} {r : R} {Q : Exit → Act → World → Prop} {h : (R : Type) → CallH R}
theorem alt_self {α : Type} (x : Option α) : alt x x = x := by
  unfold alt; simp
theorem altAll_spec {f : Nat → Option R} : ∀ {l : List Nat}, altAll f l = some r → ∀ i ∈ l, f i = some r
  | [], h => by simp [altAll] at h
  | [i], h => by intro j hj; simp at hj; subst hj; simpa only [altAll] using h
  | i :: j :: l, h => by
    simp only [altAll] at h
    obtain ⟨h1, h2⟩ := alt_spec h
    intro x hx
    rcases List.mem_cons.1 hx with rfl | hx
    · exact h1
    · exact altAll_spec h2 x hx
theorem firstPure_mem {ops : Array Oper} : ∀ {l : List Nat} {j : Nat}, firstPure ops l = some j → j ∈ l
  | [], _, h => by simp [firstPure] at h
  | i :: l, j, h => by
    simp only [firstPure] at h
    cases e : pureAt ops i
    · rw [e] at h; exact List.mem_cons_of_mem _ (firstPure_mem h)
    · rw [e] at h; simp at h; simp [h]
def Ctx.watch (X : Ctx) (st : St) (w : World) (A : Nat → Prop) (W : Wit) : Ctx := { X with C := fun b => A b ∨ ∃ j, st.kb.has j = true ∧ W j = some (.box b, [b]), wC := w }
theorem Inv.watch (hi : Inv X st a w A W V) : Inv (X.watch st w A W) st a w A W V :=
  ⟨hi.rep, hi.size, hi.defers, hi.cur, hi.outer, hi.nb, hi.kept, hi.up, hi.down, hi.box, hi.new, fun _ h => h, fun _ _ => rfl, hi.z, hi.gi⟩
theorem Inv.unwatch (hi : Inv X st a w A W V) {st' : St} {a' : Act} {w' : World} {A' : Nat → Prop} {W' : Wit} {V' : Nat → Value} (h : Inv (X.watch st w A W) st' a' w' A' W' V') : Inv X st' a' w' A' W' V' :=
  ⟨h.rep, h.size, h.defers, h.cur, h.outer, h.nb, h.kept, h.up, h.down, h.box, h.new, fun b hb => h.keep b (hi.keep b hb), fun b hb => (h.same b (hi.keep b hb)).trans (hi.same b hb), h.z, h.gi⟩
def Cls (X : Ctx) (w : World) : Prop := ∀ b, X.C b → w.heap[b]? = X.wC.heap[b]?
theorem firstPure_pure {ops : Array Oper} : ∀ {l : List Nat} {j : Nat}, firstPure ops l = some j → pureAt ops j = true
  | [], _, h => by simp [firstPure] at h
  | i :: l, j, h => by
    simp only [firstPure] at h
    cases e : pureAt ops i
    · rw [e] at h; exact firstPure_pure h
    · rw [e] at h; simp at h; subst h; exact e
theorem drawK_ok (hc : chkAll P c.tab = true) (hq : eqFacts P c.tab c.eqs = true) (hh : HOK P h) {ops : Array Oper} (hs : Region.noSelect ops = true) (hQp : ∀ c a w, ¬ Q (.panic c) a w) (X0 : Ctx) (kb0 : Lk)
    (hrel : ∀ (st' : St) (a' : Act) (w' : World) (A' : Nat → Prop) (W' : Wit) (V' : Nat → Value), Inv X0 st' a' w' A' W' V' → Inv X0 (st'.keep kb0) a' w' A' W' V') (hQ : ∀ a w, Post X0 k r a w → Q .normal a w) :
    ∀ (n : Nat) (X : Ctx) (listed : Array Bool) (st : St) (a : Act) (w : World) (A : Nat → Prop) (W : Wit) (V : Nat → Value), X.f = X0.f →
      (∀ (st' : St) (a' : Act) (w' : World) (A' : Nat → Prop) (W' : Wit) (V' : Nat → Value), Inv X st' a' w' A' W' V' → Inv X0 st' a' w' A' W' V') →
      (∀ j, closer ops j = true → listed.getD j false = true → ∀ i, pureAt ops i = true → listed.getD i false = true) → DC ops listed → Inv X st a w A W V → drawK c (h R) X.f kb0 ops n listed st k = some r →
      wpAnyC P ops (Cls X) Q n listed a w
  | 0, X, listed, st, a, w, A, W, V, hf, hX, hcl, hdc, hi, hk => by
    unfold drawK at hk
    split at hk
    · rename_i e; exact ⟨e, hQ a w ⟨st, A, W, V, hk, hX _ _ _ _ _ _ hi⟩⟩
    · cases hk
  | n + 1, X, listed, st, a, w, A, W, V, hf, hX, hcl, hdc, hi, hk => by
    unfold drawK at hk
    split at hk
    · rename_i e; exact ⟨fun _ => hQ a w ⟨st, A, W, V, hk, hX _ _ _ _ _ _ hi⟩, fun i hi' => by rw [e] at hi'; cases hi'⟩
    · rename_i i l e
      have hcl' : ∀ j, j ∈ Region.ready .any ops listed → ∀ c, closer ops c = true → (listed.setIfInBounds j true).getD c false = true → ∀ i, pureAt ops i = true → (listed.setIfInBounds j true).getD i false = true := fun j hj c hc1 hc2 i hp => by
        obtain ⟨hjun, oj, hoj, hall⟩ := mem_ready.1 hj
        have up : listed.getD i false = true → (listed.setIfInBounds j true).getD i false = true := fun h => by
          by_cases e : j = i
          · subst e
            rcases Nat.lt_or_ge j listed.size with h' | h'
            · simp [h']
            · rw [Array.getD_eq_getD_getElem?, Array.getElem?_eq_none h'] at h; simp at h
          · rw [getD_set_ne false e]; exact h
        by_cases e : j = c
        · subst e
          exact up (closer_spec hdc hoj hc1 hall hp)
        · rw [getD_set_ne false e] at hc2
          exact up (hcl c hc1 hc2 i hp)
      split at hk
      · -- a pure one first
        rename_i j hf'
        split at hk
        · rename_i o ho
          obtain ⟨hfr, hk⟩ := cond_some hk
          unfold operP at hk
          obtain ⟨hd, hk⟩ := cond_some hk
          have hd := dstOK_spec hd
          have hi1 := hi.watch
          have hmem : j ∈ Region.ready .any ops listed := by rw [e]; exact firstPure_mem hf'
          have hpj := firstPure_pure hf'
          have hno : ∀ c, closer ops c = true → listed.getD c false = false := fun c hc1 => by
            cases e : listed.getD c false
            · rfl
            · have h1 := hcl c hc1 e j hpj
              have h0 := (mem_ready.1 hmem).1
              rcases Nat.lt_or_ge j listed.size with h' | h'
              · simp [h'] at h0 h1; rw [h0] at h1; cases h1
              · simp [Array.getElem?_eq_none h'] at h1
          have hsub : ∀ w', Cls (X.watch st w A W) w' → Cls X w' := fun w' h b hb => (h b (hi.keep b hb)).trans (hi.same b hb)
          refine wpAnyC_mono hsub _ _ _ _ ?_
          have go : ∀ {st2 : St} {v : Value} {av : AV} {V2 : Nat → Value}, Inv (X.watch st w A W) st2 a w A W V2 → RepAV A W w av v → drawK c (h R) X.f kb0 ops n (listed.setIfInBounds j true) (st2.put X.f o.dst av) k = some r → YieldsC P ops (Cls (X.watch st w A W)) o v a →
              wpAnyC P ops (Cls (X.watch st w A W)) Q (n + 1) listed a w := fun {st2 v av V2} h1 h2 h3 hy => by
            obtain ⟨V3, h4⟩ := h1.put hd h2
            exact wpAnyC_first ho hpj (Region.noSelect_spec hs) hQp n listed a w hdc (fun b _ => rfl) (Region.free_spec ho hfr) hmem hno hy
              (drawK_ok hc hq hh hs hQp X0 kb0 hrel hQ n (X.watch st w A W) _ _ _ w A W V3 hf (fun st' a' w' A' W' V' hh' => hX _ _ _ _ _ _ (hi.unwatch hh')) (hcl' j hmem) (hdc.step hmem) h4 h3)
          rcases guardK_ok hi1 hk with ⟨ew, st', V', h1, hkb, h2⟩ | ⟨ew, st', V', h1, hkb, h2⟩
          · obtain ⟨v, av, g1, g2, g3⟩ := pureK_ok hc hq h1 (fun b hb => .inl hb) (fun j b hj e => .inr ⟨j, by rw [← hkb]; exact hj, e⟩) h2
            exact go h1 g2 g3 (.inl ⟨ew, fun w' hw' => g1 w' hw'⟩)
          · exact go h1 RepAV.undef h2 (.inr ⟨ew, rfl⟩)
        · cases hk
      · -- any of those that act
        have hall := altAll_spec hk
        refine ⟨fun h0 => (by rw [e] at h0; cases h0), fun j hj => ?_⟩
        have hmem := hj
        rw [e] at hj
        have hkj := hall j hj
        cases ho : ops[j]? with
        | none => rw [ho] at hkj; cases hkj
        | some o =>
          rw [ho] at hkj
          simp only at hkj
          cases hcj : closer ops j with
          | false =>
            rw [hcj] at hkj
            have hst := operK_ok (Q := Q) (ops := ops) hc hq hh hi hkj
            have hK : ∀ a' w', Post X (fun st => drawK c (h R) X.f kb0 ops n (listed.setIfInBounds j true) st k) r a' w' → (closedL ops (listed.setIfInBounds j true) ∨ Cls X w') ∧ wpAnyC P ops (Cls X) Q n (listed.setIfInBounds j true) a' w' := fun a' w' ⟨st', A', W', V', h1, h2⟩ =>
              ⟨.inr h2.same, drawK_ok hc hq hh hs hQp X0 kb0 hrel hQ n X _ st' a' w' A' W' V' hf hX (hcl' j hmem) (hdc.step hmem) h2 h1⟩
            unfold Go.wpOp
            simp only [ho]
            split
            · rename_i hw
              rw [if_pos hw] at hst
              exact .inl (Oper.wp_mono hK hst)
            · rename_i hw
              rw [if_neg hw] at hst
              exact hK _ _ hst
          | true =>
            rw [hcj, hf] at hkj
            have hi0 := hrel _ _ _ _ _ _ (hX _ _ _ _ _ _ hi)
            have hst := operK_ok (Q := Q) (ops := ops) hc hq hh hi0 hkj
            have hcl2 : closedL ops (listed.setIfInBounds j true) := ⟨j, hcj, by
              have h0 := (mem_ready.1 hmem).1
              rcases Nat.lt_or_ge j listed.size with h' | h'
              · simp [h']
              · simp [Array.getElem?_eq_none h'] at h0⟩
            have hK : ∀ a' w', Post X0 (fun st => drawK c (h R) X0.f kb0 ops n (listed.setIfInBounds j true) st k) r a' w' → (closedL ops (listed.setIfInBounds j true) ∨ Cls X w') ∧ wpAnyC P ops (Cls X) Q n (listed.setIfInBounds j true) a' w' := fun a' w' ⟨st', A', W', V', h1, h2⟩ =>
              ⟨.inl hcl2, wpAnyC_closed _ _ _ _ hcl2 (drawK_ok hc hq hh hs hQp X0 kb0 hrel hQ n X0 _ st' a' w' A' W' V' rfl (fun _ _ _ _ _ _ h => h) (hcl' j hmem) (hdc.step hmem) h2 h1)⟩
            unfold Go.wpOp
            simp only [ho]
            split
            · rename_i hw
              rw [if_pos hw] at hst
              exact .inl (Oper.wp_mono hK hst)
            · rename_i hw
              rw [if_neg hw] at hst
              exact hK _ _ hst

end
end Go.Proofs.Fw
