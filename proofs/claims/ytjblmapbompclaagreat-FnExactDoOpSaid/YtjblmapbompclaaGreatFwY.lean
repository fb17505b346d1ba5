/- Code: what the executor says of it holds of the machine. -/
import Derived.Test.YtjblmapbompclaaGreatFwX
import Derived.LoopN
set_option linter.all false
namespace Go.Proofs.Fw
open Go
def QK [GInv] {R : Type} (X : Ctx) (k : Ex → St → Option R) (r : R) : Exit → Act → World → Prop
  | .normal, a, w => Post X (k .normal) r a w
  | .exit i, a, w => Post X (k (.exit i)) r a w
  | .ret, a, w => Post X (k .ret) r a w
  | _, _, _ => False
def LoopEq (c : Cfg) (h : (R : Type) → CallH R) (f : Fm) (body : Code) (s : LSpec) : Prop :=
  (∀ p, s.L 0 p = none) ∧ ∀ n p, s.L (n + 1) p = roundK c h f body s.li s (s.L n) p

section
variable [GInv] {P : Program} {c : Cfg} {X : Ctx} {h : (R : Type) → CallH R}
theorem findLoop_spec {f : Fm} {li : Nat} {s : LSpec} : ∀ {l : List LSpec}, findLoop f li l = some s → s ∈ l ∧ s.b = f.b ∧ s.li = li ∧ s.g = f.g ∧ s.lv = f.lv ∧ s.l0 = f.l0
  | [], h => by simp [findLoop] at h
  | x :: l, h => by
    simp only [findLoop] at h
    cases e : (Nat.beq x.b f.b && Nat.beq x.li li && Nat.beq x.g f.g && Nat.beq x.lv f.lv && Nat.beq x.l0 f.l0)
    · rw [e] at h
      obtain ⟨h1, h2⟩ := findLoop_spec (by simpa using h)
      exact ⟨List.mem_cons_of_mem _ h1, h2⟩
    · rw [e] at h
      simp only [Bool.and_eq_true] at e
      obtain ⟨⟨⟨⟨e1, e2⟩, e3⟩, e4⟩, e5⟩ := e
      simp at h
      subst h
      exact ⟨by simp, Nat.eq_of_beq_eq_true e1, Nat.eq_of_beq_eq_true e2, Nat.eq_of_beq_eq_true e3, Nat.eq_of_beq_eq_true e4, Nat.eq_of_beq_eq_true e5⟩
theorem obind_some {α β : Type} {x : Option α} {f : α → Option β} {y : β} (h : obind x f = some y) : ∃ z, x = some z ∧ f z = some y := by
  cases x with
  | none => cases h
  | some z => exact ⟨z, rfl, h⟩
theorem code_ok (hc : chkAll P c.tab = true) (hq : eqFacts P c.tab c.eqs = true) (hh : HOK P h) (hm : P.follows .mixedOrders = true) {whole : Code}
    (hL : ∀ s ∈ c.lo, s.b = X.f.b → s.g = X.f.g → s.lv = X.f.lv → s.l0 = X.f.l0 → ∀ body, loopAt whole s.li = some body → LoopEq c h X.f body s) :
    ∀ (code : Code) (R : Type) (li : Nat) (st : St) (k : Ex → St → Option R) (r : R) (a : Act) (w : World) (A : Nat → Prop) (W : Wit) (V : Nat → Value), (∀ j, j < nloops code → loopAt whole (li + j) = loopAt code j) →
      Inv X st a w A W V → codeK c h X.f code li st k = some r → code.wp P (QK X k r) a w
  | .skip, R, li, st, k, r, a, w, A, W, V, _, hi, hk => by
    unfold codeK at hk
    exact wp_skip ⟨st, A, W, V, hk, hi⟩
  | .ret, R, li, st, k, r, a, w, A, W, V, _, hi, hk => by
    unfold codeK at hk
    exact wp_ret ⟨st, A, W, V, hk, hi⟩
  | .exit i, R, li, st, k, r, a, w, A, W, V, _, hi, hk => by
    unfold codeK at hk
    exact wp_exit ⟨st, A, W, V, hk, hi⟩
  | .region id ops draw, R, li, st, k, r, a, w, A, W, V, _, hi, hk => by
    unfold codeK at hk
    cases draw with
    | false =>
      refine wp_region ?_
      have := opsK_ok (Q := QK X k r) (ops := ops) hc hq hh (fun a w h => h) ops.toList 0 st a w A W V (fun j _ => by rw [Nat.zero_add]; simp) hi hk
      rw [List.range_eq_range']
      simpa using this
    | true =>
      simp only at hk
      obtain ⟨h1, hk⟩ := cond_some hk
      simp only [Bool.and_eq_true] at h1
      obtain ⟨hs, hkb⟩ := h1
      have hkb := Nat.le_of_ble_eq_true hkb
      refine wp_region_any hm ?_
      let X2 : Ctx := { X with A0 := A, W0 := fun j => if j < X.f.l0 then W j else none }
      have hW0 : ∀ j, j < X.f.l0 → X2.W0 j = W j := fun j hj => by simp only [X2]; rw [if_pos hj]
      have hkept : Kept X.M w { w with drawn := w.drawn + 1 } := ⟨rfl, rfl, rfl, Nat.le_refl _, fun _ _ _ => rfl⟩
      have hi0 : Rep (st.keep ⟨st.nl, freeOf X.f st (storeTgts ops.toList ops.toList)⟩) { w with drawn := w.drawn + 1 } X.M A W V := by
        have h0 := hi.rep.heap (w' := { w with drawn := w.drawn + 1 }) rfl
        exact ⟨h0.ltA, h0.nodup, h0.own, h0.apart, h0.fresh, h0.slots, h0.locs, h0.freshb⟩
      have hlt : ∀ j p, W j = some p → j < st.nl := fun j p e => by
        rcases Nat.lt_or_ge j st.nl with h | h
        · exact h
        · rw [hi.rep.fresh j h] at e; cases e
      have hWb : ∀ j b F, X2.W0 j = some (.box b, F) → W j = some (.box b, F) := fun j b F e => by
        simp only [X2] at e
        split at e
        · exact e
        · cases e
      have hWz : ∀ j p, X2.W0 j = some p → j < X.f.l0 := fun j p e => by
        simp only [X2] at e
        split at e
        · assumption
        · cases e
      have hi2 : Inv X2 (st.keep ⟨st.nl, freeOf X.f st (storeTgts ops.toList ops.toList)⟩) a { w with drawn := w.drawn + 1 } A W V :=
        ⟨hi0, hi.size, hi.defers, hi.cur, hi.outer, hi.nb, hi.kept.trans hkept, fun _ h => h, fun b hb => .inl hb, hWb, hi.new, fun b hb => (hi.keep b hb).imp (fun h => h) fun ⟨j, hj, e⟩ => ⟨j, Lk.has_mk hj (hlt j _ e), e⟩, hi.same, hWz, ⟨hi.gi.1, fun b hb => ⟨hi.up b (hi.gi.2 b hb).1, (hi.gi.2 b hb).2⟩⟩⟩
      have hrel : ∀ (st' : St) (a' : Act) (w' : World) (A' : Nat → Prop) (W' : Wit) (V' : Nat → Value), Inv X2 st' a' w' A' W' V' → Inv X2 (st'.keep st.kb) a' w' A' W' V' := fun st' a' w' A' W' V' g2 => by
        have hr := g2.rep
        exact ⟨⟨hr.ltA, hr.nodup, hr.own, hr.apart, hr.fresh, hr.slots, hr.locs, hr.freshb⟩, g2.size, g2.defers, g2.cur, g2.outer, g2.nb, g2.kept, g2.up, g2.down, g2.box, g2.new,
          fun b hb => (hi.keep b hb).elim (fun h => .inl (g2.up b h)) (fun ⟨j, hj, e⟩ => .inr ⟨j, hj, g2.box j b _ ((hW0 j (Nat.lt_of_lt_of_le (Lk.has_lt hj) hkb)).trans e)⟩), g2.same, g2.z, g2.gi⟩
      have hback : ∀ (st' : St) (a' : Act) (w' : World) (A' : Nat → Prop) (W' : Wit) (V' : Nat → Value), Inv X2 st' a' w' A' W' V' → Inv X (st'.keep st.kb) a' w' A' W' V' := fun st' a' w' A' W' V' g2 => by
        have hr := g2.rep
        exact ⟨⟨hr.ltA, hr.nodup, hr.own, hr.apart, hr.fresh, hr.slots, hr.locs, hr.freshb⟩, g2.size, g2.defers, g2.cur, g2.outer, g2.nb, g2.kept, fun b hb => g2.up b (hi.up b hb),
          fun b hb => (g2.down b hb).elim (hi.down b) .inr, fun j b F e => g2.box j b F ((hW0 j (hi.z j _ e)).trans (hi.box j b F e)), g2.new,
          fun b hb => (hi.keep b hb).elim (fun h => .inl (g2.up b h)) (fun ⟨j, hj, e⟩ => .inr ⟨j, hj, g2.box j b _ ((hW0 j (Nat.lt_of_lt_of_le (Lk.has_lt hj) hkb)).trans e)⟩), g2.same, hi.z, hi.gi⟩
      have hdc0 : DC ops (Array.replicate ops.size false) := fun m _ _ hl => by
        exfalso
        rw [Array.getD_eq_getD_getElem?] at hl
        rcases Nat.lt_or_ge m ops.size with h' | h'
        · simp [h'] at hl
        · rw [Array.getElem?_eq_none (by simpa using h')] at hl; simp at hl
      have hnone : ∀ j, closer ops j = true → (Array.replicate ops.size false).getD j false = true → ∀ i, pureAt ops i = true → (Array.replicate ops.size false).getD i false = true := fun j _ hl => by
        exfalso
        rw [Array.getD_eq_getD_getElem?] at hl
        rcases Nat.lt_or_ge j ops.size with h' | h'
        · simp [h'] at hl
        · rw [Array.getElem?_eq_none (by simpa using h')] at hl; simp at hl
      split at hk
      · refine wpAny_of_C _ _ _ _ (drawK_ok (Q := QK X k r) (k := fun st' => k .normal (st'.keep st.kb)) hc hq hh hs (fun _ _ _ h => by exact h) X2 st.kb hrel (fun a' w' h => ?_) _ X2 _ _ _ _ A W V rfl (fun _ _ _ _ _ _ h => h) hnone hdc0 hi2 hk)
        obtain ⟨st', A', W', V', g1, g2⟩ := h
        exact ⟨st'.keep st.kb, A', W', V', g1, hback _ _ _ _ _ _ g2⟩
      · rename_i s _
        obtain ⟨p, hp, hk⟩ := obind_some hk
        refine wpAny_of_C _ _ _ _ (drawK_ok (Q := QK X k r) (k := fun st' => s.fit X.f (st'.keep st.kb)) hc hq hh hs (fun _ _ _ h => by exact h) X2 st.kb hrel (fun a' w' h => ?_) _ X2 _ _ _ _ A W V rfl (fun _ _ _ _ _ _ h => h) hnone hdc0 hi2 hp)
        obtain ⟨st', A', W', V', g1, g2⟩ := h
        obtain ⟨W'', g3⟩ := fit_ok (hback _ _ _ _ _ _ g2) g1
        exact ⟨_, A', W'', V', hk, g3⟩
  | .seq x y, R, li, st, k, r, a, w, A, W, V, hsub, hi, hk => by
    unfold codeK at hk
    refine wp_seq ?_
    have h1 := code_ok hc hq hh hm hL x R li st _ r a w A W V (fun j hj => by
      rw [hsub j (by simp only [nloops]; omega)]
      simp only [loopAt]
      have : Nat.blt j (nloops x) = true := Nat.ble_eq_true_of_le hj
      rw [this]; rfl) hi hk
    refine wp_mono h1 fun e a' w' he => ?_
    cases e with
    | normal =>
      obtain ⟨st', A', W', V', g1, g2⟩ := he
      refine code_ok hc hq hh hm hL y R (li + nloops x) st' k r a' w' A' W' V' (fun j hj => ?_) g2 g1
      rw [Nat.add_assoc, hsub (nloops x + j) (by simp only [nloops]; omega)]
      simp only [loopAt]
      have : Nat.blt (nloops x + j) (nloops x) = false := by
        rw [Bool.eq_false_iff]
        intro h
        have := Nat.le_of_ble_eq_true h
        omega
      rw [this, Nat.add_sub_cancel_left]; rfl
    | _ => exact he
  | .cond x y z, R, li, st, k, r, a, w, A, W, V, hsub, hi, hk => by
    unfold codeK at hk
    have hx := hi.opnd x
    split at hk
    · rename_i t e
      rw [e] at hx
      refine wp_cond hx.bool ?_
      cases t with
      | true =>
        refine code_ok hc hq hh hm hL y R li st k r a w A W V (fun j hj => ?_) hi hk
        rw [hsub j (by simp only [nloops]; omega)]
        simp only [loopAt]
        have : Nat.blt j (nloops y) = true := Nat.ble_eq_true_of_le hj
        rw [this]; rfl
      | false =>
        refine code_ok hc hq hh hm hL z R (li + nloops y) st k r a w A W V (fun j hj => ?_) hi hk
        rw [Nat.add_assoc, hsub (nloops y + j) (by simp only [nloops]; omega)]
        simp only [loopAt]
        have : Nat.blt (nloops y + j) (nloops y) = false := by
          rw [Bool.eq_false_iff]
          intro h
          have := Nat.le_of_ble_eq_true h
          omega
        rw [this, Nat.add_sub_cancel_left]; rfl
    · cases hk
  | .block i b, R, li, st, k, r, a, w, A, W, V, hsub, hi, hk => by
    unfold codeK at hk
    refine wp_block ?_
    have h1 := code_ok hc hq hh hm hL b R li st _ r a w A W V (fun j hj => by rw [hsub j hj]; rfl) hi hk
    refine wp_mono h1 fun e a' w' he => ?_
    cases e with
    | exit j =>
      obtain ⟨st', A', W', V', g1, g2⟩ := he
      simp only [Exit.inBlock]
      simp only at g1
      cases e' : Nat.beq j i with
      | true =>
        rw [e'] at g1
        rw [if_pos (Nat.eq_of_beq_eq_true e')]
        exact ⟨st', A', W', V', g1, g2⟩
      | false =>
        rw [e'] at g1
        rw [if_neg (Nat.ne_of_beq_eq_false e')]
        exact ⟨st', A', W', V', g1, g2⟩
    | _ => exact he
  | .loop b, R, li, st, k, r, a, w, A, W, V, hsub, hi, hk => by
    unfold codeK at hk
    split at hk
    · cases hk
    · rename_i s hs
      obtain ⟨m1, m2, m3, m4, m5, m6⟩ := findLoop_spec hs
      split at hk
      · cases hk
      · rename_i p hp
        obtain ⟨q, hq1, hk⟩ := obind_some hk
        have hbody : loopAt whole s.li = some b := by
          rw [m3, show li = li + 0 from rfl, hsub 0 (by simp [nloops])]; rfl
        obtain ⟨e0, e1⟩ := hL s m1 m2 m4 m5 m6 b hbody
        have key : ∀ (n : Nat) (p : s.head.ty.den) (a : Act) (w : World) (A : Nat → Prop) (W : Wit) (V : Nat → Value), s.L n p = some q → Inv X (s.head.build p) a w A W V → Code.rounds P b (QK X k r) n a w := by
          intro n
          induction n with
          | zero => intro p a w A W V h1 _; rw [e0 p] at h1; cases h1
          | succ n ih =>
            intro p a w A W V h1 h2
            rw [e1 n p] at h1
            unfold roundK at h1
            rw [rounds_succ]
            have h3 := code_ok hc hq hh hm hL b _ (s.li + 1) _ _ _ a w A W V (fun j hj => by
              rw [m3, Nat.add_assoc, hsub (1 + j) (by simp only [nloops]; omega)]
              simp only [loopAt, Nat.add_comm 1 j]) h2 h1
            refine wp_mono h3 fun e a' w' he => ?_
            cases e with
            | normal =>
              obtain ⟨st', A', W', V', g1, g2⟩ := he
              simp only at g1
              split at g1
              · rename_i p' hp'
                obtain ⟨W'', g3⟩ := fit_ok g2 hp'
                exact ih p' a' w' A' W'' V' g1 g3
              · cases g1
            | ret =>
              obtain ⟨st', A', W', V', g1, g2⟩ := he
              simp only at g1
              split at g1
              · rename_i q' hq'
                obtain ⟨W'', g3⟩ := fit_ok g2 hq'
                simp only [Option.some.injEq] at g1
                subst g1
                exact ⟨_, A', W'', V', hk, g3⟩
              · cases g1
            | exit j =>
              obtain ⟨st', A', W', V', g1, g2⟩ := he
              simp only at g1
              split at g1
              · rename_i hj
                have hj := Nat.eq_of_beq_eq_true hj
                subst hj
                split at g1
                · rename_i q' hq'
                  obtain ⟨W'', g3⟩ := fit_ok g2 hq'
                  simp only [Option.some.injEq] at g1
                  subst g1
                  exact ⟨_, A', W'', V', hk, g3⟩
                · cases g1
              · cases g1
            | _ => exact he
        obtain ⟨W', h2⟩ := fit_ok hi hp
        exact wp_loop_rounds c.K (key c.K p a w A W' V hq1 h2)
  | .label _, _, _, _, _, _, _, _, _, _, _, _, _, hk => by unfold codeK at hk; cases hk
  | .goto _, _, _, _, _, _, _, _, _, _, _, _, _, hk => by unfold codeK at hk; cases hk
  | .scope _, _, _, _, _, _, _, _, _, _, _, _, _, hk => by unfold codeK at hk; cases hk
  | .refuse _, _, _, _, _, _, _, _, _, _, _, _, _, hk => by unfold codeK at hk; cases hk
  | .rangeFunc _ _ _ _, _, _, _, _, _, _, _, _, _, _, _, _, hk => by unfold codeK at hk; cases hk
end
end Go.Proofs.Fw
