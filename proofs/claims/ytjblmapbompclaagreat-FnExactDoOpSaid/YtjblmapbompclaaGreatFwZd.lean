/- A function's contract, out of what the executor says of it. -/
import Derived.Test.YtjblmapbompclaaGreatFwZc
set_option linter.all false
namespace Go.Proofs.Fw
open Go
variable [GInv]

section
variable {R : Type} {P : Program} {c : Cfg} {X : Ctx} {st : St} {a : Act} {w w' : World} {A A' B : Nat → Prop} {W : Wit} {V : Nat → Value} {r : R} {M : Nat → Prop}
theorem Rep.newBoxAt (h : Rep st w M A W V) {cs : List AV} {b : Nat} (hb : b < w.heap.size ∧ M b ∧ ¬ A b) (hap : ∀ j lw F, W j = some (lw, F) → b ∉ F) (hl : ∀ W', Ext W W' → W' st.nl = some (.box b, [b]) → LocRep A W' w st.nl (.box cs)) :
    Rep (st.newLoc (.box cs)) w M A (updW W st.nl (some (.box b, [b]))) V := by
  have hW : Ext W (updW W st.nl (some (.box b, [b]))) := ext_newLoc h
  have he : ∀ j lw' F', updW W st.nl (some (.box b, [b])) j = some (lw', F') → (j = st.nl ∧ F' = [b]) ∨ (j ≠ st.nl ∧ W j = some (lw', F')) := fun j lw' F' e => by
    by_cases e' : j = st.nl
    · subst e'; rw [updW_same] at e; simp only [Option.some.injEq, Prod.mk.injEq] at e; exact .inl ⟨rfl, e.2.symm⟩
    · rw [updW_other e'] at e; exact .inr ⟨e', e⟩
  refine ⟨h.ltA, ?_, ?_, ?_, ?_, fun k => RepAV.mono (fun _ h => h) (fun _ _ => rfl) hW _ _ (h.slots k), ?_, h.freshb⟩
  · intro j lw' F' e
    rcases he j lw' F' e with ⟨_, rfl⟩ | ⟨_, e⟩
    · simp
    · exact h.nodup j lw' F' e
  · intro j lw' F' e c hc
    rcases he j lw' F' e with ⟨_, rfl⟩ | ⟨_, e⟩
    · simp at hc; subst hc; exact hb
    · exact h.own j lw' F' e c hc
  · intro i j lwi Fi lwj Fj hij ei ej c hc hc'
    rcases he i lwi Fi ei with ⟨rfl, rfl⟩ | ⟨_, ei2⟩ <;> rcases he j lwj Fj ej with ⟨rfl, rfl⟩ | ⟨_, ej2⟩
    · exact hij rfl
    · simp at hc; subst hc; exact hap j lwj Fj ej2 hc'
    · simp at hc'; subst hc'; exact hap i lwi Fi ei2 hc
    · exact h.apart i j lwi Fi lwj Fj hij ei2 ej2 c hc hc'
  · intro j hj
    have : st.nl + 1 ≤ j := hj
    rw [updW_other (by omega)]
    exact h.fresh j (by omega)
  · intro j l' p hp hl'
    have hl' : (st.ev (.loc st.nl (.box cs))).loc j = some l' := hl'
    rw [loc_loc] at hl'
    by_cases e : st.nl = j
    · subst e
      simp only [if_true, Option.some.injEq] at hl'
      rw [← hl']; exact hl _ hW (updW_same _ _ _)
    · rw [if_neg e] at hl'
      rw [updW_other (Ne.symm e)] at hp
      exact LocRep.mono (fun _ h => h) (fun _ _ => rfl) hW hp (by rw [updW_other (Ne.symm e)]; exact hp) (fun _ _ => rfl) (h.locs j l' p hp hl')
theorem Rep.newRowAt (h : Rep st w M A W V) {t : Ty} {xs : List t.den} {lw : LW} {S : List Nat} (hn : S.Nodup) (ho : ∀ b ∈ S, b < w.heap.size ∧ M b ∧ ¬ A b) (hap : ∀ j lw F, W j = some (lw, F) → ∀ b ∈ F, b ∉ S)
    (hl : ∀ W' : Wit, W' st.nl = some (lw, S) → LocRep A W' w st.nl (.row t xs true)) :
    Rep (st.newLoc (.row t xs true)) w M A (updW W st.nl (some (lw, S))) V := by
  have hW : Ext W (updW W st.nl (some (lw, S))) := ext_newLoc h
  have he : ∀ j lw' F', updW W st.nl (some (lw, S)) j = some (lw', F') → (j = st.nl ∧ F' = S) ∨ (j ≠ st.nl ∧ W j = some (lw', F')) := fun j lw' F' e => by
    by_cases e' : j = st.nl
    · subst e'; rw [updW_same] at e; simp only [Option.some.injEq, Prod.mk.injEq] at e; exact .inl ⟨rfl, e.2.symm⟩
    · rw [updW_other e'] at e; exact .inr ⟨e', e⟩
  refine ⟨h.ltA, ?_, ?_, ?_, ?_, fun k => RepAV.mono (fun _ h => h) (fun _ _ => rfl) hW _ _ (h.slots k), ?_, h.freshb⟩
  · intro j lw' F' e
    rcases he j lw' F' e with ⟨_, rfl⟩ | ⟨_, e⟩
    · exact hn
    · exact h.nodup j lw' F' e
  · intro j lw' F' e c hc
    rcases he j lw' F' e with ⟨_, rfl⟩ | ⟨_, e⟩
    · exact ho c hc
    · exact h.own j lw' F' e c hc
  · intro i j lwi Fi lwj Fj hij ei ej c hc hc'
    rcases he i lwi Fi ei with ⟨rfl, rfl⟩ | ⟨_, ei2⟩ <;> rcases he j lwj Fj ej with ⟨rfl, rfl⟩ | ⟨_, ej2⟩
    · exact hij rfl
    · exact hap j lwj Fj ej2 c hc' hc
    · exact hap i lwi Fi ei2 c hc hc'
    · exact h.apart i j lwi Fi lwj Fj hij ei2 ej2 c hc hc'
  · intro j hj
    have : st.nl + 1 ≤ j := hj
    rw [updW_other (by omega)]
    exact h.fresh j (by omega)
  · intro j l' p hp hl'
    have hl' : (st.ev (.loc st.nl (.row t xs true))).loc j = some l' := hl'
    rw [loc_loc] at hl'
    by_cases e : st.nl = j
    · subst e
      simp only [if_true, Option.some.injEq] at hl'
      rw [← hl']; exact hl _ (updW_same _ _ _)
    · rw [if_neg e] at hl'
      rw [updW_other (Ne.symm e)] at hp
      exact LocRep.mono (fun _ h => h) (fun _ _ => rfl) hW hp (by rw [updW_other (Ne.symm e)]; exact hp) (fun _ _ => rfl) (h.locs j l' p hp hl')
theorem Rep.slot (h : Rep st w M A W V) {key : Nat} {av : AV} (hk : key < st.nb) (hv : RepAV A W w av (V key)) : Rep (st.ev (.slot key av)) w M A W V := by
  have := h.put hk hv
  have e : updV V key (V key) = V := by
    funext j; unfold updV; split
    · rename_i e; rw [e]
    · rfl
  rwa [e] at this
def BoxesAt (W : Wit) : List PK → Nat → List (List Nat) → Prop
  | [], _, bs => bs = []
  | .ptr _ :: r, n, bs => ∃ b bs', bs = [b] :: bs' ∧ W n = some (.box b, [b]) ∧ BoxesAt W r (n + 1) bs'
  | .mut _ t :: r, n, bs => ∃ Ss bs', bs = Ss ++ bs' ∧ Ss.length = nSl t ∧ BoxesAt W r (n + nSl t) bs'
  | .take _ t :: r, n, bs => ∃ Ss bs', bs = Ss ++ bs' ∧ Ss.length = nSl t ∧ BoxesAt W r n bs'
  | _ :: r, n, bs => BoxesAt W r n bs
theorem BoxesAt.mono {W' : Wit} : ∀ {ins : List PK} {bs : List (List Nat)} {n : Nat}, (∀ j, n ≤ j → j < n + nIds ins → W' j = W j) → BoxesAt W ins n bs → BoxesAt W' ins n bs
  | [], _, _, _, h => h
  | .val _ _ :: r, _, _, h, g => BoxesAt.mono (ins := r) h g
  | .fn _ _ :: r, _, _, h, g => BoxesAt.mono (ins := r) h g
  | .ptr _ :: r, _, n, h, ⟨b, bs', e, h1, h2⟩ => ⟨b, bs', e, by rw [h n (Nat.le_refl _) (by simp [nIds])]; exact h1, BoxesAt.mono (fun j h3 h4 => h j (by omega) (by simp only [nIds]; omega)) h2⟩
  | .mut _ t :: r, _, n, h, ⟨Ss, bs', e, h1, h2⟩ => ⟨Ss, bs', e, h1, BoxesAt.mono (fun j h3 h4 => h j (by omega) (by simp only [nIds]; omega)) h2⟩
  | .take _ t :: r, _, n, h, ⟨Ss, bs', e, h1, h2⟩ => ⟨Ss, bs', e, h1, BoxesAt.mono (fun j h3 h4 => h j h3 (by simpa only [nIds] using h4)) h2⟩
def MutV0 (V : Nat → Value) : List PK → List Value → Nat → Prop
  | [], _, _ => True
  | .mut _ _ :: r, u :: us, j => V j = u ∧ MutV0 V r us (j + 1)
  | .mut _ _ :: _, [], _ => False
  | .take _ _ :: r, vs, j => MutV0 V r vs.tail j
  | _ :: r, us, j => MutV0 V r us.tail j
theorem val_rep {ag : Bool} {t : Ty} {x : t.den} {S : List Nat} {v : Value} (h : ValRd w ag t x S v) (hS : ∀ b ∈ S, A b) : RepAV A W w (mkAV ag (t.unpack x)) v := by
  unfold ValRd at h
  cases ag with
  | true =>
    simp only [if_true] at h
    obtain ⟨cc, rfl, h⟩ := h
    simpa using mkAV_rep (ag := true) (unpack_rep (W := W) t h hS) (fun e => by cases e)
  | false =>
    simp only [Bool.false_eq_true, if_false] at h
    simpa using mkAV_rep (ag := false) (unpack_rep (W := W) t h hS) (fun _ => rfl)
theorem caps_rep : ∀ (ts : List Ty) {x : (tysTy ts).den} {cs : List Value}, CapsRd w B ts cs x → RepL B W w (capAVs ts x) cs
  | [], _, _, h => by simp only [CapsRd] at h; simpa only [capAVs, RepL] using h
  | t :: r, x, _, ⟨b, o, us, cs, S, rfl, h2, h3, h4, h5, h6⟩ => by
    simp only [capAVs, RepL, RepAV]
    exact ⟨_, _, rfl, ⟨b, o, S, cs, h2, h5, rfl, h3, h4⟩, caps_rep r h6⟩
theorem ownCells_at : ∀ (t : Ty) {x : t.den} {Ss : List (List Nat)} {cs : List Value} {st : St} {W : Wit}, OwnL w t x Ss cs → Rep st w M B W V → Ss.flatten.Nodup → (∀ b ∈ Ss.flatten, b < w.heap.size ∧ M b ∧ ¬ B b) → (∀ j lw F, W j = some (lw, F) → ∀ b ∈ F, b ∉ Ss.flatten) →
    ∃ W', Rep (t.ownCells x st).2 w M B W' V ∧ RepL B W' w (t.ownCells x st).1 cs ∧ (t.ownCells x st).2.nl = st.nl + nSl t ∧ (t.ownCells x st).2.nb = st.nb ∧ (t.ownCells x st).2.kb = st.kb ∧ Ext W W' ∧ (∀ j, j < st.nl → W' j = W j) ∧
      (∀ j lw F, W' j = some (lw, F) → (∃ lw', W j = some (lw', F)) ∨ ∀ b ∈ F, b ∈ Ss.flatten)
  | .unit, x, Ss, cs, st, W, h, hr, hn, ho, hap => by
    obtain ⟨rfl, rfl⟩ := h
    exact ⟨W, hr, by simp [Ty.ownCells, RepL], rfl, rfl, rfl, Ext.refl W, fun _ _ => rfl, fun j lw F e => .inl ⟨lw, e⟩⟩
  | .bool, x, Ss, cs, st, W, h, hr, hn, ho, hap => by
    obtain ⟨rfl, h⟩ := h
    refine ⟨W, hr, ?_, rfl, rfl, rfl, Ext.refl W, fun _ _ => rfl, fun j lw F e => .inl ⟨lw, e⟩⟩
    simp only [Rd] at h
    simp only [Ty.ownCells, RepL]
    exact ⟨_, [], h.2, RepAV.mkBool _, rfl⟩
  | .int k, x, Ss, cs, st, W, h, hr, hn, ho, hap => by
    obtain ⟨rfl, h⟩ := h
    refine ⟨W, hr, ?_, rfl, rfl, rfl, Ext.refl W, fun _ _ => rfl, fun j lw F e => .inl ⟨lw, e⟩⟩
    simp only [Rd] at h
    simp only [Ty.ownCells, RepL]
    exact ⟨_, [], h.2, RepAV.mkInt _ _, rfl⟩
  | .str, x, Ss, cs, st, W, h, hr, hn, ho, hap => by
    obtain ⟨rfl, h⟩ := h
    refine ⟨W, hr, ?_, rfl, rfl, rfl, Ext.refl W, fun _ _ => rfl, fun j lw F e => .inl ⟨lw, e⟩⟩
    simp only [Rd] at h
    simp only [Ty.ownCells, RepL]
    exact ⟨_, [], h.2, RepAV.mkStr _, rfl⟩
  | .err, x, Ss, cs, st, W, h, hr, hn, ho, hap => by
    obtain ⟨rfl, h⟩ := h
    refine ⟨W, hr, ?_, rfl, rfl, rfl, Ext.refl W, fun _ _ => rfl, fun j lw F e => .inl ⟨lw, e⟩⟩
    have hl := h.length
    simp only [Ty.size] at hl
    obtain ⟨u, rfl⟩ := List.length_eq_one_iff.1 hl
    simp only [Ty.ownCells, RepL]
    exact ⟨_, [], rfl, by simp only [RepAV]; exact ⟨[], by simp, h⟩, rfl⟩
  | .sl t, x, Ss, cs, st, W, h, hr, hn, ho, hap => by
    obtain ⟨S, rfl, h⟩ := h
    simp only [List.flatten_cons, List.flatten_nil, List.append_nil] at hn ho hap
    have main : ∀ lw, (∀ b, lw ≠ LW.box b) → cs = [lw.val] → (∀ W' : Wit, W' st.nl = some (lw, S) → LocRep B W' w st.nl (.row t x true)) →
        ∃ W', Rep ((Ty.sl t).ownCells x st).2 w M B W' V ∧ RepL B W' w ((Ty.sl t).ownCells x st).1 cs ∧ ((Ty.sl t).ownCells x st).2.nl = st.nl + nSl (.sl t) ∧ ((Ty.sl t).ownCells x st).2.nb = st.nb ∧ ((Ty.sl t).ownCells x st).2.kb = st.kb ∧ Ext W W' ∧ (∀ j, j < st.nl → W' j = W j) ∧
          (∀ j lw F, W' j = some (lw, F) → (∃ lw', W j = some (lw', F)) ∨ ∀ b ∈ F, b ∈ [S].flatten) := fun lw hlw hcs hloc => by
      refine ⟨updW W st.nl (some (lw, S)), hr.newRowAt hn ho hap hloc, ?_, rfl, rfl, rfl, ext_newLoc hr, fun j hj => updW_other (by omega), fun j lw' F e => ?_⟩
      · simp only [Ty.ownCells, RepL, RepAV]
        exact ⟨_, [], hcs, ⟨lw, S, updW_same _ _ _, hlw, rfl⟩, rfl⟩
      · by_cases e' : j = st.nl
        · subst e'
          rw [updW_same] at e
          simp only [Option.some.injEq, Prod.mk.injEq] at e
          rw [← e.2]
          exact .inr (by simp)
        · rw [updW_other e'] at e
          exact .inl ⟨lw', e⟩
    unfold OwnRd at h
    rcases h with ⟨rfl, rfl, rfl⟩ | ⟨b, off, cap, S', rfl, rfl, h4, h5, h6, h7⟩
    · exact main .nil (fun _ e => by cases e) rfl (fun W' e => .inl ⟨e, rfl⟩)
    · exact main (.row b off t.size x.length cap) (fun _ e => by cases e) rfl (fun W' e => .inr ⟨b, off, cap, S', by simpa using e, h4, h5, h6, h7, fun h => by cases h⟩)
  | .pair p q, x, Ss, cs, st, W, h, hr, hn, ho, hap => by
    obtain ⟨S1, S2, c1, c2, rfl, rfl, h1, h2⟩ := h
    rw [List.flatten_append] at hn ho hap
    rw [List.nodup_append] at hn
    obtain ⟨W1, r1, r2, r3, r4, r5, r6, r7, r8⟩ := ownCells_at p (st := st) h1 hr hn.1 (fun b hb => ho b (by simp [hb])) (fun j lw F e b hb h => hap j lw F e b hb (by simp [h]))
    obtain ⟨W2, q1, q2, q3, q4, q5, q6, q7, q8⟩ := ownCells_at q (st := (p.ownCells x.1 st).2) h2 r1 hn.2.1 (fun b hb => ho b (by simp [hb])) (fun j lw F e b hb h => by
      rcases r8 j lw F e with ⟨lw', e'⟩ | h'
      · exact hap j lw' F e' b hb (by simp [h])
      · exact hn.2.2 b (h' b hb) b h rfl)
    simp only [Ty.ownCells]
    refine ⟨W2, q1, RepL.append (RepL.mono (fun _ h => h) (fun _ _ => rfl) q6 _ _ r2) q2, by rw [q3, r3]; simp only [nSl]; omega, q4.trans r4, q5.trans r5, r6.trans q6, fun j hj => (q7 j (by omega)).trans (r7 j hj), fun j lw F e => ?_⟩
    rcases q8 j lw F e with ⟨lw', e'⟩ | h'
    · rcases r8 j lw' F e' with ⟨lw'', e''⟩ | h''
      · exact .inl ⟨lw'', e''⟩
      · exact .inr fun b hb => by rw [List.flatten_append]; simp [h'' b hb]
    · exact .inr fun b hb => by rw [List.flatten_append]; simp [h' b hb]
theorem start_ok : ∀ (ins : List PK) (x : (insTy ins).den) (i j0 : Nat) (st : St) (W : Wit) (us : List Value) (bs : List (List Nat)), Rep st w M B W V → ArgsRd w B ins us x bs → (∀ n, n < us.length → V (i + n) = us.getD n Go.undef) → i + ins.length ≤ st.nb → j0 + nMut ins ≤ i →
    MutV0 V ins us j0 → bs.flatten.Nodup → (∀ b ∈ bs.flatten, b < w.heap.size ∧ M b ∧ ¬ B b) → (∀ j lw F, W j = some (lw, F) → ∀ b ∈ F, b ∉ bs.flatten) →
    ∃ W', Rep (startK ins x i j0 st) w M B W' V ∧ (startK ins x i j0 st).nl = st.nl + nIds ins ∧ (startK ins x i j0 st).nb = st.nb ∧ (startK ins x i j0 st).kb = st.kb ∧ (∀ j, j < st.nl → W' j = W j) ∧ BoxesAt W' ins st.nl bs ∧ us.length = ins.length
  | [], x, i, j0, st, W, us, bs, h, hx, hV, hn, hj, hm, nd, hb, hap => by
    obtain ⟨rfl, rfl⟩ := hx
    exact ⟨W, h, rfl, rfl, rfl, fun _ _ => rfl, rfl, rfl⟩
  | .val ag t :: r, x, i, j0, st, W, us, bs, h, hx, hV, hn, hj, hm, nd, hb, hap => by
    obtain ⟨v, us', S, rfl, h1, h2, h3⟩ := hx
    simp only [List.length_cons] at hn hV
    have hv : RepAV B W w (mkAV ag (t.unpack x.1)) (V i) := by
      have := hV 0 (by omega)
      simp only [Nat.add_zero, List.getD_cons_zero] at this
      rw [this]; exact val_rep h1 h2
    obtain ⟨W', g1, g2, g3, g4, g5, g6, g8⟩ := start_ok r x.2 (i + 1) j0 (st.ev (.slot i (mkAV ag (t.unpack x.1)))) W us' bs (h.slot (by omega) hv) h3
      (fun n hn' => by have := hV (n + 1) (by omega); rw [show i + 1 + n = i + (n + 1) by omega, this]; simp) (by have : (st.ev (.slot i (mkAV ag (t.unpack x.1)))).nb = st.nb := rfl; rw [this]; omega) (by simp only [nMut] at hj; omega) hm nd hb hap
    exact ⟨W', g1, g2, g3, g4, g5, g6, by simp [g8]⟩
  | .fn g ts :: r, x, i, j0, st, W, us, bs, h, hx, hV, hn, hj, hm, nd, hb, hap => by
    obtain ⟨cs, us', rfl, h1, h3⟩ := hx
    simp only [List.length_cons] at hn hV
    have hv : RepAV B W w (.fn g (capAVs ts x.1)) (V i) := by
      have := hV 0 (by omega)
      simp only [Nat.add_zero, List.getD_cons_zero] at this
      rw [this]
      simp only [RepAV]
      exact ⟨cs, rfl, caps_rep ts h1⟩
    obtain ⟨W', g1, g2, g3, g4, g5, g6, g8⟩ := start_ok r x.2 (i + 1) j0 (st.ev (.slot i (.fn g (capAVs ts x.1)))) W us' bs (h.slot (by omega) hv) h3
      (fun n hn' => by have := hV (n + 1) (by omega); rw [show i + 1 + n = i + (n + 1) by omega, this]; simp) (by have : (st.ev (.slot i (.fn g (capAVs ts x.1)))).nb = st.nb := rfl; rw [this]; omega) (by simp only [nMut] at hj; omega) hm nd hb hap
    exact ⟨W', g1, g2, g3, g4, g5, g6, by simp [g8]⟩
  | .take ag t :: r, x, i, j0, st, W, us, bs, h, hx, hV, hn, hj, hm, nd, hb, hap => by
    obtain ⟨v, us', Ss, bs', rfl, rfl, h1, h3⟩ := hx
    simp only [List.length_cons] at hn hV
    rw [List.flatten_append] at nd hb hap
    rw [List.nodup_append] at nd
    have hSl : Ss.length = nSl t := by
      unfold OwnLV at h1
      split at h1
      · obtain ⟨_, _, h1⟩ := h1; exact (OwnL.length t h1).2
      · exact (OwnL.length t h1).2
    obtain ⟨W', g1, g2, g3, g4, g5, g6, g8⟩ := start_ok r x.2 (i + 1) j0 st W us' bs' h h3
      (fun n hn' => by have := hV (n + 1) (by omega); rw [show i + 1 + n = i + (n + 1) by omega, this]; simp) (by omega) (by simp only [nMut] at hj; omega) hm nd.2.1 (fun b hb' => hb b (by simp [hb'])) (fun j lw F e b hb' h' => hap j lw F e b hb' (by simp [h']))
    exact ⟨W', g1, g2, g3, g4, g5, ⟨Ss, bs', rfl, hSl, g6⟩, by simp [g8]⟩
  | .mut ag t :: r, x, i, j0, st, W, us, bs, h, hx, hV, hn, hj, hm, nd, hb, hap => by
    obtain ⟨v, us', Ss, bs', rfl, rfl, h1, h3⟩ := hx
    obtain ⟨hm1, hm2⟩ := hm
    simp only [List.length_cons] at hn hV
    simp only [nMut] at hj
    rw [List.flatten_append] at nd hb hap
    rw [List.nodup_append] at nd
    have hSl : Ss.length = nSl t := by
      unfold OwnLV at h1
      split at h1
      · obtain ⟨_, _, h1⟩ := h1; exact (OwnL.length t h1).2
      · exact (OwnL.length t h1).2
    have main : ∃ W1, Rep (t.ownCells x.1 st).2 w M B W1 V ∧ RepAV B W1 w (mkAV ag (t.ownCells x.1 st).1) v ∧ (t.ownCells x.1 st).2.nl = st.nl + nSl t ∧ (t.ownCells x.1 st).2.nb = st.nb ∧ (t.ownCells x.1 st).2.kb = st.kb ∧ (∀ j, j < st.nl → W1 j = W j) ∧
        (∀ j lw F, W1 j = some (lw, F) → (∃ lw', W j = some (lw', F)) ∨ ∀ b ∈ F, b ∈ Ss.flatten) := by
      unfold OwnLV at h1
      cases hag : ag with
      | true =>
        rw [hag] at h1
        simp only [if_true] at h1
        obtain ⟨cs, rfl, h1⟩ := h1
        obtain ⟨W1, r1, r2, r3, r4, r5, _, r7, r8⟩ := ownCells_at t (st := st) h1 h nd.1 (fun b hb' => hb b (by simp [hb'])) (fun j lw F e b hb' h' => hap j lw F e b hb' (by simp [h']))
        exact ⟨W1, r1, by simpa using mkAV_rep (ag := true) r2 (fun e => by cases e), r3, r4, r5, r7, r8⟩
      | false =>
        rw [hag] at h1
        simp only [Bool.false_eq_true, if_false] at h1
        obtain ⟨W1, r1, r2, r3, r4, r5, _, r7, r8⟩ := ownCells_at t (st := st) h1 h nd.1 (fun b hb' => hb b (by simp [hb'])) (fun j lw F e b hb' h' => hap j lw F e b hb' (by simp [h']))
        exact ⟨W1, r1, by simpa using mkAV_rep (ag := false) r2 (fun _ => rfl), r3, r4, r5, r7, r8⟩
    obtain ⟨W1, r1, r2, r3, r4, r5, r7, r8⟩ := main
    have hv : V i = v := by
      have := hV 0 (by omega)
      simpa using this
    have hR := (r1.slot (key := i) (by rw [r4]; omega) (by rw [hv]; exact r2)).slot (key := j0) (av := mkAV ag (t.ownCells x.1 st).1) (by have : ((t.ownCells x.1 st).2.ev (.slot i (mkAV ag (t.ownCells x.1 st).1))).nb = st.nb := r4; rw [this]; omega) (by rw [hm1]; exact r2)
    obtain ⟨W', g1, g2, g3, g4, g5, g6, g8⟩ := start_ok r x.2 (i + 1) (j0 + 1) (((t.ownCells x.1 st).2.ev (.slot i (mkAV ag (t.ownCells x.1 st).1))).ev (.slot j0 (mkAV ag (t.ownCells x.1 st).1))) W1 us' bs' hR h3
      (fun n hn' => by have := hV (n + 1) (by omega); rw [show i + 1 + n = i + (n + 1) by omega, this]; simp) (by have : (((t.ownCells x.1 st).2.ev (.slot i (mkAV ag (t.ownCells x.1 st).1))).ev (.slot j0 (mkAV ag (t.ownCells x.1 st).1))).nb = st.nb := r4; rw [this]; omega) (by omega) hm2 nd.2.1 (fun b hb' => hb b (by simp [hb']))
      (fun j lw F e b hb' h' => by
        rcases r8 j lw F e with ⟨lw', e'⟩ | h''
        · exact hap j lw' F e' b hb' (by simp [h'])
        · exact nd.2.2 b (h'' b hb') b h' rfl)
    have hnl : (((t.ownCells x.1 st).2.ev (.slot i (mkAV ag (t.ownCells x.1 st).1))).ev (.slot j0 (mkAV ag (t.ownCells x.1 st).1))).nl = st.nl + nSl t := r3
    rw [hnl] at g2 g5 g6
    refine ⟨W', g1, by simp only [startK]; rw [g2]; simp only [nIds]; omega, g3.trans r4, g4.trans r5, fun j hj' => (g5 j (by omega)).trans (r7 j hj'), ⟨Ss, bs', rfl, hSl, g6⟩, by simp [g8]⟩
  | .ptr t :: r, x, i, j0, st, W, us, bs, h, hx, hV, hn, hj, hm, nd, hb, hap => by
    obtain ⟨b, us', bs', cs, S, rfl, rfl, k1, k2, k3, k4, h3⟩ := hx
    simp only [List.length_cons] at hn hV
    simp only [List.flatten_cons, List.cons_append, List.nil_append] at nd hb hap
    rw [List.nodup_cons] at nd
    have hR := h.newBoxAt (cs := t.unpack x.1) (hb b (by simp)) (fun j lw F e hF => hap j lw F e b hF (by simp)) (fun W' hx e => ⟨b, cs, e, k1, k2, unpack_rep t k3 k4⟩)
    have hnb : (st.newLoc (.box (t.unpack x.1))).nb = st.nb := rfl
    have hv : RepAV B (updW W st.nl (some (.box b, [b]))) w (.ref st.nl 0) (V i) := by
      have := hV 0 (by omega)
      simp only [Nat.add_zero, List.getD_cons_zero] at this
      rw [this]
      simp only [RepAV]
      exact ⟨b, [b], updW_same _ _ _, rfl⟩
    have hRs := hR.slot (key := i) (by rw [hnb]; omega) hv
    have hnl : ((st.newLoc (.box (t.unpack x.1))).ev (.slot i (.ref st.nl 0))).nl = st.nl + 1 := rfl
    obtain ⟨W', g1, g2, g3, g4, g5, g6, g8⟩ := start_ok r x.2 (i + 1) j0 ((st.newLoc (.box (t.unpack x.1))).ev (.slot i (.ref st.nl 0))) _ us' bs' hRs h3
      (fun n hn' => by have := hV (n + 1) (by omega); rw [show i + 1 + n = i + (n + 1) by omega, this]; simp) (by have : ((st.newLoc (.box (t.unpack x.1))).ev (.slot i (.ref st.nl 0))).nb = st.nb := rfl; rw [this]; omega) (by simp only [nMut] at hj; omega) hm nd.2 (fun c hc => hb c (by simp [hc]))
      (fun j lw F e c hc hc' => by
        by_cases e' : j = st.nl
        · subst e'
          rw [updW_same] at e
          simp only [Option.some.injEq, Prod.mk.injEq] at e
          rw [← e.2] at hc
          simp at hc
          subst hc
          exact nd.1 hc'
        · rw [updW_other e'] at e
          exact hap j lw F e c hc (by simp [hc']))
    refine ⟨W', g1, by simp only [startK]; rw [g2, hnl]; simp only [nIds]; omega, g3, g4, fun j hj => ?_, ⟨b, bs', rfl, ?_, ?_⟩, by simp [g8]⟩
    · rw [g5 j (by rw [hnl]; omega), updW_other (by omega)]
    · rw [g5 st.nl (by rw [hnl]; omega), updW_same]
    · rw [hnl] at g6; exact g6
theorem notMem_disj : ∀ {l k : List Nat}, disj l k = true → ∀ x ∈ l, x ∉ k
  | [], _, _ => by simp
  | y :: l, k, h => by
    simp only [disj, Bool.and_eq_true] at h
    intro x hx
    rcases List.mem_cons.1 hx with rfl | hx
    · exact notMem_spec h.1
    · exact notMem_disj h.2 x hx

end
end Go.Proofs.Fw
