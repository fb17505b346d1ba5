/- Rows whose elements are made out of values: moved in, or shared. -/
import Derived.Test.YtilfjfappnpfoaaDoorFwM
set_option linter.all false
namespace Go.Proofs.Fw
open Go

section
variable [GInv] {R : Type} {P : Program} {c : Cfg} {X : Ctx} {st : St} {a : Act} {w : World} {A : Nat → Prop} {W : Wit} {V : Nat → Value} {o : Oper} {k : St → Option R} {r : R} {Q : Exit → Act → World → Prop}

/-- blocks that belong to no place any more, and are not shared -/
structure Free (X : Ctx) (w : World) (A : Nat → Prop) (W : Wit) (S : List Nat) : Prop where
  nodup : S.Nodup
  own : ∀ b ∈ S, b < w.heap.size ∧ X.M b ∧ ¬ A b
  apart : ∀ j lw F, W j = some (lw, F) → ∀ b ∈ S, b ∉ F

theorem Free.nil : Free X w A W [] := ⟨by simp, by simp, by simp⟩

theorem distinct_nodup : ∀ {l : List Nat}, distinct l = true → l.Nodup
  | [], _ => by simp
  | x :: r, h => by
    simp only [distinct, Bool.and_eq_true, Bool.not_eq_true'] at h
    rw [List.nodup_cons]
    refine ⟨fun hx => ?_, distinct_nodup h.2⟩
    have := List.any_eq_false.1 h.1 x hx
    simp at this

theorem rowIds_live {cs : List AV} {vs : List Value} (h : RepL A W w cs vs) : ∀ id ∈ rowIds cs, ∃ lw F, W id = some (lw, F) ∧ ∀ b, lw ≠ .box b := by
  induction cs generalizing vs with
  | nil => intro id hid; simp [rowIds] at hid
  | cons c cs ih =>
    simp only [RepL] at h
    obtain ⟨v, s, rfl, g1, g2⟩ := h
    intro id hid
    cases c with
    | row j =>
      simp only [rowIds, List.mem_cons] at hid
      rcases hid with rfl | hid
      · simp only [RepAV] at g1
        obtain ⟨lw, F, h1, h2, _⟩ := g1
        exact ⟨lw, F, h1, h2⟩
      · exact ih g2 id hid
    | _ => exact ih g2 id (by simpa [rowIds] using hid)

theorem killAll_turn (hi : Inv X st a w A W V) {ids : List Nat} (hl : ∀ id ∈ ids, ∃ lw F, W id = some (lw, F) ∧ ∀ b, lw ≠ .box b) :
    ∃ W', Inv X (st.killAll ids) a w A W' V ∧ (∀ j, j ∉ ids → W' j = W j) ∧ (∀ j ∈ ids, W' j = none) := by
  obtain ⟨W', h1, h2, h3⟩ := Rep.killAll ids hi.rep (fun id hid b F e => by
    obtain ⟨lw, F', e', hb⟩ := hl id hid
    rw [e'] at e; cases e; exact hb b rfl)
  refine ⟨W', hi.turn h1 (by rw [(killAll_nl ids st).2]; exact Nat.le_refl _) (Kept.refl _ _) (fun _ h => h) (fun _ h => .inl h) (fun j b F e => ?_) (hkb := killAll_kb _ _), h2, h3⟩
  rw [h2 j (fun hj => by
    obtain ⟨lw, F', e', hb⟩ := hl j hj
    rw [e'] at e; cases e; exact hb b rfl)]
  exact e

/-- rows given up: what they held belongs to nobody -/
theorem kill_free (hi : Inv X st a w A W V) {ids G : List Nat} (hG : Free X w A W G) (hlive : ∀ id ∈ ids, ∃ lw F, W id = some (lw, F) ∧ ∀ b, lw ≠ .box b) (nd : ids.Nodup) :
    ∃ W', Inv X (st.killAll ids) a w A W' V ∧ Free X w A W' (G ++ ids.flatMap (foot W)) ∧ (∀ j, j ∉ ids → W' j = W j) ∧ (∀ j ∈ ids, W' j = none) := by
  obtain ⟨W', k1, k2, k3⟩ := killAll_turn hi hlive
  have hin : ∀ b ∈ (ids).flatMap (foot W), ∃ id ∈ ids, ∃ lw F, W id = some (lw, F) ∧ b ∈ F := fun b hb => by
    obtain ⟨id, h1, h2⟩ := List.mem_flatMap.1 hb
    obtain ⟨lw, F, e, _⟩ := hlive id h1
    simp only [foot, e] at h2
    exact ⟨id, h1, lw, F, e, h2⟩
  refine ⟨W', k1, ⟨?_, ?_, ?_⟩, k2, k3⟩
  · rw [List.nodup_append]
    refine ⟨hG.nodup, ?_, ?_⟩
    · -- the footprints of distinct places
      have : ∀ ids : List Nat, ids.Nodup → (∀ id ∈ ids, ∃ lw F, W id = some (lw, F)) → (ids.flatMap (foot W)).Nodup := by
        intro ids
        induction ids with
        | nil => intro _ _; simp
        | cons id ids ih =>
          intro hn hl
          rw [List.nodup_cons] at hn
          obtain ⟨lw, F, e⟩ := hl id (by simp)
          simp only [List.flatMap_cons, List.nodup_append]
          refine ⟨by simp only [foot, e]; exact hi.rep.nodup id lw F e, ih hn.2 (fun j hj => hl j (by simp [hj])), ?_⟩
          intro b hb b' hb' hbb
          subst hbb
          obtain ⟨j, h1, h2⟩ := List.mem_flatMap.1 hb'
          obtain ⟨lw', F', e'⟩ := hl j (by simp [h1])
          simp only [foot, e] at hb
          simp only [foot, e'] at h2
          exact hi.rep.apart id j _ _ _ _ (fun e => by subst e; exact hn.1 h1) e e' b hb h2
      exact this _ nd (fun id hid => by obtain ⟨lw, F, e, _⟩ := hlive id hid; exact ⟨lw, F, e⟩)
    · intro b hb b' hb' hbb
      subst hbb
      obtain ⟨id, _, lw, F, e, hF⟩ := hin b hb'
      exact hG.apart id lw F e b hb hF
  · intro b hb
    rcases List.mem_append.1 hb with hb | hb
    · exact hG.own b hb
    · obtain ⟨id, _, lw, F, e, hF⟩ := hin b hb
      exact hi.rep.own id lw F e b hF
  · intro j lw F e b hb
    have hj : j ∉ ids := fun hj => by rw [k3 j hj] at e; cases e
    rw [k2 j hj] at e
    rcases List.mem_append.1 hb with hb | hb
    · exact hG.apart j lw F e b hb
    · obtain ⟨id, hid, lw', F', e', hF⟩ := hin b hb
      exact hi.rep.apart id j _ _ _ _ (fun e2 => by subst e2; exact hj hid) e' e b hF

/-- a value's rows given up: what they held belongs to nobody -/
theorem move_ok (hi : Inv X st a w A W V) {cs : List AV} {vs : List Value} {t : Ty} {x : t.den} {G : List Nat} (hG : Free X w A W G) (hr : RepL A W w cs vs) (hm : moveOK st cs = true) (hp : t.packAll (st.dataL cs) = some x) :
    ∃ S W', Inv X (st.killAll (rowIds cs)) a w A W' V ∧ Rd w t x S vs ∧ Free X w A W' (G ++ S) ∧ (∀ j, j ∉ rowIds cs → W' j = W j) ∧ (∀ j ∈ rowIds cs, W' j = none) := by
  simp only [moveOK, Bool.and_eq_true] at hm
  obtain ⟨Ss, d1, d2, d3⟩ := dataL_rep hi.rep cs vs hr
  have hrd := packAll_rep d1 hp
  rw [d3 hm.1] at hrd
  have hlive := rowIds_live hr
  have nd := distinct_nodup hm.2
  obtain ⟨W', k1, k2, k3, k4⟩ := kill_free hi hG hlive nd
  exact ⟨_, W', k1, hrd, k2, k3, k4⟩

/-- the values themselves are kept where slots are turned -/
theorem litRow_ok {t : Ty} : ∀ (parts : List (Nat × Operand)) (i : Nat) (st st' : St) (W : Wit) (xs : List t.den) (G : List Nat), Inv X st a w A W V → Free X w A W G → litRow t X.f parts i st = some (xs, st') →
    ∃ W' vs Ss, Inv X st' a w A W' V ∧ Free X w A W' (G ++ Ss) ∧ vs.length = xs.length * t.size ∧ xs.length = parts.length ∧
      (∀ w' b off, Seg w' b off vs → (∀ c ∈ Ss, w'.heap[c]? = w.heap[c]?) → RdRow (Rd w' t) w' b t.size off xs Ss) ∧
      (∀ pre zs : List Value, pre.length = i * t.size → zs.length = parts.length * t.size → Instr.fill (fun i => some (i * t.size, t.size)) (pre ++ zs).toArray (parts.map fun (i, x) => (i, a.eval x)) = some (pre ++ vs).toArray)
  | [], i, st, st', W, xs, G, hi, hG, e => by
    simp only [litRow, Option.some.injEq, Prod.mk.injEq] at e
    obtain ⟨rfl, rfl⟩ := e
    refine ⟨W, [], [], hi, by simpa using hG, by simp, rfl, fun _ _ _ _ _ => rfl, fun pre zs _ hz => ?_⟩
    have : zs = [] := List.eq_nil_of_length_eq_zero (by simpa using hz)
    subst this
    simp [Instr.fill]
  | (j, x) :: parts, i, st, st', W, xs, G, hi, hG, e => by
    simp only [litRow] at e
    obtain ⟨h1, e⟩ := cond_some e
    simp only [Bool.and_eq_true] at h1
    obtain ⟨⟨⟨h1, h2⟩, h3⟩, h4⟩ := h1
    have hj := Nat.eq_of_beq_eq_true h1
    subst hj
    have hl := Nat.eq_of_beq_eq_true h3
    split at e
    · rename_i y hp
      split at e
      · rename_i ys s2 hr
        simp only [Option.some.injEq, Prod.mk.injEq] at e
        obtain ⟨rfl, rfl⟩ := e
        obtain ⟨c1, c2⟩ := cells_rep (hi.opnd x) h2
        obtain ⟨S, W1, m1, m2, m3, _, _⟩ := move_ok hi hG c1 h4 hp
        obtain ⟨W2, vs, Ss, q1, q2, q3, q4, q5, q6⟩ := litRow_ok parts (j + 1) _ _ W1 ys (G ++ S) m1 m3 hr
        have hsz : (a.eval x).cells.toList.length = t.size := by rw [RepL.length c1, hl]
        refine ⟨W2, (a.eval x).cells.toList ++ vs, S ++ Ss, q1, by rw [← List.append_assoc]; exact q2, by simp only [List.length_append, hsz, q3, List.length_cons]; rw [Nat.add_mul]; omega, by simp [q4], ?_, ?_⟩
        · intro w' b off hs hk
          have hs2 := hs.right
          rw [hsz] at hs2
          exact ⟨S, Ss, _, rfl, hsz, hs.left, Rd.mono t (fun c hc => hk c (by simp [hc])) m2, q5 w' b (off + t.size) hs2 (fun c hc => hk c (by simp [hc]))⟩
        · intro pre zs hpre hzs
          simp only [List.map_cons]
          have hle : t.size ≤ zs.length := by rw [hzs]; simp [Nat.add_mul]
          have hsz' : (a.eval x).cells.size = t.size := by simpa using hsz
          rw [fill_cons (off := j * t.size) (by rw [hsz']) (by rw [hsz']; simp; omega)]
          have hset : setVs (j * t.size) (a.eval x).cells.toList (pre ++ zs) = pre ++ ((a.eval x).cells.toList ++ zs.drop t.size) := by
            rw [← hpre]
            have g1 : ∀ (pre us l : List Value), setVs pre.length us (pre ++ l) = pre ++ setVs 0 us l := by
              intro pre
              induction pre with
              | nil => intro us l; rfl
              | cons p pre ih => intro us l; simp [setVs, ih]
            have g2 : ∀ (us l : List Value), us.length ≤ l.length → setVs 0 us l = us ++ l.drop us.length := by
              intro us
              induction us with
              | nil => intro l _; cases l <;> rfl
              | cons u us ih =>
                intro l hl
                cases l with
                | nil => simp at hl
                | cons v l => simp [setVs, ih l (by simpa using hl)]
            rw [g1, g2 _ _ (by rw [hsz]; exact hle), hsz]
          simp only
          rw [hset, ← List.append_assoc]
          have := q6 (pre ++ (a.eval x).cells.toList) (zs.drop t.size) (by simp only [List.length_append, hpre, hsz]; rw [Nat.add_mul]; omega) (by simp only [List.length_drop, hzs, List.length_cons]; rw [Nat.add_mul]; omega)
          rw [this, List.append_assoc]
      · cases e
    · cases e

end
end Go.Proofs.Fw
