/- Rows whose elements are made out of values: moved in, or shared. -/
import Derived.Test.YtjblmapbompclaaGreatFwM
set_option linter.all false
namespace Go.Proofs.Fw
open Go

section
variable [GInv] {R : Type} {P : Program} {c : Cfg} {X : Ctx} {st : St} {a : Act} {w : World} {A : Nat → Prop} {W : Wit} {V : Nat → Value} {o : Oper} {k : St → Option R} {r : R} {Q : Exit → Act → World → Prop}
theorem move_ok (hi : Inv X st a w A W V) {cs : List AV} {vs : List Value} {t : Ty} {x : t.den} {G : List Nat} (hG : Free X w A W G) (hr : RepL A W w cs vs) (hm : moveOK st cs = true) (hp : t.packAll (st.dataL cs) = some x) :
    ∃ S W', Inv X (st.killAll (rowIds cs)) a w A W' V ∧ OwnRd w t x S vs ∧ Free X w A W' (G ++ S) ∧ (∀ j, j ∉ rowIds cs → W' j = W j) ∧ (∀ j ∈ rowIds cs, W' j = none) := by
  simp only [moveOK, Bool.and_eq_true] at hm
  have hrd := own_packAll hi.rep hr hm.1 hp
  have hlive := rowIds_live hr
  have nd := distinct_nodup hm.2
  obtain ⟨W', k1, k2, k3, k4⟩ := kill_free hi hG hlive nd
  exact ⟨_, W', k1, hrd, k2, k3, k4⟩
theorem litRow_ok {t : Ty} : ∀ (parts : List (Nat × Operand)) (i : Nat) (st st' : St) (W : Wit) (xs : List t.den) (G : List Nat), Inv X st a w A W V → Free X w A W G → litRow t X.f parts i st = some (xs, st') →
    ∃ W' vs Ss, Inv X st' a w A W' V ∧ Free X w A W' (G ++ Ss) ∧ vs.length = xs.length * t.size ∧ xs.length = parts.length ∧
      (∀ w' b off, Seg w' b off vs → (∀ c ∈ Ss, w'.heap[c]? = w.heap[c]?) → RdRow (ERd true w' t) w' b t.size off xs Ss) ∧
      (∀ pre zs : List Value, pre.length = i * t.size → zs.length = parts.length * t.size → Instr.fill (fun i => some (i * t.size, t.size)) (pre ++ zs).toArray (parts.map fun (i, x) => (i, a.eval x)) = some (pre ++ vs).toArray)
  | [], i, st, st', W, xs, G, hi, hG, e => by
    simp only [litRow, Option.some.injEq, Prod.mk.injEq] at e
    obtain ⟨rfl, rfl⟩ := e
    refine ⟨W, [], [], hi, by simpa using hG, by simp, rfl, fun _ _ _ _ _ => rfl, fun pre zs _ hz => ?_⟩
    have : zs = [] := List.eq_nil_of_length_eq_zero (by simpa using hz)
    subst this
    simp [Instr.fill]
  | (j, x) :: parts, i, st, st', W, xs, G, hi, hG, e => by
    simp only [litRow] at e
    obtain ⟨h1, e⟩ := cond_some e
    simp only [Bool.and_eq_true] at h1
    obtain ⟨⟨⟨h1, h2⟩, h3⟩, h4⟩ := h1
    have hj := Nat.eq_of_beq_eq_true h1
    subst hj
    have hl := Nat.eq_of_beq_eq_true h3
    split at e
    · rename_i y hp
      split at e
      · rename_i ys s2 hr
        simp only [Option.some.injEq, Prod.mk.injEq] at e
        obtain ⟨rfl, rfl⟩ := e
        obtain ⟨c1, c2⟩ := cells_rep (hi.opnd x) h2
        obtain ⟨S, W1, m1, m2, m3, _, _⟩ := move_ok hi hG c1 h4 hp
        obtain ⟨W2, vs, Ss, q1, q2, q3, q4, q5, q6⟩ := litRow_ok parts (j + 1) _ _ W1 ys (G ++ S) m1 m3 hr
        have hsz : (a.eval x).cells.toList.length = t.size := by rw [RepL.length c1, hl]
        refine ⟨W2, (a.eval x).cells.toList ++ vs, S ++ Ss, q1, by rw [← List.append_assoc]; exact q2, by simp only [List.length_append, hsz, q3, List.length_cons]; rw [Nat.add_mul]; omega, by simp [q4], ?_, ?_⟩
        · intro w' b off hs hk
          have hs2 := hs.right
          rw [hsz] at hs2
          exact ⟨S, Ss, _, rfl, hsz, hs.left, OwnRd.mono t (fun c hc => hk c (by simp [hc])) m2, q5 w' b (off + t.size) hs2 (fun c hc => hk c (by simp [hc]))⟩
        · intro pre zs hpre hzs
          simp only [List.map_cons]
          have hle : t.size ≤ zs.length := by rw [hzs]; simp [Nat.add_mul]
          have hsz' : (a.eval x).cells.size = t.size := by simpa using hsz
          rw [fill_cons (off := j * t.size) (by rw [hsz']) (by rw [hsz']; simp; omega)]
          have hset : setVs (j * t.size) (a.eval x).cells.toList (pre ++ zs) = pre ++ ((a.eval x).cells.toList ++ zs.drop t.size) := by
            rw [← hpre]
            have g1 : ∀ (pre us l : List Value), setVs pre.length us (pre ++ l) = pre ++ setVs 0 us l := by
              intro pre
              induction pre with
              | nil => intro us l; rfl
              | cons p pre ih => intro us l; simp [setVs, ih]
            have g2 : ∀ (us l : List Value), us.length ≤ l.length → setVs 0 us l = us ++ l.drop us.length := by
              intro us
              induction us with
              | nil => intro l _; cases l <;> rfl
              | cons u us ih =>
                intro l hl
                cases l with
                | nil => simp at hl
                | cons v l => simp [setVs, ih l (by simpa using hl)]
            rw [g1, g2 _ _ (by rw [hsz]; exact hle), hsz]
          simp only
          rw [hset, ← List.append_assoc]
          have := q6 (pre ++ (a.eval x).cells.toList) (zs.drop t.size) (by simp only [List.length_append, hpre, hsz]; rw [Nat.add_mul]; omega) (by simp only [List.length_drop, hzs, List.length_cons]; rw [Nat.add_mul]; omega)
          rw [this, List.append_assoc]
      · cases e
    · cases e

end
end Go.Proofs.Fw
