/- Slice literals; make; strings as bytes and back. -/
import Derived.Test.YtjblmapbompclaaGreatFwN
set_option linter.all false
namespace Go.Proofs.Fw
open Go

section
variable [GInv] {R : Type} {P : Program} {c : Cfg} {X : Ctx} {st : St} {a : Act} {w : World} {A : Nat → Prop} {W : Wit} {V : Nat → Value} {o : Oper} {k : St → Option R} {r : R} {Q : Exit → Act → World → Prop}
theorem Inv.newRowAt (hi : Inv X st a w A W V) {t : Ty} {xs : List t.den} {dp : Bool} {cells : Array Value} {T : TypeId} {fz : Nat × Nat} {cap : Nat} {S : List Nat} {w' : World} (n1 : w'.heap.size = w.heap.size + 1)
    (n2 : ∀ b, b < w.heap.size → w'.heap[b]? = w.heap[b]?) (n3 : w'.heap[w.heap.size]? = some (.cells cells T fz)) (n4 : Kept X.M w w') (hF : Free X w A W (if dp then S else []))
    (hcap : xs.length ≤ cap) (hcs : cap * t.size ≤ cells.size) (hfz : cap * t.size ≤ fz.1 ∨ fz.2 = 0) (hf1 : 1 < t.size → fz.2 = 0 ∧ cap ≤ 9223372036854775807) (hS : dp = false → ∀ c ∈ S, A c) (hSz : ∀ c ∈ S, c < w.heap.size)
    (hr : RdRow (ERd dp w' t) w' w.heap.size t.size 0 xs S) :
    ∃ W', Inv X (st.newLoc (.row t xs dp)) a w' A W' V ∧ RepAV A W' w' (.row st.nl) (.slice (some ⟨w.heap.size, 0, none⟩) xs.length cap) := by
  let F := w.heap.size :: (if dp = true then S else [])
  have hin : ∀ b ∈ F, b = w.heap.size ∨ (dp = true ∧ b ∈ S) := fun b hb => by
    rcases List.mem_cons.1 hb with h | h
    · exact .inl h
    · cases dp with
      | true => exact .inr ⟨rfl, by simpa using h⟩
      | false => simp at h
  -- the number is new: as 'newLoc', but for blocks that were there
  have hW : Ext W (updW W st.nl (some (.row w.heap.size 0 t.size xs.length cap, F))) := ext_newLoc hi.rep
  have hA : ∀ b, A b → w'.heap[b]? = w.heap[b]? := fun b hb => n2 b (hi.rep.ltA b hb)
  have own : ∀ b ∈ F, b < w'.heap.size ∧ X.M b ∧ ¬ A b := fun b hb => by
    rcases hin b hb with rfl | ⟨hd, h⟩
    · exact ⟨by omega, hi.newM (Nat.le_refl _), fun h => by have := hi.rep.ltA _ h; omega⟩
    · obtain ⟨h1, h2, h3⟩ := hF.own b (by simp [hd, h])
      exact ⟨by omega, h2, h3⟩
  have nd : F.Nodup := by
    simp only [F, List.nodup_cons]
    refine ⟨fun h => ?_, hF.nodup⟩
    cases dp with
    | true => have := hSz _ (by simpa using h); omega
    | false => simp at h
  have ap : ∀ j lwj Fj, W j = some (lwj, Fj) → ∀ b ∈ F, b ∉ Fj := fun j lwj Fj e b hb hb' => by
    rcases hin b hb with rfl | ⟨hd, h⟩
    · have := (hi.rep.own j lwj Fj e _ hb').1; omega
    · exact hF.apart j lwj Fj e b (by simp [hd, h]) hb'
  have hloc : LocRep A (updW W st.nl (some (.row w.heap.size 0 t.size xs.length cap, F))) w' st.nl (.row t xs dp) := by
    refine .inr ⟨w.heap.size, 0, cap, S, updW_same _ _ _, hcap, fun i hi' => ?_, ⟨fun i hi' => ?_, fun e => ⟨fun i => ?_, (hf1 e).2⟩⟩, hr, hS⟩
    · simp only [Nat.zero_add, World.cell?, n3]; rw [Array.getElem?_eq_getElem (by omega)]; rfl
    · simp only [Nat.zero_add, World.frozen?, n3]; simp; omega
    · simp only [World.frozen?, n3, (hf1 e).1]; simp
  have hrep : Rep (st.newLoc (.row t xs dp)) w' X.M A (updW W st.nl (some (.row w.heap.size 0 t.size xs.length cap, F))) V := by
    have h := hi.rep
    have he : ∀ j lw F', updW W st.nl (some (.row w.heap.size 0 t.size xs.length cap, F)) j = some (lw, F') → (j = st.nl ∧ F' = F) ∨ (j ≠ st.nl ∧ W j = some (lw, F')) := fun j lw F' e => by
      by_cases e' : j = st.nl
      · subst e'; rw [updW_same] at e; simp only [Option.some.injEq, Prod.mk.injEq] at e; exact .inl ⟨rfl, e.2.symm⟩
      · rw [updW_other e'] at e; exact .inr ⟨e', e⟩
    refine ⟨fun b hb => by have := h.ltA b hb; omega, ?_, ?_, ?_, ?_, fun k => RepAV.mono (fun _ h => h) hA hW _ _ (h.slots k), ?_, h.freshb⟩
    · intro j lw F' e
      rcases he j lw F' e with ⟨_, rfl⟩ | ⟨_, e⟩
      · exact nd
      · exact h.nodup j lw F' e
    · intro j lw F' e b hb
      rcases he j lw F' e with ⟨_, rfl⟩ | ⟨_, e⟩
      · exact own b hb
      · obtain ⟨h1, h2⟩ := h.own j lw F' e b hb
        exact ⟨by omega, h2⟩
    · intro i j lwi Fi lwj Fj hij ei ej b hb hb'
      rcases he i lwi Fi ei with ⟨rfl, rfl⟩ | ⟨_, ei2⟩ <;> rcases he j lwj Fj ej with ⟨rfl, rfl⟩ | ⟨_, ej2⟩
      · exact hij rfl
      · exact ap j lwj Fj ej2 b hb hb'
      · exact ap i lwi Fi ei2 b hb' hb
      · exact h.apart i j lwi Fi lwj Fj hij ei2 ej2 b hb hb'
    · intro j hj
      have : st.nl + 1 ≤ j := hj
      rw [updW_other (by omega)]
      exact h.fresh j (by omega)
    · intro j l p hp hl
      have hl' : (st.ev (.loc st.nl (.row t xs dp))).loc j = some l := hl
      rw [loc_loc] at hl'
      by_cases e : st.nl = j
      · subst e
        simp only [if_true, Option.some.injEq] at hl'
        rw [← hl']; exact hloc
      · rw [if_neg e] at hl'
        rw [updW_other (Ne.symm e)] at hp
        exact LocRep.mono (fun _ h => h) hA hW hp (by rw [updW_other (Ne.symm e)]; exact hp) (fun b hb => n2 b (h.own j p.1 p.2 hp b hb).1) (h.locs j l p hp hl')
  refine ⟨_, hi.turn hrep (Nat.le_refl _) n4 (fun _ h => h) (fun _ h => .inl h) (fun j b F' e => ?_) (hs := fun b hb => n2 b (hi.old hb)), ?_⟩
  · rw [updW_other (fun e' => by subst e'; rw [hi.rep.fresh st.nl (Nat.le_refl _)] at e; cases e)]; exact e
  · simp only [RepAV]
    exact ⟨_, _, updW_same _ _ _, fun b e => (by cases e), rfl⟩
theorem Inv.newRow (hi : Inv X st a w A W V) {t : Ty} {xs : List t.den} {dp : Bool} {cells : Array Value} {T : TypeId} {fz : Nat × Nat} {cap : Nat} {S : List Nat} (hF : Free X w A W (if dp then S else []))
    (hcap : xs.length ≤ cap) (hcs : cap * t.size ≤ cells.size) (hfz : cap * t.size ≤ fz.1 ∨ fz.2 = 0) (hf1 : 1 < t.size → fz.2 = 0 ∧ cap ≤ 9223372036854775807) (hS : dp = false → ∀ c ∈ S, A c) (hSz : ∀ c ∈ S, c < w.heap.size)
    (hr : RdRow (ERd dp (mkW w (.cells cells T fz)) t) (mkW w (.cells cells T fz)) w.heap.size t.size 0 xs S) :
    ∃ W', Inv X (st.newLoc (.row t xs dp)) a (mkW w (.cells cells T fz)) A W' V ∧ RepAV A W' (mkW w (.cells cells T fz)) (.row st.nl) (.slice (some ⟨w.heap.size, 0, none⟩) xs.length cap) :=
  hi.newRowAt (mkW_size w _) (mkW_old w _) (mkW_new w _) (mkW_kept _ _ _) hF hcap hcs hfz hf1 hS hSz hr
theorem freezeAll_turn (hi : Inv X st a w A W V) (ids : List Nat) : ∃ A' W', Inv X (st.freezeAll ids) a w A' W' V ∧ (∀ b, A b → A' b) ∧
    (∀ id ∈ ids, ∀ lw F t xs dp, W id = some (lw, F) → (∀ b, lw ≠ .box b) → st.loc id = some (.row t xs dp) → ∀ b ∈ F, A' b) ∧ (∀ j, j ∉ ids → W' j = W j) := by
  -- one at a time, so that what becomes shared is known
  induction ids generalizing st A W with
  | nil => exact ⟨A, W, hi, fun _ h => h, by simp, fun _ _ => rfl⟩
  | cons id ids ih =>
    have step : ∃ A1 W1, Inv X (st.freeze1 id) a w A1 W1 V ∧ (∀ b, A b → A1 b) ∧ (∀ lw F, W id = some (lw, F) → (∀ b, lw ≠ .box b) → (∃ t xs dp, st.loc id = some (.row t xs dp)) → ∀ b ∈ F, A1 b) ∧ (∀ j, j ≠ id → W1 j = W j) := by
      obtain ⟨A', W', h1, h2, h3, h4, h5, h6⟩ := hi.rep.freeze1 id
      refine ⟨A', W', hi.turn h1 (by rw [(freeze1_nl id st).2]; exact Nat.le_refl _) (Kept.refl _ _) h2 h6 (fun j b F e => ?_) (hkb := freeze1_kb _ _), h2, h3, h4⟩
      · by_cases e' : j = id
        · subst e'; rw [h5 b F e]; exact e
        · rw [h4 j e']; exact e
    obtain ⟨A1, W1, h1, h2, h3, h4⟩ := step
    obtain ⟨A2, W2, g1, g2, g3, g4⟩ := ih h1
    refine ⟨A2, W2, g1, fun b hb => g2 b (h2 b hb), ?_, ?_⟩
    · intro j hj lw F t xs dp hW hbx hl b hb
      by_cases e : j = id
      · subst e; exact g2 b (h3 lw F hW hbx ⟨t, xs, dp, hl⟩ b hb)
      · rcases List.mem_cons.1 hj with e' | hj
        · exact absurd e' e
        · exact g3 j hj lw F t xs dp (by rw [h4 j e]; exact hW) hbx (loc_freeze1 st id j e hl) b hb
    · intro j hj
      simp only [List.mem_cons, not_or] at hj
      rw [g4 j hj.2, h4 j hj.1]
theorem litSh_ok (hi : Inv X st a w A W V) {t : Ty} : ∀ (parts : List (Nat × Operand)) (i : Nat) (xs : List t.den), litSh t X.f st parts i = some xs →
    ∃ vs Ss, (∀ b ∈ Ss, A b) ∧ vs.length = xs.length * t.size ∧ xs.length = parts.length ∧
      (∀ w' b off, Seg w' b off vs → (∀ c ∈ Ss, w'.heap[c]? = w.heap[c]?) → RdRow (Rd w' t) w' b t.size off xs Ss) ∧
      (∀ pre zs : List Value, pre.length = i * t.size → zs.length = parts.length * t.size → Instr.fill (fun i => some (i * t.size, t.size)) (pre ++ zs).toArray (parts.map fun (i, x) => (i, a.eval x)) = some (pre ++ vs).toArray)
  | [], i, xs, e => by
    simp only [litSh, Option.some.injEq] at e
    subst e
    refine ⟨[], [], by simp, by simp, rfl, fun _ _ _ _ _ => rfl, fun pre zs _ hz => ?_⟩
    have : zs = [] := List.eq_nil_of_length_eq_zero (by simpa using hz)
    subst this
    simp [Instr.fill]
  | (j, x) :: parts, i, xs, e => by
    simp only [litSh] at e
    obtain ⟨h1, e⟩ := cond_some e
    simp only [Bool.and_eq_true] at h1
    obtain ⟨⟨h1, h2⟩, h3⟩ := h1
    have hj := Nat.eq_of_beq_eq_true h1
    subst hj
    have hl := Nat.eq_of_beq_eq_true h3
    split at e
    · rename_i y hp
      split at e
      · rename_i ys hr
        simp only [Option.some.injEq] at e
        subst e
        obtain ⟨c1, c2⟩ := cells_rep (hi.opnd x) h2
        obtain ⟨Sx, m1, m2⟩ := raw_rep c1
        have m3 := packAll_rep m1 hp
        obtain ⟨vs, Ss, q1, q3, q4, q5, q6⟩ := litSh_ok hi parts (j + 1) ys hr
        have hsz : (a.eval x).cells.toList.length = t.size := by rw [RepL.length c1, hl]
        refine ⟨(a.eval x).cells.toList ++ vs, Sx.flatten ++ Ss, fun b hb => (List.mem_append.1 hb).elim (m2 b) (q1 b), by simp only [List.length_append, hsz, q3, List.length_cons]; rw [Nat.add_mul]; omega, by simp [q4], ?_, ?_⟩
        · intro w' b off hs hk
          have hs2 := hs.right
          rw [hsz] at hs2
          exact ⟨Sx.flatten, Ss, _, rfl, hsz, hs.left, Rd.mono t (fun c hc => hk c (List.mem_append.2 (.inl hc))) m3, q5 w' b (off + t.size) hs2 (fun c hc => hk c (List.mem_append.2 (.inr hc)))⟩
        · intro pre zs hpre hzs
          simp only [List.map_cons]
          have hle : t.size ≤ zs.length := by rw [hzs]; simp [Nat.add_mul]
          have hsz' : (a.eval x).cells.size = t.size := by simpa using hsz
          rw [fill_cons (off := j * t.size) (by rw [hsz']) (by rw [hsz']; simp; omega)]
          have hset : setVs (j * t.size) (a.eval x).cells.toList (pre ++ zs) = pre ++ ((a.eval x).cells.toList ++ zs.drop t.size) := by
            rw [← hpre]
            have g1 : ∀ (pre us l : List Value), setVs pre.length us (pre ++ l) = pre ++ setVs 0 us l := by
              intro pre
              induction pre with
              | nil => intro us l; rfl
              | cons p pre ih => intro us l; simp [setVs, ih]
            have g2 : ∀ (us l : List Value), us.length ≤ l.length → setVs 0 us l = us ++ l.drop us.length := by
              intro us
              induction us with
              | nil => intro l _; cases l <;> rfl
              | cons u us ih =>
                intro l hl
                cases l with
                | nil => simp at hl
                | cons v l => simp [setVs, ih l (by simpa using hl)]
            rw [g1, g2 _ _ (by rw [hsz]; exact hle), hsz]
          simp only
          rw [hset, ← List.append_assoc]
          have := q6 (pre ++ (a.eval x).cells.toList) (zs.drop t.size) (by simp only [List.length_append, hpre, hsz]; rw [Nat.add_mul]; omega) (by simp only [List.length_drop, hzs, List.length_cons]; rw [Nat.add_mul]; omega)
          rw [this, List.append_assoc]
      · cases e
    · cases e
theorem run_lit (hc : chkAll P c.tab = true) {T e : Nat} {t : Ty} {by_ : Nat} (ha : assoc T c.tab = some (.slice e t by_)) {parts : Array (Nat × Operand)} {n : Nat} {vs : List Value} (hn : parts.toList.length = n) (hs : n * t.size ≤ 16777216)
    (hf : ∀ pre zs : List Value, pre.length = 0 * t.size → zs.length = parts.toList.length * t.size → Instr.fill (fun i => some (i * t.size, t.size)) (pre ++ zs).toArray (parts.toList.map fun (i, x) => (i, a.eval x)) = some (pre ++ vs).toArray) :
    (Instr.buildSlice T n (parts.map fun (i, x) => (i, a.eval x))).run P w = .ok (.slice (some ⟨w.heap.size, 0, none⟩) n n) (mkW w (.cells vs.toArray e)) := by
  obtain ⟨_, _, ie, ze, _, hu, hie, _, _, _, _, hsz, _, hze, _, hpos⟩ := chk_slice (assoc_chk hc ha)
  by_cases h0 : n = 0
  · subst h0
    have hp : parts = #[] := by
      apply Array.eq_empty_of_size_eq_zero; simpa using hn
    subst hp
    have := hf [] [] (by simp) (by simp)
    simp [Instr.fill] at this
    subst this
    simp [Instr.buildSlice, run_underlying' hu, run_sizeOf' hie, newRow, mkW, Instr.fill, show Array.range 0 = #[] from rfl]
  · have hns : n * ie.size ≠ 0 := by rw [hsz]; exact Nat.mul_ne_zero h0 hpos
    have h2 := hf [] (((Array.range (n * ie.size)).map (ze.cells[· % ze.cells.size]!))).toList (by simp) (by simp [hn, hsz])
    have h3 := run_buildSlice (P := P) w T e n (parts.map fun (i, x) => (i, a.eval x)) vs.toArray ie ze hu hie hze (by rw [hsz]; omega) hns (by
      rw [List.nil_append, Array.toArray_toList] at h2
      rw [Array.toList_map, hsz]
      rw [hsz] at h2
      exact h2)
    rw [h3]; rfl
theorem op_buildSlice (hc : chkAll P c.tab = true) {T n : Nat} {parts : Array (Nat × Operand)} (hd : ∀ d : Nat, o.dst = some d → d < X.f.n) (ho : o.op = .buildSlice T n parts) (hi : Inv X st a w A W V)
    (hk : (match assoc T c.tab with
    | some (.slice _ t _) => bif Nat.beq parts.toList.length n && Nat.ble (n * t.size) 16777216 then
      match litDeep X.f st parts.toList with
      | true => match litRow t X.f parts.toList 0 st with
        | some (xs, st) => k ((st.newLoc (.row t xs true)).put X.f o.dst (.row st.nl))
        | none => none
      | false => match litSh t X.f (st.freezeAll (litIds X.f st parts.toList)) parts.toList 0 with
        | some xs => k (((st.freezeAll (litIds X.f st parts.toList)).newLoc (.row t xs false)).put X.f o.dst (.row st.nl))
        | none => none
      else none
    | _ => none) = some r) : o.wp P a w (Post X k r) Q := by
  split at hk
  · rename_i e t by_ ha
    obtain ⟨h1, hk⟩ := cond_some hk
    simp only [Bool.and_eq_true] at h1
    have hn := Nat.eq_of_beq_eq_true h1.1
    have hs := Nat.le_of_ble_eq_true h1.2
    split at hk
    · split at hk
      · rename_i xs st1 hr
        obtain ⟨W1, vs, Ss, q1, q2, q3, q4, q5, q6⟩ := litRow_ok parts.toList 0 st st1 W xs [] hi Free.nil hr
        simp only [List.nil_append] at q2
        obtain ⟨W2, p1, p2⟩ := q1.newRow (t := t) (xs := xs) (dp := true) (cells := vs.toArray) (T := e) (fz := (0, 0)) (cap := n) (S := Ss) (by simpa using q2) (by omega) (by simp [q3, q4, hn]) (.inr rfl) (fun e => ⟨rfl, by have := Nat.le_mul_of_pos_right n (show 0 < t.size by omega); omega⟩) (fun h => by cases h)
          (fun c hc => (q2.own c hc).1) (q5 _ _ 0 (mkW_seg w vs e _) (fun c hc => mkW_old w _ c (q2.own c hc).1))
        rw [q4, hn] at p2
        refine wp_value hd ?_ p1 p2 hk
        simp only [execOp, ho, Sem.run_bind, run_lit hc ha hn hs q6, Result.andThen_ok, Sem.run_pure]
      · cases hk
    · split at hk
      · rename_i xs hr
        obtain ⟨A1, W1, g1, _⟩ := freezeAll_turn hi (litIds X.f st parts.toList)
        obtain ⟨vs, Ss, q1, q3, q4, q5, q6⟩ := litSh_ok g1 parts.toList 0 xs hr
        obtain ⟨W2, p1, p2⟩ := g1.newRow (t := t) (xs := xs) (dp := false) (cells := vs.toArray) (T := e) (fz := (0, 0)) (cap := n) (S := Ss) (by simpa using Free.nil) (by omega) (by simp [q3, q4, hn]) (.inr rfl) (fun e => ⟨rfl, by have := Nat.le_mul_of_pos_right n (show 0 < t.size by omega); omega⟩) (fun _ => q1)
          (fun c hc => g1.rep.ltA c (q1 c hc)) (q5 _ _ 0 (mkW_seg w vs e _) (fun c hc => mkW_old w _ c (g1.rep.ltA c (q1 c hc))))
        rw [q4, hn] at p2
        rw [(freezeAll_nl _ st).1] at p2
        refine wp_value hd ?_ p1 p2 hk
        simp only [execOp, ho, Sem.run_bind, run_lit hc ha hn hs q6, Result.andThen_ok, Sem.run_pure]
      · cases hk
  · cases hk

end
end Go.Proofs.Fw
