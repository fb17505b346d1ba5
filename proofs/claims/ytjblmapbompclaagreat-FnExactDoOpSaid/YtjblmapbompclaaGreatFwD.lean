/- What an abstract state says of the machine's: 'Rep'; what keeps it. -/
import Derived.Test.YtjblmapbompclaaGreatFwC
set_option linter.all false
namespace Go.Proofs.Fw
open Go

inductive LW where
  | box (b : Nat) | nil | row (b off k len cap : Nat) | map (b : Nat)
def LW.val : LW → Value
  | .box b => .pointer (some ⟨b, 0, none⟩)
  | .nil => .slice none 0 0
  | .row b off _ len cap => .slice (some ⟨b, off, none⟩) len cap
  | .map b => .map (some b)
abbrev Wit := Nat → Option (LW × List Nat)

mutual
def RepAV (A : Nat → Prop) (W : Wit) (w : World) : AV → Value → Prop
  | .d t x, v => ∃ S, (∀ b ∈ S, A b) ∧ Rd w t x S [v]
  | .nils, v => v = .slice none 0 0
  | .agg cs, v => ∃ vs, v = .agg vs.toArray ∧ RepL A W w cs vs
  | .tup cs, v => ∃ vs, v = .tuple vs.toArray ∧ RepL A W w cs vs
  | .ref id off, v => ∃ b F, W id = some (.box b, F) ∧ v = .pointer (some ⟨b, off, none⟩)
  | .row id, v => ∃ lw F, W id = some (lw, F) ∧ (∀ b, lw ≠ .box b) ∧ v = lw.val
  | .eref id i off, v => ∃ b o k len cap F, W id = some (.row b o k len cap, F) ∧ i < len ∧ v = .pointer (some ⟨b, o + i * k + off, none⟩)
  | .dref t x off, v => ∃ b o S cs, A b ∧ (∀ b ∈ S, A b) ∧ v = .pointer (some ⟨b, o + off, none⟩) ∧ Seg w b o cs ∧ Rd w t x S cs
  | .fn g cs, v => ∃ vs, v = .func (.func g) #[] vs.toArray ∧ RepL A W w cs vs
  | .any, _ => True
def RepL (A : Nat → Prop) (W : Wit) (w : World) : List AV → List Value → Prop
  | [], vs => vs = []
  | c :: cs, vs => ∃ v r, vs = v :: r ∧ RepAV A W w c v ∧ RepL A W w cs r
end
def ValF (w : World) (ag : Bool) (t : Ty) (x : t.den) (v : Value) : Prop := if ag = true then ∃ cs : List Value, v = .agg cs.toArray ∧ Rd w t x [] cs else Rd w t x [] [v]
def MpRep (w : World) (ag : Bool) (t : Ty) : List MapEntry → List (List UInt8 × t.den) → Prop
  | [], es => es = []
  | e :: r, es => ∃ k x s, es = (k, x) :: s ∧ e.key = .string ⟨k.toArray⟩ ∧ ValF w ag t x e.val ∧ MpRep w ag t r s
theorem ValF.move {w w' : World} {ag : Bool} {t : Ty} {x : t.den} {v : Value} (h : ValF w ag t x v) : ValF w' ag t x v := by
  unfold ValF at h ⊢
  split at h
  · rename_i e
    obtain ⟨cs, h1, h2⟩ := h
    rw [if_pos e]
    exact ⟨cs, h1, Rd.mono t (by simp) h2⟩
  · rename_i e
    rw [if_neg e]
    exact Rd.mono t (by simp) h
theorem MpRep.move {w w' : World} {ag : Bool} {t : Ty} : ∀ {l : List MapEntry} {es : List (List UInt8 × t.den)}, MpRep w ag t l es → MpRep w' ag t l es
  | [], _, h => h
  | _ :: _, _, ⟨k, x, s, h1, h2, h3, h4⟩ => ⟨k, x, s, h1, h2, h3.move, h4.move⟩
def LocRep (A : Nat → Prop) (W : Wit) (w : World) (id : Nat) : Loc → Prop
  | .box cs => ∃ b vs, W id = some (.box b, [b]) ∧ Seg w b 0 vs ∧ NF w b 0 vs.length ∧ RepL A W w cs vs
  | .row t xs deep => (W id = some (.nil, []) ∧ xs = []) ∨
      ∃ b off cap S', W id = some (.row b off t.size xs.length cap, b :: (if deep then S' else [])) ∧ xs.length ≤ cap ∧
        (∀ i, i < cap * t.size → (w.cell? ⟨b, off + i, none⟩).isSome = true) ∧ NFr w b off cap t.size ∧
        RdRow (ERd deep w t) w b t.size off xs S' ∧ (deep = false → ∀ c ∈ S', A c)
  | .opn t xs i cells => ∃ b off cap Sa Sb cs, W id = some (.row b off t.size xs.length cap, b :: (Sa ++ Sb)) ∧ i < xs.length ∧ xs.length ≤ cap ∧
        (∀ j, j < cap * t.size → (w.cell? ⟨b, off + j, none⟩).isSome = true) ∧ NFr w b off cap t.size ∧
        RdRow (ERd true w t) w b t.size off (xs.take i) Sa ∧ RdRow (ERd true w t) w b t.size (off + (i + 1) * t.size) (xs.drop (i + 1)) Sb ∧
        cs.length = t.size ∧ Seg w b (off + i * t.size) cs ∧ RepL A W w cells cs
  | .mp ag t es => ∃ b arr clock, W id = some (.map b, [b]) ∧ w.heap[b]? = some (.map arr clock) ∧ t.flat = true ∧ MpRep w ag t arr.toList es

structure Rep (st : St) (w : World) (M : Nat → Prop) (A : Nat → Prop) (W : Wit) (V : Nat → Value) : Prop where
  ltA : ∀ b, A b → b < w.heap.size
  nodup : ∀ id lw F, W id = some (lw, F) → F.Nodup
  own : ∀ id lw F, W id = some (lw, F) → ∀ b ∈ F, b < w.heap.size ∧ M b ∧ ¬ A b
  apart : ∀ id id' lw F lw' F', id ≠ id' → W id = some (lw, F) → W id' = some (lw', F') → ∀ b ∈ F, b ∉ F'
  fresh : ∀ id, st.nl ≤ id → W id = none
  slots : ∀ k, RepAV A W w (st.get k) (V k)
  locs : ∀ id l p, W id = some p → st.loc id = some l → LocRep A W w id l
  freshb : ∀ k, st.nb ≤ k → st.get k = .any

mutual
theorem resolve_nil : ∀ v : AV, resolve [] v = v
  | .d _ _ | .nils | .ref _ _ | .dref _ _ _ | .any => rfl
  | .row id => rfl
  | .eref id i off => rfl
  | .agg cs => by simp only [resolve, resolveL_nil cs]
  | .tup cs => by simp only [resolve, resolveL_nil cs]
  | .fn g cs => by simp only [resolve, resolveL_nil cs]
theorem resolveL_nil : ∀ vs : List AV, resolveL [] vs = vs
  | [] => rfl
  | v :: r => by simp only [resolveL, resolve_nil v, resolveL_nil r]
end
theorem res_eq (ks : List Ev) (v : AV) : res ks v = resolve ks v := by cases ks with | nil => exact (resolve_nil v).symm | cons => rfl
theorem resL_eq (ks : List Ev) (v : List AV) : resL ks v = resolveL ks v := by cases ks with | nil => exact (resolveL_nil v).symm | cons => rfl
theorem findEv_append (id : Nat) (e : Ev) : ∀ ks : List Ev, findEv id (ks ++ [e]) = match findEv id ks with | some x => some x | none => findEv id [e]
  | [] => by simp [findEv]
  | .kill j :: r => by
    simp only [List.cons_append, findEv]
    cases h : Nat.beq j id <;> simp [findEv_append id e r]
  | .frz j t xs :: r => by
    simp only [List.cons_append, findEv]
    cases h : Nat.beq j id <;> simp [findEv_append id e r]
  | .slot _ _ :: r => by simp only [List.cons_append, findEv]; exact findEv_append id e r
  | .loc _ _ :: r => by simp only [List.cons_append, findEv]; exact findEv_append id e r
theorem findEv_shape (id : Nat) : ∀ ks : List Ev, findEv id ks = none ∨ findEv id ks = some (.kill id) ∨ ∃ t xs, findEv id ks = some (.frz id t xs)
  | [] => .inl rfl
  | .kill j :: r => by
    simp only [findEv]
    cases h : Nat.beq j id
    · simpa using findEv_shape id r
    · have := Nat.eq_of_beq_eq_true h; subst this; simp
  | .frz j t xs :: r => by
    simp only [findEv]
    cases h : Nat.beq j id
    · simpa using findEv_shape id r
    · have := Nat.eq_of_beq_eq_true h; subst this; simp
  | .slot _ _ :: r => by simp only [findEv]; exact findEv_shape id r
  | .loc _ _ :: r => by simp only [findEv]; exact findEv_shape id r

mutual
theorem resolve_append (ks : List Ev) (e : Ev) : ∀ v : AV, resolve (ks ++ [e]) v = resolve [e] (resolve ks v)
  | .d _ _ | .nils | .ref _ _ | .dref _ _ _ | .any => rfl
  | .row id => by
    simp only [resolve, findEv_append]
    rcases findEv_shape id ks with h | h | ⟨t, xs, h⟩ <;> simp [h, resolve]
  | .eref id i off => by
    simp only [resolve, findEv_append]
    rcases findEv_shape id ks with h | h | ⟨t, xs, h⟩ <;> simp [h, resolve]
  | .agg cs => by simp only [resolve, resolveL_append ks e cs]
  | .tup cs => by simp only [resolve, resolveL_append ks e cs]
  | .fn g cs => by simp only [resolve, resolveL_append ks e cs]
theorem resolveL_append (ks : List Ev) (e : Ev) : ∀ vs : List AV, resolveL (ks ++ [e]) vs = resolveL [e] (resolveL ks vs)
  | [] => rfl
  | v :: r => by simp only [resolveL, resolve_append ks e v, resolveL_append ks e r]
end
theorem look_append (k : Nat) (e : Ev) : ∀ (log ks : List Ev), look k log (ks ++ [e]) = resolve [e] (look k log ks)
  | [], _ => rfl
  | .slot j v :: r, ks => by
    simp only [look]
    cases h : Nat.beq j k
    · exact look_append k e r ks
    · simp only [cond, res_eq, resolve_append]
  | .loc _ _ :: r, ks => look_append k e r ks
  | .kill j :: r, ks => look_append k e r (.kill j :: ks)
  | .frz j t xs :: r, ks => look_append k e r (.frz j t xs :: ks)
def resolveLoc (ks : List Ev) : Loc → Loc
  | .box cs => .box (resolveL ks cs)
  | .opn t xs i cs => .opn t xs i (resolveL ks cs)
  | l => l
theorem lookLoc_append (id : Nat) (e : Ev) : ∀ (log ks : List Ev), lookLoc id log (ks ++ [e]) = (lookLoc id log ks).map (resolveLoc [e])
  | [], _ => rfl
  | .slot _ _ :: r, ks => lookLoc_append id e r ks
  | .loc j l :: r, ks => by
    simp only [lookLoc]
    cases h : Nat.beq j id
    · exact lookLoc_append id e r ks
    · cases l <;> simp [cond, resL_eq, resolveL_append, resolveLoc]
  | .kill j :: r, ks => lookLoc_append id e r (.kill j :: ks)
  | .frz j t xs :: r, ks => by
    simp only [lookLoc]
    cases h : Nat.beq j id
    · exact lookLoc_append id e r (.frz j t xs :: ks)
    · rfl
theorem get_slot (st : St) (j : Nat) (v : AV) (k : Nat) : (st.ev (.slot j v)).get k = if j = k then v else st.get k := by
  simp only [St.get, St.ev, look]
  cases h : Nat.beq j k
  · simp [Nat.ne_of_beq_eq_false h]
  · simp [Nat.eq_of_beq_eq_true h, res]
theorem get_loc (st : St) (j : Nat) (l : Loc) (k : Nat) : (st.ev (.loc j l)).get k = st.get k := rfl
theorem get_kill (st : St) (j k : Nat) : (st.ev (.kill j)).get k = resolve [.kill j] (st.get k) := by
  simpa [St.get, St.ev, look] using look_append k (.kill j) st.log []
theorem get_frz (st : St) (j : Nat) (t : Ty) (xs : List t.den) (k : Nat) : (st.ev (.frz j t xs)).get k = resolve [.frz j t xs] (st.get k) := by
  simpa [St.get, St.ev, look] using look_append k (.frz j t xs) st.log []
theorem loc_slot (st : St) (j : Nat) (v : AV) (id : Nat) : (st.ev (.slot j v)).loc id = st.loc id := rfl
theorem loc_loc (st : St) (j : Nat) (l : Loc) (id : Nat) : (st.ev (.loc j l)).loc id = if j = id then some l else st.loc id := by
  simp only [St.loc, St.ev, lookLoc]
  cases h : Nat.beq j id
  · simp [Nat.ne_of_beq_eq_false h]
  · cases l <;> simp [Nat.eq_of_beq_eq_true h, resL]
theorem loc_kill (st : St) (j id : Nat) : (st.ev (.kill j)).loc id = (st.loc id).map (resolveLoc [.kill j]) := by
  simpa [St.loc, St.ev, lookLoc] using lookLoc_append id (.kill j) st.log []
theorem loc_frz (st : St) (j : Nat) (t : Ty) (xs : List t.den) (id : Nat) : (st.ev (.frz j t xs)).loc id = if j = id then none else (st.loc id).map (resolveLoc [.frz j t xs]) := by
  simp only [St.loc, St.ev, lookLoc]
  cases h : Nat.beq j id
  · simpa [Nat.ne_of_beq_eq_false h] using lookLoc_append id (.frz j t xs) st.log []
  · simp [Nat.eq_of_beq_eq_true h]

section mono
variable {A A' : Nat → Prop} {W W' : Wit} {w w' : World}

mutual
theorem RepAV.mono (hA : ∀ b, A b → A' b) (hw : ∀ b, A b → w'.heap[b]? = w.heap[b]?) (hW : ∀ id lw F, W id = some (lw, F) → ∃ F', W' id = some (lw, F')) :
    ∀ (a : AV) (v : Value), RepAV A W w a v → RepAV A' W' w' a v
  | .d t x, v, h => by
    simp only [RepAV] at h ⊢
    obtain ⟨S, h1, h2⟩ := h
    exact ⟨S, fun b hb => hA b (h1 b hb), Rd.mono t (fun b hb => hw b (h1 b hb)) h2⟩
  | .nils, v, h => by simpa only [RepAV] using h
  | .any, v, h => by simp only [RepAV]
  | .agg cs, v, h => by
    simp only [RepAV] at h ⊢
    obtain ⟨vs, h1, h2⟩ := h
    exact ⟨vs, h1, RepL.mono hA hw hW cs vs h2⟩
  | .tup cs, v, h => by
    simp only [RepAV] at h ⊢
    obtain ⟨vs, h1, h2⟩ := h
    exact ⟨vs, h1, RepL.mono hA hw hW cs vs h2⟩
  | .fn g cs, v, h => by
    simp only [RepAV] at h ⊢
    obtain ⟨vs, h1, h2⟩ := h
    exact ⟨vs, h1, RepL.mono hA hw hW cs vs h2⟩
  | .ref id off, v, h => by
    simp only [RepAV] at h ⊢
    obtain ⟨b, F, h1, h2⟩ := h
    obtain ⟨F', h3⟩ := hW _ _ _ h1
    exact ⟨b, F', h3, h2⟩
  | .row id, v, h => by
    simp only [RepAV] at h ⊢
    obtain ⟨lw, F, h1, h2⟩ := h
    obtain ⟨F', h3⟩ := hW _ _ _ h1
    exact ⟨lw, F', h3, h2⟩
  | .eref id i off, v, h => by
    simp only [RepAV] at h ⊢
    obtain ⟨b, o, k, len, cap, F, h1, h2⟩ := h
    obtain ⟨F', h3⟩ := hW _ _ _ h1
    exact ⟨b, o, k, len, cap, F', h3, h2⟩
  | .dref t x off, v, h => by
    simp only [RepAV] at h ⊢
    obtain ⟨b, o, S, cs, h1, h2, h3, h4, h5⟩ := h
    exact ⟨b, o, S, cs, hA b h1, fun b hb => hA b (h2 b hb), h3, h4.mono (hw b h1), Rd.mono t (fun b hb => hw b (h2 b hb)) h5⟩
theorem RepL.mono (hA : ∀ b, A b → A' b) (hw : ∀ b, A b → w'.heap[b]? = w.heap[b]?) (hW : ∀ id lw F, W id = some (lw, F) → ∃ F', W' id = some (lw, F')) :
    ∀ (cs : List AV) (vs : List Value), RepL A W w cs vs → RepL A' W' w' cs vs
  | [], vs, h => by simpa only [RepL] using h
  | c :: cs, vs, h => by
    simp only [RepL] at h ⊢
    obtain ⟨v, r, h1, h2, h3⟩ := h
    exact ⟨v, r, h1, RepAV.mono hA hw hW c v h2, RepL.mono hA hw hW cs r h3⟩
end

mutual
theorem RepAV.kill {id : Nat} (hA : ∀ b, A b → A' b) (hw : ∀ b, A b → w'.heap[b]? = w.heap[b]?) (hn : ∀ b F, W id ≠ some (.box b, F)) (hW : ∀ j, j ≠ id → ∀ lw F, W j = some (lw, F) → ∃ F', W' j = some (lw, F')) :
    ∀ (a : AV) (v : Value), RepAV A W w a v → RepAV A' W' w' (resolve [.kill id] a) v
  | .d t x, v, h => by
    simp only [RepAV, resolve] at h ⊢
    obtain ⟨S, h1, h2⟩ := h
    exact ⟨S, fun b hb => hA b (h1 b hb), Rd.mono t (fun b hb => hw b (h1 b hb)) h2⟩
  | .nils, v, h => by simpa only [RepAV, resolve] using h
  | .any, v, h => by simp only [RepAV, resolve]
  | .agg cs, v, h => by
    simp only [RepAV, resolve] at h ⊢
    obtain ⟨vs, h1, h2⟩ := h
    exact ⟨vs, h1, RepL.kill hA hw hn hW cs vs h2⟩
  | .tup cs, v, h => by
    simp only [RepAV, resolve] at h ⊢
    obtain ⟨vs, h1, h2⟩ := h
    exact ⟨vs, h1, RepL.kill hA hw hn hW cs vs h2⟩
  | .fn g cs, v, h => by
    simp only [RepAV, resolve] at h ⊢
    obtain ⟨vs, h1, h2⟩ := h
    exact ⟨vs, h1, RepL.kill hA hw hn hW cs vs h2⟩
  | .ref j off, v, h => by
    simp only [RepAV, resolve] at h ⊢
    obtain ⟨b, F, h1, h2⟩ := h
    obtain ⟨F', h3⟩ := hW j (fun e => hn b F (by rw [← e]; exact h1)) _ _ h1
    exact ⟨b, F', h3, h2⟩
  | .row j, v, h => by
    simp only [resolve, findEv]
    cases hb : Nat.beq id j
    · simp only [RepAV, cond] at h ⊢
      obtain ⟨lw, F, h1, h2⟩ := h
      obtain ⟨F', h3⟩ := hW j (fun e => Nat.ne_of_beq_eq_false hb e.symm) _ _ h1
      exact ⟨lw, F', h3, h2⟩
    · simp only [cond, RepAV]
  | .eref j i off, v, h => by
    simp only [resolve, findEv]
    cases hb : Nat.beq id j
    · simp only [RepAV, cond] at h ⊢
      obtain ⟨b, o, k, len, cap, F, h1, h2⟩ := h
      obtain ⟨F', h3⟩ := hW j (fun e => Nat.ne_of_beq_eq_false hb e.symm) _ _ h1
      exact ⟨b, o, k, len, cap, F', h3, h2⟩
    · simp only [cond, RepAV]
  | .dref t x off, v, h => by
    simp only [RepAV, resolve] at h ⊢
    obtain ⟨b, o, S, cs, h1, h2, h3, h4, h5⟩ := h
    exact ⟨b, o, S, cs, hA b h1, fun b hb => hA b (h2 b hb), h3, h4.mono (hw b h1), Rd.mono t (fun b hb => hw b (h2 b hb)) h5⟩
theorem RepL.kill {id : Nat} (hA : ∀ b, A b → A' b) (hw : ∀ b, A b → w'.heap[b]? = w.heap[b]?) (hn : ∀ b F, W id ≠ some (.box b, F)) (hW : ∀ j, j ≠ id → ∀ lw F, W j = some (lw, F) → ∃ F', W' j = some (lw, F')) :
    ∀ (cs : List AV) (vs : List Value), RepL A W w cs vs → RepL A' W' w' (resolveL [.kill id] cs) vs
  | [], vs, h => by simpa only [RepL, resolveL] using h
  | c :: cs, vs, h => by
    simp only [RepL, resolveL] at h ⊢
    obtain ⟨v, r, h1, h2, h3⟩ := h
    exact ⟨v, r, h1, RepAV.kill hA hw hn hW c v h2, RepL.kill hA hw hn hW cs r h3⟩
end

mutual
theorem RepAV.frz {id : Nat} {t0 : Ty} {xs0 : List t0.den} (hA : ∀ b, A b → A' b) (hn : ∀ b F, W id ≠ some (.box b, F))
    (hW : ∀ j, j ≠ id → ∀ lw F, W j = some (lw, F) → ∃ F', W' j = some (lw, F'))
    (hd : ∀ lw F, W id = some (lw, F) → ∃ S, (∀ b ∈ S, A' b) ∧ Rd w (.sl t0) xs0 S [lw.val]) :
    ∀ (a : AV) (v : Value), RepAV A W w a v → RepAV A' W' w (resolve [.frz id t0 xs0] a) v
  | .d t x, v, h => by
    simp only [RepAV, resolve] at h ⊢
    obtain ⟨S, h1, h2⟩ := h
    exact ⟨S, fun b hb => hA b (h1 b hb), h2⟩
  | .nils, v, h => by simpa only [RepAV, resolve] using h
  | .any, v, h => by simp only [RepAV, resolve]
  | .agg cs, v, h => by
    simp only [RepAV, resolve] at h ⊢
    obtain ⟨vs, h1, h2⟩ := h
    exact ⟨vs, h1, RepL.frz hA hn hW hd cs vs h2⟩
  | .tup cs, v, h => by
    simp only [RepAV, resolve] at h ⊢
    obtain ⟨vs, h1, h2⟩ := h
    exact ⟨vs, h1, RepL.frz hA hn hW hd cs vs h2⟩
  | .fn g cs, v, h => by
    simp only [RepAV, resolve] at h ⊢
    obtain ⟨vs, h1, h2⟩ := h
    exact ⟨vs, h1, RepL.frz hA hn hW hd cs vs h2⟩
  | .ref j off, v, h => by
    simp only [RepAV, resolve] at h ⊢
    obtain ⟨b, F, h1, h2⟩ := h
    obtain ⟨F', h3⟩ := hW j (fun e => hn b F (by rw [← e]; exact h1)) _ _ h1
    exact ⟨b, F', h3, h2⟩
  | .row j, v, h => by
    simp only [resolve, findEv]
    cases hb : Nat.beq id j
    · simp only [RepAV, cond] at h ⊢
      obtain ⟨lw, F, h1, h2⟩ := h
      obtain ⟨F', h3⟩ := hW j (fun e => Nat.ne_of_beq_eq_false hb e.symm) _ _ h1
      exact ⟨lw, F', h3, h2⟩
    · have := Nat.eq_of_beq_eq_true hb
      subst this
      simp only [RepAV, cond] at h ⊢
      obtain ⟨lw, F, h1, _, h2⟩ := h
      rw [h2]; exact hd _ _ h1
  | .eref j i off, v, h => by
    simp only [resolve, findEv]
    cases hb : Nat.beq id j
    · simp only [RepAV, cond] at h ⊢
      obtain ⟨b, o, k, len, cap, F, h1, h2⟩ := h
      obtain ⟨F', h3⟩ := hW j (fun e => Nat.ne_of_beq_eq_false hb e.symm) _ _ h1
      exact ⟨b, o, k, len, cap, F', h3, h2⟩
    · simp only [cond, RepAV]
  | .dref t x off, v, h => by
    simp only [RepAV, resolve] at h ⊢
    obtain ⟨b, o, S, cs, h1, h2, h3, h4, h5⟩ := h
    exact ⟨b, o, S, cs, hA b h1, fun b hb => hA b (h2 b hb), h3, h4, h5⟩
theorem RepL.frz {id : Nat} {t0 : Ty} {xs0 : List t0.den} (hA : ∀ b, A b → A' b) (hn : ∀ b F, W id ≠ some (.box b, F))
    (hW : ∀ j, j ≠ id → ∀ lw F, W j = some (lw, F) → ∃ F', W' j = some (lw, F'))
    (hd : ∀ lw F, W id = some (lw, F) → ∃ S, (∀ b ∈ S, A' b) ∧ Rd w (.sl t0) xs0 S [lw.val]) :
    ∀ (cs : List AV) (vs : List Value), RepL A W w cs vs → RepL A' W' w (resolveL [.frz id t0 xs0] cs) vs
  | [], vs, h => by simpa only [RepL, resolveL] using h
  | c :: cs, vs, h => by
    simp only [RepL, resolveL] at h ⊢
    obtain ⟨v, r, h1, h2, h3⟩ := h
    exact ⟨v, r, h1, RepAV.frz hA hn hW hd c v h2, RepL.frz hA hn hW hd cs r h3⟩
end
end mono

end Go.Proofs.Fw
