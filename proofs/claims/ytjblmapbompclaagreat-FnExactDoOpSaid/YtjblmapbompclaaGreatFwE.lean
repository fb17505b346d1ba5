/- What keeps 'Rep': a slot written, a place made, written, given up; typed values packed and unpacked. -/
import Derived.Test.YtjblmapbompclaaGreatFwD
set_option linter.all false
namespace Go.Proofs.Fw
open Go
def updV (V : Nat → Value) (k : Nat) (v : Value) : Nat → Value := fun j => if k = j then v else V j
def updW (W : Wit) (k : Nat) (v : Option (LW × List Nat)) : Wit := fun j => if k = j then v else W j
theorem updW_same (W : Wit) (k : Nat) (v : Option (LW × List Nat)) : updW W k v k = v := by simp [updW]
theorem updW_other {W : Wit} {k j : Nat} {v : Option (LW × List Nat)} (h : j ≠ k) : updW W k v j = W j := by simp [updW, Ne.symm h]

section
variable {st : St} {w w' : World} {M A A' : Nat → Prop} {W W' : Wit} {V : Nat → Value}
theorem Seg.heap {b off : Nat} {cs : List Value} (h : Seg w b off cs) (hb : w'.heap[b]? = w.heap[b]?) : Seg w' b off cs := h.mono hb
theorem Rep.put (h : Rep st w M A W V) {key : Nat} {a : AV} {v : Value} (hk : key < st.nb) (hv : RepAV A W w a v) : Rep (st.ev (.slot key a)) w M A W (updV V key v) where
  ltA := h.ltA
  nodup := h.nodup
  own := h.own
  apart := h.apart
  fresh := h.fresh
  slots k := by
    rw [get_slot]
    unfold updV
    by_cases e : key = k
    · simp only [if_pos e]; exact hv
    · simp only [if_neg e]; exact h.slots k
  locs id l p hp hl := h.locs id l p hp (by rw [loc_slot] at hl; exact hl)
  freshb k hk' := by
    rw [get_slot, if_neg (by have : st.nb ≤ k := hk'; omega)]
    exact h.freshb k hk'
theorem LocRep.mono (hA : ∀ b, A b → A' b) (hw : ∀ b, A b → w'.heap[b]? = w.heap[b]?) (hW : ∀ id lw F, W id = some (lw, F) → ∃ F', W' id = some (lw, F')) {id : Nat} {l : Loc}
    {lw : LW} {F : List Nat} (hid : W id = some (lw, F)) (hid' : W' id = some (lw, F)) (hF : ∀ b ∈ F, w'.heap[b]? = w.heap[b]?) (h : LocRep A W w id l) : LocRep A' W' w' id l := by
  cases l with
  | box cs =>
    obtain ⟨b, vs, h1, h2, h3, h4⟩ := h
    rw [hid] at h1
    simp only [Option.some.injEq, Prod.mk.injEq] at h1
    obtain ⟨rfl, rfl⟩ := h1
    exact ⟨b, vs, hid', h2.mono (hF b (by simp)), h3.heap (hF b (by simp)), RepL.mono hA hw hW cs vs h4⟩
  | row t xs deep =>
    rcases h with ⟨h1, h2⟩ | ⟨b, off, cap, S', h1, h2, h3, h4, h5, h6⟩
    · rw [hid] at h1
      exact .inl ⟨by rw [hid']; exact h1, h2⟩
    · rw [hid] at h1
      simp only [Option.some.injEq, Prod.mk.injEq] at h1
      obtain ⟨rfl, rfl⟩ := h1
      have hb := hF b (by simp)
      refine .inr ⟨b, off, cap, S', hid', h2, fun i hi => by rw [World.cell?_of_block (w := w) (a := ⟨b, off + i, none⟩) hb]; exact h3 i hi, h4.heap hb, ?_, fun e c hc => hA c (h6 e c hc)⟩
      refine RdRow.mono hb xs off S' (fun x S'' cs hs hx => ERd.mono t (fun c hc => ?_) hx) h5
      cases deep with
      | true => exact hF c (by simp [hs c hc])
      | false => exact hw c (h6 rfl c (hs c hc))
  | mp ag t es =>
    obtain ⟨b, arr, clock, h1, h2, h3, h4⟩ := h
    rw [hid] at h1
    simp only [Option.some.injEq, Prod.mk.injEq] at h1
    obtain ⟨rfl, rfl⟩ := h1
    exact ⟨b, arr, clock, hid', (hF b (by simp)).trans h2, h3, h4.move⟩
  | opn t xs i cells =>
    obtain ⟨b, off, cap, Sa, Sb, cs, h1, h2, h3, h4, h5, h6, h7, h8, h9, h10⟩ := h
    rw [hid] at h1
    simp only [Option.some.injEq, Prod.mk.injEq] at h1
    obtain ⟨rfl, rfl⟩ := h1
    have hb := hF b (by simp)
    exact ⟨b, off, cap, Sa, Sb, cs, hid', h2, h3, fun i hi => by rw [World.cell?_of_block (w := w) (a := ⟨b, off + i, none⟩) hb]; exact h4 i hi, h5.heap hb,
      RdRow.mono hb _ _ _ (fun x S'' cs hs hx => ERd.mono t (fun c hc => hF c (by simp [hs c hc])) hx) h6,
      RdRow.mono hb _ _ _ (fun x S'' cs hs hx => ERd.mono t (fun c hc => hF c (by simp [hs c hc])) hx) h7, h8, h9.mono hb, RepL.mono hA hw hW cells cs h10⟩
theorem Rep.heap (h : Rep st w M A W V) (hh : w'.heap = w.heap) : Rep st w' M A W V where
  ltA b hb := by rw [hh]; exact h.ltA b hb
  nodup := h.nodup
  own id lw F hW b hb := by rw [hh]; exact h.own id lw F hW b hb
  apart := h.apart
  fresh := h.fresh
  slots k := RepAV.mono (fun _ h => h) (fun b _ => by rw [hh]) (fun id lw F hw => ⟨F, hw⟩) _ _ (h.slots k)
  locs id l p hp hl := LocRep.mono (fun _ h => h) (fun b _ => by rw [hh]) (fun id lw F hw => ⟨F, hw⟩) hp hp (fun b _ => by rw [hh]) (h.locs id l p hp hl)
  freshb := h.freshb
theorem Rep.newLoc (h : Rep st w M A W V) {l : Loc} {lw : LW} {F : List Nat} (hsz : w.heap.size ≤ w'.heap.size) (hblk : ∀ b, b < w.heap.size → w'.heap[b]? = w.heap[b]?)
    (hF : F.Nodup) (hFb : ∀ b ∈ F, w.heap.size ≤ b ∧ b < w'.heap.size ∧ M b) (hl : LocRep A (updW W st.nl (some (lw, F))) w' st.nl l) :
    Rep (st.newLoc l) w' M A (updW W st.nl (some (lw, F))) V := by
  have hW : ∀ id lw' F', W id = some (lw', F') → ∃ F'', updW W st.nl (some (lw, F)) id = some (lw', F'') := fun id lw' F' e => by
    refine ⟨F', ?_⟩
    rw [updW_other (fun e' => ?_), e]
    rw [e', h.fresh st.nl (Nat.le_refl _)] at e; cases e
  have hA : ∀ b, A b → w'.heap[b]? = w.heap[b]? := fun b hb => hblk b (h.ltA b hb)
  refine ⟨fun b hb => Nat.lt_of_lt_of_le (h.ltA b hb) hsz, ?_, ?_, ?_, ?_, fun k => ?_, ?_, ?_⟩
  · intro id lw' F' e
    by_cases e' : id = st.nl
    · subst e'; rw [updW_same] at e; simp only [Option.some.injEq, Prod.mk.injEq] at e; rw [← e.2]; exact hF
    · rw [updW_other e'] at e; exact h.nodup id lw' F' e
  · intro id lw' F' e b hb
    by_cases e' : id = st.nl
    · subst e'; rw [updW_same] at e; simp only [Option.some.injEq, Prod.mk.injEq] at e; rw [← e.2] at hb
      obtain ⟨h1, h2, h3⟩ := hFb b hb
      exact ⟨h2, h3, fun hA => by have := h.ltA b hA; omega⟩
    · rw [updW_other e'] at e
      obtain ⟨h1, h2⟩ := h.own id lw' F' e b hb
      exact ⟨by omega, h2⟩
  · intro i j lwi Fi lwj Fj hij ei ej b hb hb'
    by_cases e1 : i = st.nl
    · subst e1
      rw [updW_same] at ei
      rw [updW_other (Ne.symm hij)] at ej
      simp only [Option.some.injEq, Prod.mk.injEq] at ei
      rw [← ei.2] at hb
      have := (hFb b hb).1
      have := (h.own j lwj Fj ej b hb').1
      omega
    · rw [updW_other e1] at ei
      by_cases e2 : j = st.nl
      · subst e2
        rw [updW_same] at ej
        simp only [Option.some.injEq, Prod.mk.injEq] at ej
        rw [← ej.2] at hb'
        have := (hFb b hb').1
        have := (h.own i lwi Fi ei b hb).1
        omega
      · rw [updW_other e2] at ej
        exact h.apart i j lwi Fi lwj Fj hij ei ej b hb hb'
  · intro id hid
    have : st.nl + 1 ≤ id := hid
    rw [updW_other (by omega)]
    exact h.fresh id (by omega)
  · exact RepAV.mono (fun _ h => h) hA hW _ _ (h.slots k)
  · intro id l' p hp hl'
    have hl'' : (st.ev (.loc st.nl l)).loc id = some l' := hl'
    rw [loc_loc] at hl''
    by_cases e : st.nl = id
    · subst e
      simp only [if_true, Option.some.injEq] at hl''
      rw [← hl'']; exact hl
    · rw [if_neg e] at hl''
      rw [updW_other (Ne.symm e)] at hp
      exact LocRep.mono (fun _ h => h) hA hW hp (by rw [updW_other (Ne.symm e)]; exact hp) (fun b hb => hblk b (h.own id p.1 p.2 hp b hb).1) (h.locs id l' p hp hl'')
  · exact h.freshb
theorem Rep.set (h : Rep st w M A W V) {id : Nat} {l : Loc} {lw : LW} {F F' : List Nat} (hid : W id = some (lw, F)) (hsz : w.heap.size ≤ w'.heap.size)
    (hsame : ∀ b, b < w.heap.size → b ∉ F → w'.heap[b]? = w.heap[b]?) (hF : F'.Nodup) (hown : ∀ b ∈ F', b < w'.heap.size ∧ M b ∧ ¬ A b)
    (hap : ∀ j lwj Fj, j ≠ id → W j = some (lwj, Fj) → ∀ b ∈ F', b ∉ Fj) (hl : LocRep A (updW W id (some (lw, F'))) w' id l) :
    Rep (st.ev (.loc id l)) w' M A (updW W id (some (lw, F'))) V := by
  have hW : ∀ j lw' Fj, W j = some (lw', Fj) → ∃ F'', updW W id (some (lw, F')) j = some (lw', F'') := fun j lw' Fj e => by
    by_cases e' : j = id
    · subst e'; rw [hid] at e; simp only [Option.some.injEq, Prod.mk.injEq] at e; exact ⟨F', by rw [updW_same, e.1]⟩
    · exact ⟨Fj, by rw [updW_other e']; exact e⟩
  have hA : ∀ b, A b → w'.heap[b]? = w.heap[b]? := fun b hb => hsame b (h.ltA b hb) (fun hF => (h.own id lw F hid b hF).2.2 hb)
  refine ⟨fun b hb => Nat.lt_of_lt_of_le (h.ltA b hb) hsz, ?_, ?_, ?_, ?_, fun k => ?_, ?_, ?_⟩
  · intro j lw' Fj e
    by_cases e' : j = id
    · subst e'; rw [updW_same] at e; simp only [Option.some.injEq, Prod.mk.injEq] at e; rw [← e.2]; exact hF
    · rw [updW_other e'] at e; exact h.nodup j lw' Fj e
  · intro j lw' Fj e b hb
    by_cases e' : j = id
    · subst e'; rw [updW_same] at e; simp only [Option.some.injEq, Prod.mk.injEq] at e; rw [← e.2] at hb; exact hown b hb
    · rw [updW_other e'] at e
      obtain ⟨h1, h2⟩ := h.own j lw' Fj e b hb
      exact ⟨by omega, h2⟩
  · intro i j lwi Fi lwj Fj hij ei ej b hb hb'
    by_cases e1 : i = id
    · subst e1
      rw [updW_same] at ei
      rw [updW_other (Ne.symm hij)] at ej
      simp only [Option.some.injEq, Prod.mk.injEq] at ei
      rw [← ei.2] at hb
      exact hap j lwj Fj (Ne.symm hij) ej b hb hb'
    · rw [updW_other e1] at ei
      by_cases e2 : j = id
      · subst e2
        rw [updW_same] at ej
        simp only [Option.some.injEq, Prod.mk.injEq] at ej
        rw [← ej.2] at hb'
        exact hap i lwi Fi e1 ei b hb' hb
      · rw [updW_other e2] at ej
        exact h.apart i j lwi Fi lwj Fj hij ei ej b hb hb'
  · intro j hj
    have := h.fresh j hj
    rw [updW_other (fun e => ?_)]
    · exact this
    · subst e; rw [hid] at this; cases this
  · exact RepAV.mono (fun _ h => h) hA hW _ _ (h.slots k)
  · intro j l' p hp hl'
    rw [loc_loc] at hl'
    by_cases e : id = j
    · subst e
      simp only [if_true, Option.some.injEq] at hl'
      rw [← hl']; exact hl
    · rw [if_neg e] at hl'
      rw [updW_other (Ne.symm e)] at hp
      exact LocRep.mono (fun _ h => h) hA hW hp (by rw [updW_other (Ne.symm e)]; exact hp) (fun b hb => hsame b (h.own j p.1 p.2 hp b hb).1 (fun hF => h.apart j id _ _ _ _ (Ne.symm e) hp hid b hb hF)) (h.locs j l' p hp hl')
  · exact h.freshb
theorem Rep.kill (h : Rep st w M A W V) {id : Nat} (hn : ∀ b F, W id ≠ some (.box b, F)) : Rep (st.ev (.kill id)) w M A (updW W id none) V := by
  have hW : ∀ j, j ≠ id → ∀ lw F, W j = some (lw, F) → ∃ F', updW W id none j = some (lw, F') := fun j hj lw F e => ⟨F, by rw [updW_other hj]; exact e⟩
  have he : ∀ j lw F, updW W id none j = some (lw, F) → j ≠ id ∧ W j = some (lw, F) := fun j lw F e => by
    by_cases e' : j = id
    · subst e'; rw [updW_same] at e; cases e
    · exact ⟨e', by rw [updW_other e'] at e; exact e⟩
  refine ⟨h.ltA, fun j lw F e => h.nodup j lw F (he j lw F e).2, fun j lw F e => h.own j lw F (he j lw F e).2, fun i j lwi Fi lwj Fj hij ei ej => h.apart i j lwi Fi lwj Fj hij (he _ _ _ ei).2 (he _ _ _ ej).2, ?_, fun k => ?_, ?_, ?_⟩
  · intro j hj
    by_cases e' : j = id
    · subst e'; rw [updW_same]
    · rw [updW_other e']; exact h.fresh j hj
  · rw [get_kill]; exact RepAV.kill (fun _ h => h) (fun _ _ => rfl) hn hW _ _ (h.slots k)
  · intro j l p hp hl
    obtain ⟨hj, hp'⟩ := he j p.1 p.2 hp
    rw [loc_kill] at hl
    cases hl0 : st.loc j with
    | none => rw [hl0] at hl; cases hl
    | some l0 =>
      rw [hl0] at hl
      simp only [Option.map_some, Option.some.injEq] at hl
      subst hl
      have := h.locs j l0 p hp' hl0
      cases l0 with
      | box cs =>
        obtain ⟨b, vs, h1, h2, h3, h4⟩ := this
        exact ⟨b, vs, by rw [updW_other hj]; exact h1, h2, h3, RepL.kill (fun _ h => h) (fun _ _ => rfl) hn hW cs vs h4⟩
      | row t xs deep =>
        rcases this with ⟨h1, h2⟩ | ⟨b, off, cap, S', h1, h2⟩
        · exact .inl ⟨by rw [updW_other hj]; exact h1, h2⟩
        · exact .inr ⟨b, off, cap, S', by rw [updW_other hj]; exact h1, h2⟩
      | mp ag t es =>
        obtain ⟨b, arr, clock, h1, h2⟩ := this
        exact ⟨b, arr, clock, by rw [updW_other hj]; exact h1, h2⟩
      | opn t xs i cells =>
        obtain ⟨b, off, cap, Sa, Sb, cs, h1, h2, h3, h4, h5, h6, h7, h8, h9, h10⟩ := this
        exact ⟨b, off, cap, Sa, Sb, cs, by rw [updW_other hj]; exact h1, h2, h3, h4, h5, h6, h7, h8, h9, RepL.kill (fun _ h => h) (fun _ _ => rfl) hn hW cells cs h10⟩
  · intro k hk
    rw [get_kill, h.freshb k hk]; rfl
theorem Rep.reset (h : Rep st w M A W V) {id : Nat} {l : Loc} {lw : LW} {F : List Nat} (hid : W id = none) (hlt : id < st.nl) (hsz : w.heap.size ≤ w'.heap.size)
    (hsame : ∀ b, b < w.heap.size → b ∉ F → w'.heap[b]? = w.heap[b]?) (hF : F.Nodup) (hown : ∀ b ∈ F, b < w'.heap.size ∧ M b ∧ ¬ A b)
    (hap : ∀ j lwj Fj, j ≠ id → W j = some (lwj, Fj) → ∀ b ∈ F, b ∉ Fj) (hl : LocRep A (updW W id (some (lw, F))) w' id l) :
    Rep (st.ev (.loc id l)) w' M A (updW W id (some (lw, F))) V := by
  have hne : ∀ j lw' Fj, W j = some (lw', Fj) → j ≠ id := fun j lw' Fj e e' => by subst e'; rw [hid] at e; cases e
  have hW : ∀ j lw' Fj, W j = some (lw', Fj) → ∃ F'', updW W id (some (lw, F)) j = some (lw', F'') := fun j lw' Fj e => ⟨Fj, by rw [updW_other (hne _ _ _ e)]; exact e⟩
  have hA : ∀ b, A b → w'.heap[b]? = w.heap[b]? := fun b hb => hsame b (h.ltA b hb) (fun hF => (hown b hF).2.2 hb)
  refine ⟨fun b hb => Nat.lt_of_lt_of_le (h.ltA b hb) hsz, ?_, ?_, ?_, ?_, fun k => ?_, ?_, ?_⟩
  · intro j lw' Fj e
    by_cases e' : j = id
    · subst e'; rw [updW_same] at e; simp only [Option.some.injEq, Prod.mk.injEq] at e; rw [← e.2]; exact hF
    · rw [updW_other e'] at e; exact h.nodup j lw' Fj e
  · intro j lw' Fj e b hb
    by_cases e' : j = id
    · subst e'; rw [updW_same] at e; simp only [Option.some.injEq, Prod.mk.injEq] at e; rw [← e.2] at hb; exact hown b hb
    · rw [updW_other e'] at e
      obtain ⟨h1, h2⟩ := h.own j lw' Fj e b hb
      exact ⟨by omega, h2⟩
  · intro i j lwi Fi lwj Fj hij ei ej b hb hb'
    by_cases e1 : i = id
    · subst e1
      rw [updW_same] at ei
      rw [updW_other (Ne.symm hij)] at ej
      simp only [Option.some.injEq, Prod.mk.injEq] at ei
      rw [← ei.2] at hb
      exact hap j lwj Fj (Ne.symm hij) ej b hb hb'
    · rw [updW_other e1] at ei
      by_cases e2 : j = id
      · subst e2
        rw [updW_same] at ej
        simp only [Option.some.injEq, Prod.mk.injEq] at ej
        rw [← ej.2] at hb'
        exact hap i lwi Fi e1 ei b hb' hb
      · rw [updW_other e2] at ej
        exact h.apart i j lwi Fi lwj Fj hij ei ej b hb hb'
  · intro j hj
    have : st.nl ≤ j := hj
    rw [updW_other (by omega)]
    exact h.fresh j hj
  · exact RepAV.mono (fun _ h => h) hA hW _ _ (h.slots k)
  · intro j l' p hp hl'
    rw [loc_loc] at hl'
    by_cases e : id = j
    · subst e
      simp only [if_true, Option.some.injEq] at hl'
      rw [← hl']; exact hl
    · rw [if_neg e] at hl'
      rw [updW_other (Ne.symm e)] at hp
      exact LocRep.mono (fun _ h => h) hA hW hp (by rw [updW_other (Ne.symm e)]; exact hp) (fun b hb => hsame b (h.own j p.1 p.2 hp b hb).1 (fun hF => hap j p.1 p.2 (Ne.symm e) hp b hF hb)) (h.locs j l' p hp hl')
  · exact h.freshb
theorem Rep.rowRd (h : Rep st w M A W V) {id : Nat} {t : Ty} {xs : List t.den} {dp : Bool} {lw : LW} {F : List Nat} (hid : W id = some (lw, F)) (hl : st.loc id = some (.row t xs dp)) :
    (∀ b, lw ≠ .box b) ∧ ∃ S, Rd w (.sl t) xs S [lw.val] ∧ (∀ b ∈ S, A b ∨ b ∈ F) ∧ (dp = true → S = F) := by
  have := h.locs id _ _ hid hl
  rcases this with ⟨h1, h2⟩ | ⟨b, off, cap, S', h1, h2, h3, h4, h5, h6⟩
  · rw [hid] at h1
    simp only [Option.some.injEq, Prod.mk.injEq] at h1
    obtain ⟨rfl, rfl⟩ := h1
    refine ⟨fun b e => (by cases e), [], ?_, (by simp), fun _ => rfl⟩
    simp only [Rd]
    exact Or.inl (by simp [h2, LW.val])
  · rw [hid] at h1
    simp only [Option.some.injEq, Prod.mk.injEq] at h1
    obtain ⟨rfl, rfl⟩ := h1
    refine ⟨fun b e => (by cases e), b :: S', ?_, ?_, ?_⟩
    · simp only [Rd]
      exact .inr ⟨b, off, cap, S', rfl, rfl, h2, h5.imp fun _ _ _ h => h.rd⟩
    · intro c hc
      rcases List.mem_cons.1 hc with rfl | hc
      · exact .inr (by simp)
      · cases dp with
        | true => exact .inr (by simp [hc])
        | false => exact .inl (h6 rfl c hc)
    · rintro rfl; rfl
theorem Rep.row_live (h : Rep st w M A W V) {id : Nat} {v : Value} (hv : RepAV A W w (.row id) v) : ∃ lw F, W id = some (lw, F) ∧ (∀ b, lw ≠ .box b) ∧ v = lw.val := by
  simpa only [RepAV] using hv
theorem Rep.freeze1 (h : Rep st w M A W V) (id : Nat) : ∃ A' W', Rep (st.freeze1 id) w M A' W' V ∧ (∀ b, A b → A' b) ∧ (∀ lw F, W id = some (lw, F) → (∀ b, lw ≠ .box b) → (∃ t xs dp, st.loc id = some (.row t xs dp)) → ∀ b ∈ F, A' b) ∧
    (∀ j, j ≠ id → W' j = W j) ∧ (∀ b F, W id = some (.box b, F) → W' id = W id) ∧ (∀ b, A' b → A b ∨ M b) := by
  unfold St.freeze1
  cases hl : st.loc id with
  | none => exact ⟨A, W, h, fun _ h => h, fun lw F e _ ⟨t, xs, dp, e'⟩ => (by cases e'), fun _ _ => rfl, fun _ _ _ => rfl, fun _ h => .inl h⟩
  | some l =>
    cases l with
    | box cs => exact ⟨A, W, h, fun _ h => h, fun lw F e _ ⟨t, xs, dp, e'⟩ => (by cases e'), fun _ _ => rfl, fun _ _ _ => rfl, fun _ h => .inl h⟩
    | mp _ _ _ => exact ⟨A, W, h, fun _ h => h, fun lw F e _ ⟨t, xs, dp, e'⟩ => (by cases e'), fun _ _ => rfl, fun _ _ _ => rfl, fun _ h => .inl h⟩
    | opn _ _ _ _ => exact ⟨A, W, h, fun _ h => h, fun lw F e _ ⟨t, xs, dp, e'⟩ => (by cases e'), fun _ _ => rfl, fun _ _ _ => rfl, fun _ h => .inl h⟩
    | row t xs dp =>
      let A' : Nat → Prop := fun b => A b ∨ ∃ lw F, W id = some (lw, F) ∧ b ∈ F
      have hn : ∀ b F, W id ≠ some (.box b, F) := fun b F e => (h.rowRd e hl).1 b rfl
      have hA : ∀ b, A b → A' b := fun b hb => .inl hb
      have hd : ∀ lw F, W id = some (lw, F) → ∃ S, (∀ b ∈ S, A' b) ∧ Rd w (.sl t) xs S [lw.val] := fun lw F e => by
        obtain ⟨_, S, h1, h2, _⟩ := h.rowRd e hl
        exact ⟨S, fun b hb => (h2 b hb).imp (fun h => h) (fun h => ⟨lw, F, e, h⟩), h1⟩
      have hW : ∀ j, j ≠ id → ∀ lw F, W j = some (lw, F) → ∃ F', updW W id none j = some (lw, F') := fun j hj lw F e => ⟨F, by rw [updW_other hj]; exact e⟩
      have he : ∀ j lw F, updW W id none j = some (lw, F) → j ≠ id ∧ W j = some (lw, F) := fun j lw F e => by
        by_cases e' : j = id
        · subst e'; rw [updW_same] at e; cases e
        · exact ⟨e', by rw [updW_other e'] at e; exact e⟩
      refine ⟨A', updW W id none, ?_, hA, fun lw F e _ _ b hb => .inr ⟨lw, F, e, hb⟩, fun j hj => updW_other hj, fun b F e => absurd e (hn b F), fun b hb => hb.imp (fun h => h) (fun ⟨lw, F, e, hF⟩ => (h.own id lw F e b hF).2.1)⟩
      refine ⟨?_, fun j lw F e => h.nodup j lw F (he j lw F e).2, ?_, fun i j lwi Fi lwj Fj hij ei ej => h.apart i j lwi Fi lwj Fj hij (he _ _ _ ei).2 (he _ _ _ ej).2, ?_, fun k => ?_, ?_, ?_⟩
      · rintro b (hb | ⟨lw, F, e, hb⟩)
        · exact h.ltA b hb
        · exact (h.own id lw F e b hb).1
      · intro j lw F e b hb
        obtain ⟨hj, e⟩ := he j lw F e
        obtain ⟨h1, h2, h3⟩ := h.own j lw F e b hb
        refine ⟨h1, h2, ?_⟩
        rintro (hb' | ⟨lw', F', e', hb'⟩)
        · exact h3 hb'
        · exact h.apart j id _ _ _ _ hj e e' b hb hb'
      · intro j hj
        by_cases e' : j = id
        · subst e'; rw [updW_same]
        · rw [updW_other e']; exact h.fresh j hj
      · rw [get_frz]; exact RepAV.frz hA hn hW hd _ _ (h.slots k)
      · intro j l p hp hl'
        obtain ⟨hj, hp'⟩ := he j p.1 p.2 hp
        rw [loc_frz, if_neg (Ne.symm hj)] at hl'
        cases hl0 : st.loc j with
        | none => rw [hl0] at hl'; cases hl'
        | some l0 =>
          rw [hl0] at hl'
          simp only [Option.map_some, Option.some.injEq] at hl'
          subst hl'
          have := h.locs j l0 p hp' hl0
          cases l0 with
          | box cs =>
            obtain ⟨b, vs, h1, h2, h3, h4⟩ := this
            exact ⟨b, vs, by rw [updW_other hj]; exact h1, h2, h3, RepL.frz hA hn hW hd cs vs h4⟩
          | row t' xs' deep =>
            rcases this with ⟨h1, h2⟩ | ⟨b, off, cap, S', h1, h2, h3, h4, h5, h6⟩
            · exact .inl ⟨by rw [updW_other hj]; exact h1, h2⟩
            · exact .inr ⟨b, off, cap, S', by rw [updW_other hj]; exact h1, h2, h3, h4, h5, fun e c hc => hA c (h6 e c hc)⟩
          | mp ag' t' es' =>
            obtain ⟨b, arr, clock, h1, h2⟩ := this
            exact ⟨b, arr, clock, by rw [updW_other hj]; exact h1, h2⟩
          | opn t' xs' i' cells =>
            obtain ⟨b, off, cap, Sa, Sb, cs, h1, h2, h3, h4, h5, h6, h7, h8, h9, h10⟩ := this
            exact ⟨b, off, cap, Sa, Sb, cs, by rw [updW_other hj]; exact h1, h2, h3, h4, h5, h6, h7, h8, h9, RepL.frz hA hn hW hd cells cs h10⟩
      · intro k hk
        rw [get_frz, h.freshb k hk]; rfl

end
end Go.Proofs.Fw
