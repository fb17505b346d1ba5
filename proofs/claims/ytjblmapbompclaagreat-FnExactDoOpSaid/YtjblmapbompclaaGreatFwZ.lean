/- Results; a function entered in place. -/
import Derived.Test.YtjblmapbompclaaGreatFwY
set_option linter.all false
namespace Go.Proofs.Fw
open Go

section
variable [GInv] {R : Type} {P : Program} {c : Cfg} {X : Ctx} {st : St} {a : Act} {w : World} {A : Nat → Prop} {W : Wit} {V : Nat → Value} {r : R} {h : (R : Type) → CallH R}
def resOne (tmps : Array Value) : ResultVar → Sem Value
  | .tmp t => pure (tmps.getD t Go.undef)
  | .cell a t => do loadVar t (← asAddr (tmps.getD a Go.undef))
theorem resultAV_ok (hc : chkAll P c.tab = true) (hi : Inv X st a w A W V) {rv : ResultVar} {av : AV} (e : resultAV c X.f st rv = some av) : ∃ u, RepAV A W w av u ∧ (resOne a.tmps rv).run P w = .ok u w := by
  cases rv with
  | tmp t =>
    simp only [resultAV, Option.some.injEq] at e
    subst e
    exact ⟨_, hi.at t, rfl⟩
  | cell t T =>
    simp only [resultAV] at e
    split at e
    · rename_i ag ty ht
      split at e
      · rename_i cs hl
        simp only [Option.some.injEq] at e
        subst e
        have fa := facts_of hc ht
        obtain ⟨b, off, vs, h1, h2, h3, h4⟩ := loadCells_ok hi (hi.at t) hl
        refine ⟨if ag = true then .agg vs.toArray else vs.getD 0 Go.undef, mkAV_rep h4 (fun e => by rw [h3]; exact fa.one e), ?_⟩
        have := run_loadAt fa h2 h3
        simp only [Instr.loadAt, Instr.sureAddr, Sem.run_bind, Sem.run_pure, Result.andThen_ok] at this
        simp only [resOne, h1, asAddr, Sem.run_bind, Sem.run_pure, Result.andThen_ok, this]
      · cases e
    · cases e
theorem resultAVs_ok (hc : chkAll P c.tab = true) (hi : Inv X st a w A W V) : ∀ {rs : List ResultVar} {avs : List AV}, resultAVs c X.f st rs = some avs → ∃ us, RepL A W w avs us ∧ (rs.mapM (resOne a.tmps)).run P w = .ok us w
  | [], avs, e => by
    simp only [resultAVs, Option.some.injEq] at e
    subst e
    exact ⟨[], by simp [RepL], by simp⟩
  | rv :: rs, avs, e => by
    simp only [resultAVs] at e
    split at e
    · rename_i v hv
      split at e
      · rename_i vs hvs
        simp only [Option.some.injEq] at e
        subst e
        obtain ⟨u, h1, h2⟩ := resultAV_ok hc hi hv
        obtain ⟨us, h3, h4⟩ := resultAVs_ok hc hi hvs
        exact ⟨u :: us, by simp only [RepL]; exact ⟨u, us, rfl, h1, h3⟩, by simp [List.mapM_cons, h2, h4]⟩
      · cases e
    · cases e
def wrapV (us : List Value) : Value := match us with
  | [v] => v
  | us => .tuple us.toArray
theorem run_results {fn : Func} {us : List Value} (e : (fn.results.toList.mapM (resOne a.tmps)).run P w = .ok us w) : (results fn a.tmps).run P w = .ok (wrapV us) w := by
  have hf : results fn a.tmps = (do let vs ← fn.results.mapM (resOne a.tmps); pure (if h : vs.size = 1 then vs[0] else .tuple vs)) := by
    unfold results
    congr 1
  rw [hf]
  rw [← Array.toArray_toList (xs := fn.results), List.mapM_toArray, Sem.run_bind, Sem.run_map, e]
  simp only [Result.andThen_ok, Sem.run_pure]
  congr 1
  split
  · rename_i h1
    have h1 : us.length = 1 := by simpa using h1
    obtain ⟨v, rfl⟩ := List.length_eq_one_iff.1 h1
    rfl
  · rename_i h1
    unfold wrapV
    split
    · exact absurd rfl h1
    · rfl
theorem wrap_rep {avs : List AV} {us : List Value} (h : RepL A W w avs us) : RepAV A W w (wrapTup avs) (wrapV us) := by
  have hl := RepL.length h
  unfold wrapTup wrapV
  split
  · simp only [RepL] at h
    obtain ⟨v, s, rfl, h1, rfl⟩ := h
    exact h1
  · rename_i h1
    split
    · rename_i v
      exfalso
      obtain ⟨x, rfl⟩ := List.length_eq_one_iff.1 (show avs.length = 1 by rw [← hl]; rfl)
      exact h1 x rfl
    · simp only [RepAV]; exact ⟨us, rfl, h⟩
theorem putArgs_get (base : Nat) : ∀ (avs : List AV) (i : Nat) (st : St) (k : Nat), (putArgs base i avs st).get k = if base + i ≤ k ∧ k < base + i + avs.length then (avs[k - (base + i)]?).getD .any else st.get k
  | [], i, st, k => by simp [putArgs]; omega
  | v :: avs, i, st, k => by
    simp only [putArgs, List.length_cons]
    rw [putArgs_get base avs (i + 1) _ k, get_slot]
    by_cases h1 : base + (i + 1) ≤ k ∧ k < base + (i + 1) + avs.length
    · rw [if_pos h1, if_pos (by omega)]
      rw [show k - (base + i) = (k - (base + (i + 1))) + 1 by omega, List.getElem?_cons_succ]
    · rw [if_neg h1]
      by_cases h2 : base + i = k
      · rw [if_pos h2, if_pos (by omega)]
        subst h2; simp
      · rw [if_neg h2, if_neg (by omega)]
theorem putArgs_rest (base : Nat) : ∀ (avs : List AV) (i : Nat) (st : St), (putArgs base i avs st).nl = st.nl ∧ (putArgs base i avs st).nb = st.nb ∧ (putArgs base i avs st).kb = st.kb ∧ ∀ id, (putArgs base i avs st).loc id = st.loc id
  | [], _, _ => ⟨rfl, rfl, rfl, fun _ => rfl⟩
  | v :: avs, i, st => by
    obtain ⟨h1, h2, h3, h4⟩ := putArgs_rest base avs (i + 1) (st.ev (.slot (base + i) v))
    exact ⟨h1, h2, h3, fun id => (h4 id).trans (loc_slot st _ v id)⟩
theorem RepL.get {avs : List AV} {us : List Value} : RepL A W w avs us → ∀ i, i < avs.length → RepAV A W w ((avs[i]?).getD .any) (us.getD i Go.undef) := by
  induction avs generalizing us with
  | nil => intro _ i hi; simp at hi
  | cons v avs ih =>
    intro h i hi
    simp only [RepL] at h
    obtain ⟨u, s, rfl, h1, h2⟩ := h
    cases i with
    | zero => simpa using h1
    | succ i => simpa using ih h2 i (by simpa using hi)
theorem inline_ok (hc : chkAll P c.tab = true) (hq : eqFacts P c.tab c.eqs = true) (hh : HOK P h) (hm : P.follows .mixedOrders = true) {g lv : Nat} {fn : Func} (hg : P.funcs[g]? = some fn)
    (hL : ∀ whole, fn.body = some whole → ∀ s ∈ c.lo, s.g = g → s.lv = lv → ∀ body, loopAt whole s.li = some body → LoopEq c h ⟨s.b, fn.ntmps, s.g, s.lv, s.l0⟩ body s)
    (hi : Inv X st a w A W V) {avs : List AV} {vs : List Value} (hr : RepL A W w avs vs) {k : AV → St → Option R} (hk : inlineK c h g lv fn avs st k = some r) :
    Calls P g vs.toArray w (fun e w' => ∃ st' A' W' V' av v, e = .returned v ∧ Inv X st' a w' A' W' V' ∧ RepAV A' W' w' av v ∧ k av st' = some r) := by
  unfold inlineK at hk
  split at hk
  · cases hk
  · rename_i body hb
    obtain ⟨hle, hk⟩ := cond_some hk
    have hle := Nat.le_of_ble_eq_true hle
    have hlen := RepL.length hr
    refine calls_of_wp hg hb ?_
    let a1 : Act := { tmps := vs.toArray ++ Array.replicate (fn.ntmps - vs.toArray.size) Go.undef, defers := [] }
    let V1 : Nat → Value := fun k => if st.nb ≤ k ∧ k < st.nb + fn.ntmps then a1.tmps.getD (k - st.nb) Go.undef else V k
    let X1 : Ctx := { M := X.M, A0 := A, W0 := W, V0 := V, w0 := w, f := ⟨st.nb, fn.ntmps, g, lv, st.nl⟩, C := X.C, wC := X.wC }
    obtain ⟨q1, q2, q3, q4⟩ := putArgs_rest st.nb avs 0 st
    have hget : ∀ n, n < vs.length → a1.tmps.getD n Go.undef = vs.getD n Go.undef := fun n hn => by
      simp [a1, Array.getElem?_append, hn]
    have hundef : ∀ n, vs.length ≤ n → n < fn.ntmps → a1.tmps.getD n Go.undef = Go.undef := fun n h1 h2 => by
      simp only [a1, Array.getD_eq_getD_getElem?, Array.getElem?_append, List.size_toArray]
      rw [if_neg (by omega)]
      rw [Array.getElem?_replicate]
      split <;> rfl
    have hrep : Rep { putArgs st.nb 0 avs st with nb := st.nb + fn.ntmps } w X.M A W V1 := by
      have hR := hi.rep
      refine ⟨hR.ltA, hR.nodup, hR.own, hR.apart, fun id hid => hR.fresh id (by rw [← q1]; exact hid), fun k => ?_, fun id l p hp hl => ?_, fun k hk => ?_⟩
      · have e : ({ putArgs st.nb 0 avs st with nb := st.nb + fn.ntmps } : St).get k = (putArgs st.nb 0 avs st).get k := rfl
        rw [e, putArgs_get]
        by_cases h1 : st.nb + 0 ≤ k ∧ k < st.nb + 0 + avs.length
        · rw [if_pos h1]
          have : V1 k = vs.getD (k - (st.nb + 0)) Go.undef := by
            simp only [V1]
            rw [if_pos (by omega), hget _ (by omega)]; rfl
          rw [this]
          exact RepL.get hr _ (by omega)
        · rw [if_neg h1]
          by_cases h2 : st.nb ≤ k
          · rw [hR.freshb k h2]; simp only [RepAV]
          · have : V1 k = V k := by simp only [V1]; rw [if_neg (by omega)]
            rw [this]; exact hR.slots k
      · have e : ({ putArgs st.nb 0 avs st with nb := st.nb + fn.ntmps } : St).loc id = (putArgs st.nb 0 avs st).loc id := rfl
        rw [e, q4] at hl
        exact hR.locs id l p hp hl
      · have e : ({ putArgs st.nb 0 avs st with nb := st.nb + fn.ntmps } : St).get k = (putArgs st.nb 0 avs st).get k := rfl
        have hk : st.nb + fn.ntmps ≤ k := hk
        rw [e, putArgs_get, if_neg (by omega)]
        exact hR.freshb k (by omega)
    have hi1 : Inv X1 { putArgs st.nb 0 avs st with nb := st.nb + fn.ntmps } a1 w A W V1 := by
      refine ⟨hrep, ?_, rfl, fun n hn => ?_, fun k hk => ?_, Nat.le_refl _, Kept.refl _ _, fun _ h => h, fun _ h => .inl h, fun _ _ _ h => h, fun b hb => hi.newM hb, fun b hb => ?_, hi.same, fun j p e => ?_, hi.glob⟩
      · simp only [a1, Array.size_append, List.size_toArray, Array.size_replicate, X1]; omega
      · have hn : n < fn.ntmps := hn
        simp only [V1, X1]
        rw [if_pos (by omega), Nat.add_sub_cancel_left]
      · have hk : k < st.nb := hk
        simp only [V1, X1]
        rw [if_neg (by omega)]
      · rcases hi.keep b hb with h | ⟨j, hj, e⟩
        · exact .inl h
        · exact .inr ⟨j, by simp only [q3]; exact hj, e⟩
      · simp only [X1]
        rcases Nat.lt_or_ge j st.nl with h | h
        · exact h
        · have e : W j = some p := e
          rw [hi.rep.fresh j h] at e; cases e
    have hwp := code_ok (X := X1) hc hq hh hm (whole := body) (fun s hs e1 e2 e3 e4 bd hbd => by
      have := hL body hb s hs e2 e3 bd hbd
      rw [e1, e2, e3, e4] at this
      exact this) body R 0 _ _ r a1 w A W V1 (fun j _ => by rw [Nat.zero_add]) hi1 hk
    refine wp_mono hwp fun e a' w' he => ?_
    have fin : ∀ {e : Ex}, (∀ i, e ≠ .exit i) → Post X1 (fun st' => match e with
        | .exit _ => none
        | _ => match resultAVs c X1.f st' fn.results.toList with
          | some vs => k (wrapTup vs) st'
          | none => none) r a' w' → a'.defers = [] ∧ ∃ v, (results fn a'.tmps).run P w' = .ok v w' ∧ ∃ st' A' W' V' av v', Ending.returned v = .returned v' ∧ Inv X st' a w' A' W' V' ∧ RepAV A' W' w' av v' ∧ k av st' = some r := fun {e} hne ⟨st2, A2, W2, V2, g1, g2⟩ => by
      have g1 : (match resultAVs c X1.f st2 fn.results.toList with
          | some vs => k (wrapTup vs) st2
          | none => none) = some r := by
        cases e with
        | exit i => exact absurd rfl (hne i)
        | normal => exact g1
        | ret => exact g1
      split at g1
      · rename_i avs2 hav
        obtain ⟨us, u1, u2⟩ := resultAVs_ok hc g2 hav
        refine ⟨g2.defers, _, run_results u2, st2, A2, W2, V2, _, _, rfl, ?_, wrap_rep u1, g1⟩
        have hnb : st.nb + fn.ntmps ≤ st2.nb := g2.nb
        have hnb0 := hi.nb
        refine ⟨g2.rep, hi.size, hi.defers, fun n hn => ?_, fun k hk => ?_, by omega, hi.kept.trans g2.kept, fun b hb => g2.up b (hi.up b hb), fun b hb => ?_, fun j b F e => g2.box j b F (hi.box j b F e), hi.new, g2.keep, g2.same, hi.z, hi.gi⟩
        · rw [← hi.cur n hn]
          exact g2.outer _ (by simp only [X1]; omega)
        · rw [← hi.outer k hk]
          exact g2.outer _ (by simp only [X1]; omega)
        · rcases g2.down b hb with h | h
          · exact hi.down b h
          · exact .inr h
      · cases g1
    cases e with
    | normal => exact fin (e := .normal) (fun i => by simp) he
    | ret => exact fin (e := .ret) (fun i => by simp) he
    | exit i =>
      obtain ⟨_, _, _, _, g1, _⟩ := he
      cases g1
    | _ => exact he.elim

end
end Go.Proofs.Fw
