/- Contracts of functions: what is asked, what is promised; a call under one. -/
import Derived.Test.YtjblmapbompclaaGreatFwZ
set_option linter.all false
namespace Go.Proofs.Fw
open Go
def ValRd (w : World) (ag : Bool) (t : Ty) (x : t.den) (S : List Nat) (v : Value) : Prop :=
  if ag = true then ∃ cs : List Value, v = .agg cs.toArray ∧ Rd w t x S cs else Rd w t x S [v]
def CapsRd (w : World) (B : Nat → Prop) : (ts : List Ty) → List Value → (tysTy ts).den → Prop
  | [], vs, _ => vs = []
  | t :: r, vs, x => ∃ b o us cs S, vs = .pointer (some ⟨b, o, none⟩) :: us ∧ B b ∧ Seg w b o cs ∧ Rd w t x.1 S cs ∧ (∀ c ∈ S, B c) ∧ CapsRd w B r us x.2
theorem CapsRd.mono {w : World} {B B' : Nat → Prop} (hB : ∀ b, B b → B' b) : ∀ (ts : List Ty) {vs : List Value} {x : (tysTy ts).den}, CapsRd w B ts vs x → CapsRd w B' ts vs x
  | [], _, _, h => h
  | _ :: r, _, _, ⟨b, o, us, cs, S, h1, h2, h3, h4, h5, h6⟩ => ⟨b, o, us, cs, S, h1, hB b h2, h3, h4, fun c hc => hB c (h5 c hc), CapsRd.mono hB r h6⟩
def OwnV (w : World) (ag : Bool) (t : Ty) (x : t.den) (S : List Nat) (v : Value) : Prop :=
  if ag = true then ∃ cs : List Value, v = .agg cs.toArray ∧ OwnRd w t x S cs else OwnRd w t x S [v]
def OwnL (w : World) : (t : Ty) → t.den → List (List Nat) → List Value → Prop
  | .sl t, xs, Ss, cs => ∃ S, Ss = [S] ∧ OwnRd w (.sl t) xs S cs
  | .pair a b, x, Ss, cs => ∃ S1 S2 c1 c2, Ss = S1 ++ S2 ∧ cs = c1 ++ c2 ∧ OwnL w a x.1 S1 c1 ∧ OwnL w b x.2 S2 c2
  | .unit, _, Ss, cs => Ss = [] ∧ cs = []
  | .bool, x, Ss, cs => Ss = [] ∧ Rd w .bool x [] cs
  | .int k, x, Ss, cs => Ss = [] ∧ Rd w (.int k) x [] cs
  | .str, x, Ss, cs => Ss = [] ∧ Rd w .str x [] cs
  | .err, x, Ss, cs => Ss = [] ∧ Rd w .err x [] cs
def OwnLV (w : World) (ag : Bool) (t : Ty) (x : t.den) (Ss : List (List Nat)) (v : Value) : Prop :=
  if ag = true then ∃ cs : List Value, v = .agg cs.toArray ∧ OwnL w t x Ss cs else OwnL w t x Ss [v]
def ArgsRd (w : World) (B : Nat → Prop) : (ins : List PK) → List Value → (insTy ins).den → List (List Nat) → Prop
  | [], vs, _, bs => vs = [] ∧ bs = []
  | .val ag t :: r, vs, x, bs => ∃ v us S, vs = v :: us ∧ ValRd w ag t x.1 S v ∧ (∀ b ∈ S, B b) ∧ ArgsRd w B r us x.2 bs
  | .ptr t :: r, vs, x, bs => ∃ b us bs' cs S, vs = .pointer (some ⟨b, 0, none⟩) :: us ∧ bs = [b] :: bs' ∧ Seg w b 0 cs ∧ NF w b 0 cs.length ∧ Rd w t x.1 S cs ∧ (∀ c ∈ S, B c) ∧ ArgsRd w B r us x.2 bs'
  | .fn g ts :: r, vs, x, bs => ∃ cs us, vs = .func (.func g) #[] cs.toArray :: us ∧ CapsRd w B ts cs x.1 ∧ ArgsRd w B r us x.2 bs
  | .mut ag t :: r, vs, x, bs => ∃ v us Ss bs', vs = v :: us ∧ bs = Ss ++ bs' ∧ OwnLV w ag t x.1 Ss v ∧ ArgsRd w B r us x.2 bs'
  | .take ag t :: r, vs, x, bs => ∃ v us Ss bs', vs = v :: us ∧ bs = Ss ++ bs' ∧ OwnLV w ag t x.1 Ss v ∧ ArgsRd w B r us x.2 bs'
def PtrsRd (w : World) (B : Nat → Prop) : (ins : List PK) → List Value → List (List Nat) → List (List Nat) → (ptrTy ins).den → Prop
  | [], _, _, bs', _ => bs' = []
  | .val _ _ :: r, vs, bs, bs', y => PtrsRd w B r vs.tail bs bs' y
  | .fn _ _ :: r, vs, bs, bs', y => PtrsRd w B r vs.tail bs bs' y
  | .ptr t :: r, vs, bs, bs', y => ∃ b b1 b2 cs S, bs = [b] :: b1 ∧ bs' = [b] :: b2 ∧ Seg w b 0 cs ∧ NF w b 0 cs.length ∧ Rd w t y.1 S cs ∧ (∀ c ∈ S, B c) ∧ PtrsRd w B r vs.tail b1 b2 y.2
  | .mut ag t :: r, vs, bs, bs', y => ∃ v us Ss Ss' b1 b2, vs = v :: us ∧ bs = Ss ++ b1 ∧ bs' = Ss' ++ b2 ∧ Ss.length = nSl t ∧ OwnLV w ag t y.1 Ss' v ∧ PtrsRd w B r us b1 b2 y.2
  | .take _ t :: r, vs, bs, bs', y => ∃ Ss b1, bs = Ss ++ b1 ∧ Ss.length = nSl t ∧ PtrsRd w B r vs.tail b1 bs' y
def OutsRd (w : World) (B : Nat → Prop) : (outs : List OutK) → List Value → (outsTy outs).den → List Nat → Prop
  | [], us, _, O => us = [] ∧ O = []
  | o :: r, us, y, O => ∃ u us' S O', us = u :: us' ∧ (if o.own = true then OwnV w o.agg o.t y.1 S u ∧ O = S ++ O' else ValRd w o.agg o.t y.1 S u ∧ (∀ b ∈ S, B b) ∧ O = O') ∧ OutsRd w B r us' y.2 O'
def Ok [GInv] (P : Program) (g : Nat) (s : Sig) : Prop := Callable P g ∧ ∀ (w : World) (vs : List Value) (x : (insTy s.ins).den) (y : (outsTy s.outs).den × (ptrTy s.ins).den) (bs : List (List Nat)) (B : Nat → Prop),
  GInv.J w → (∀ b, GInv.S b → B b) → ArgsRd w B s.ins vs x bs → (∀ b, B b → b < w.heap.size) → bs.flatten.Nodup → (∀ b ∈ bs.flatten, b < w.heap.size ∧ ¬ B b) → s.F x = some y →
  Calls P g vs.toArray w (fun e w' => ∃ us B' O bs', e = .returned (wrapV us) ∧ Kept (fun b => w.heap.size ≤ b ∨ b ∈ bs.flatten) w w' ∧ (∀ b, B b → B' b) ∧ (∀ b, B' b → B b ∨ ((w.heap.size ≤ b ∨ b ∈ bs.flatten) ∧ b < w'.heap.size)) ∧
    (O ++ bs'.flatten).Nodup ∧ (∀ b ∈ O ++ bs'.flatten, (w.heap.size ≤ b ∨ b ∈ bs.flatten) ∧ b < w'.heap.size ∧ ¬ B' b) ∧ OutsRd w' B' s.outs us y.1 O ∧ PtrsRd w' B' s.ins vs bs bs' y.2)

section
variable [GInv] {R : Type} {P : Program} {c : Cfg} {X : Ctx} {st : St} {a : Act} {w w' : World} {A A' : Nat → Prop} {W : Wit} {V : Nat → Value} {r : R} {M : Nat → Prop}
theorem ArgsRd.mono {B B' : Nat → Prop} (hB : ∀ b, B b → B' b) : ∀ (ins : List PK) {vs : List Value} {x : (insTy ins).den} {bs : List (List Nat)}, ArgsRd w B ins vs x bs → ArgsRd w B' ins vs x bs
  | [], _, _, _, h => h
  | .val ag t :: r, _, _, _, ⟨v, us, S, h1, h2, h3, h4⟩ => ⟨v, us, S, h1, h2, fun b hb => hB b (h3 b hb), ArgsRd.mono hB r h4⟩
  | .ptr t :: r, _, _, _, ⟨b, us, bs', cs, S, h1, h2, h3, h4, h5, h6, h7⟩ => ⟨b, us, bs', cs, S, h1, h2, h3, h4, h5, fun b hb => hB b (h6 b hb), ArgsRd.mono hB r h7⟩
  | .fn g ts :: r, _, _, _, ⟨cs, us, h1, h2, h3⟩ => ⟨cs, us, h1, CapsRd.mono hB ts h2, ArgsRd.mono hB r h3⟩
  | .mut ag t :: r, _, _, _, ⟨v, us, Ss, bs', h1, h2, h3, h4⟩ => ⟨v, us, Ss, bs', h1, h2, h3, ArgsRd.mono hB r h4⟩
  | .take ag t :: r, _, _, _, ⟨v, us, Ss, bs', h1, h2, h3, h4⟩ => ⟨v, us, Ss, bs', h1, h2, h3, ArgsRd.mono hB r h4⟩
def MutAt (W : Wit) : (t : Ty) → List AV → List (List Nat) → List Value → Prop
  | .sl t, cs, Ss, us => (cs = [.nils] ∧ Ss = [[]] ∧ us = [.slice none 0 0]) ∨
      ∃ id lw F, cs = [.row id] ∧ W id = some (lw, F) ∧ Ss = [F] ∧ us = [lw.val] ∧ (lw = .nil ∨ ∃ b off len cap, lw = .row b off t.size len cap)
  | .pair a b, cs, Ss, us => ∃ c1 c2 S1 S2 u1 u2, cs = c1 ++ c2 ∧ Ss = S1 ++ S2 ∧ us = u1 ++ u2 ∧ MutAt W a c1 S1 u1 ∧ MutAt W b c2 S2 u2
  | .unit, cs, Ss, us => cs = [] ∧ Ss = [] ∧ us = []
  | .bool, cs, Ss, us => Ss = [] ∧ ∃ c u, cs = [c] ∧ us = [u] ∧ rowIds [c] = []
  | .int _, cs, Ss, us => Ss = [] ∧ ∃ c u, cs = [c] ∧ us = [u] ∧ rowIds [c] = []
  | .str, cs, Ss, us => Ss = [] ∧ ∃ c u, cs = [c] ∧ us = [u] ∧ rowIds [c] = []
  | .err, cs, Ss, us => Ss = [] ∧ ∃ c u, cs = [c] ∧ us = [u] ∧ rowIds [c] = []
def MutV (W : Wit) (ag : Bool) (t : Ty) (cs : List AV) (Ss : List (List Nat)) (u : Value) : Prop :=
  if ag = true then ∃ ws : List Value, u = .agg ws.toArray ∧ MutAt W t cs Ss ws else MutAt W t cs Ss [u]
def PtrOf (W : Wit) : List PK → List AV → List Value → List (List Nat) → Prop
  | [], [], _, bs => bs = []
  | .val _ _ :: r, _ :: avs, vs, bs => PtrOf W r avs vs.tail bs
  | .fn _ _ :: r, _ :: avs, vs, bs => PtrOf W r avs vs.tail bs
  | .ptr _ :: r, .ref id _ :: avs, vs, bs => ∃ b bs', bs = [b] :: bs' ∧ W id = some (.box b, [b]) ∧ PtrOf W r avs vs.tail bs'
  | .mut ag t :: r, v :: avs, vs, bs => ∃ u us Ss bs' cs, vs = u :: us ∧ bs = Ss ++ bs' ∧ argCells ag v = some cs ∧ rowIds v.cells = rowIds cs ∧ MutV W ag t cs Ss u ∧ PtrOf W r avs us bs'
  | .take ag t :: r, v :: avs, vs, bs => ∃ u us Ss bs' cs, vs = u :: us ∧ bs = Ss ++ bs' ∧ argCells ag v = some cs ∧ rowIds v.cells = rowIds cs ∧ MutV W ag t cs Ss u ∧ PtrOf W r avs us bs'
  | _, _, _, _ => False
def feet (st : St) (W : Wit) (A : Nat → Prop) (ids : List Nat) (b : Nat) : Prop :=
  A b ∨ ∃ id ∈ ids, b ∈ foot W id ∧ ∃ lw F t xs dp, W id = some (lw, F) ∧ (∀ b, lw ≠ .box b) ∧ st.loc id = some (.row t xs dp)
theorem feet_mono {ids ids' : List Nat} (h : ∀ id ∈ ids, id ∈ ids') {b : Nat} (hb : feet st W A ids b) : feet st W A ids' b := by
  rcases hb with hb | ⟨id, h1, h2⟩
  · exact .inl hb
  · exact .inr ⟨id, h id h1, h2⟩
theorem argCaps_cons (v : AV) (avs : List AV) : ∀ id ∈ argCaps avs, id ∈ argCaps (v :: avs) := fun id h => by
  cases v <;> simp [argCaps, h]
def feetC (st : St) (W : Wit) (A : Nat → Prop) (ids caps : List Nat) (b : Nat) : Prop := feet st W A ids b ∨ ∃ id ∈ caps, W id = some (.box b, [b])
theorem feetC_mono {ids ids' caps caps' : List Nat} (h : ∀ id ∈ ids, id ∈ ids') (hc : ∀ id ∈ caps, id ∈ caps') {b : Nat} (hb : feetC st W A ids caps b) : feetC st W A ids' caps' b := by
  rcases hb with hb | ⟨id, h1, h2⟩
  · exact .inl (feet_mono h hb)
  · exact .inr ⟨id, hc id h1, h2⟩
theorem packCaps_ok (hr : Rep st w M A W V) : ∀ (ts : List Ty) (cs : List AV) (ws : List Value) (x : (tysTy ts).den), RepL A W w cs ws → packCaps st ts cs = some x →
    CapsRd w (feetC st W A (capRows st cs) (capIds cs)) ts ws x
  | [], [], ws, x, h, e => by simp only [CapsRd]; simpa only [RepL] using h
  | [], _ :: _, ws, x, h, e => by simp [packCaps] at e
  | _ :: _, [], ws, x, h, e => by simp [packCaps] at e
  | t :: r, v :: cs, ws, x, h, e => by
    simp only [packCaps] at e
    cases hp : capData st t v with
    | none => rw [hp] at e; simp at e
    | some x1 =>
      rw [hp] at e
      simp only at e
      cases hq : packCaps st r cs with
      | none => rw [hq] at e; simp at e
      | some x2 =>
        rw [hq] at e
        have e : (x1, x2) = x := Option.some.inj e
        subst e
        simp only [RepL] at h
        obtain ⟨u, us, rfl, h1, h2⟩ := h
        have ih := packCaps_ok hr r cs us x2 h2 hq
        unfold capData at hp
        split at hp
        · rename_i id
          split at hp
          · rename_i cells hl
            simp only [RepAV] at h1
            obtain ⟨b, F, h1, rfl⟩ := h1
            obtain ⟨b', vs', k1, k2, k3, k4⟩ := hr.locs id _ _ h1 hl
            rw [h1] at k1
            simp only [Option.some.injEq, Prod.mk.injEq, LW.box.injEq] at k1
            obtain ⟨rfl, rfl⟩ := k1
            obtain ⟨Ss, d1, d2, _⟩ := dataL_rep hr cells vs' k4
            refine ⟨b, 0, us, vs', Ss.flatten, rfl, .inr ⟨id, by simp [capIds], h1⟩, k2, packAll_rep d1 hp, fun c hc => .inl (feet_mono (fun i hi => ?_) (d2 c hc)), CapsRd.mono (fun b hb => feetC_mono (fun i hi => ?_) (fun i hi => ?_) hb) r ih⟩
            · simp only [capRows, hl, List.mem_append]; exact .inl hi
            · simp only [capRows, hl, List.mem_append]; exact .inr hi
            · simp [capIds, hi]
          · cases hp
        · rename_i t' y
          obtain ⟨rfl, _⟩ := castTy_eq hp
          have hy := castTy_self hp
          subst hy
          simp only [RepAV] at h1
          obtain ⟨b, o, S, vs', m1, m2, rfl, m3, m4⟩ := h1
          exact ⟨b, o, us, vs', S, by simp, .inl (.inl m1), m3, m4, fun c hc => .inl (.inl (m2 c hc)), ih⟩
        · cases hp
theorem own_packL (hr : Rep st w M A W V) : ∀ (t : Ty) {cs r : List AV} {us : List Value} {x : t.den}, RepL A W w cs us → deepOK st cs = true → t.pack (st.dataL cs) = some (x, r) →
    ∃ u1 u2 c1 c2 Ss, us = u1 ++ u2 ∧ cs = c1 ++ c2 ∧ r = st.dataL c2 ∧ OwnL w t x Ss u1 ∧ MutAt W t c1 Ss u1 ∧ RepL A W w c2 u2 ∧ deepOK st c2 = true := by
  have leaf : ∀ (t : Ty) {cs r : List AV} {us : List Value} {x : t.den}, RepL A W w cs us → deepOK st cs = true → leafOf t (st.dataL cs) = some (x, r) → (∀ u, t ≠ .sl u) →
      ∃ u cs' us' cc, us = u :: us' ∧ cs = cc :: cs' ∧ r = st.dataL cs' ∧ Rd w t x [] [u] ∧ rowIds [cc] = [] ∧ RepL A W w cs' us' ∧ deepOK st cs' = true := fun t {cs r us x} h hd e hns => by
    cases cs with
    | nil => simp [St.dataL, leafOf] at e
    | cons c cs =>
      simp only [RepL] at h
      obtain ⟨u, us', rfl, h1, h2⟩ := h
      simp only [St.dataL] at e
      cases c with
      | d t' y =>
        simp only [St.data1, leafOf] at e
        simp only [deepOK, Bool.and_eq_true] at hd
        cases hc : castTy t' t y with
        | none => rw [hc] at e; simp at e
        | some z =>
          rw [hc] at e
          simp only [Option.some.injEq, Prod.mk.injEq] at e
          obtain ⟨rfl, rfl⟩ := e
          obtain ⟨rfl, _⟩ := castTy_eq hc
          have := castTy_self hc
          subst this
          obtain ⟨S, _, hrd⟩ := h1.dval
          have hS := hrd.flat _ hd.1
          subst hS
          exact ⟨u, cs, us', _, rfl, rfl, rfl, hrd, rfl, h2, hd.2⟩
      | row id =>
        simp only [St.data1] at e
        split at e
        · rename_i t' xs dp hl
          simp only [leafOf] at e
          cases hc : castTy (.sl t') t xs with
          | none => rw [hc] at e; simp at e
          | some z => obtain ⟨e', _⟩ := castTy_eq hc; exact absurd e'.symm (hns t')
        · simp [leafOf] at e
      | nils => simp [St.data1, leafOf] at e
      | _ => simp [deepOK] at hd
  intro t
  induction t with
  | unit =>
    intro cs r us x h hd e
    simp only [Ty.pack] at e
    have e : (x, st.dataL cs) = (x, r) := by
      have := Option.some.inj e
      rw [Prod.mk.injEq] at this ⊢
      exact ⟨rfl, this.2⟩
    simp only [Prod.mk.injEq, true_and] at e
    exact ⟨[], us, [], cs, [], rfl, rfl, e.symm, by simp [OwnL], by simp [MutAt], h, hd⟩
  | pair p q ihp ihq =>
    intro cs r us x h hd e
    simp only [Ty.pack] at e
    split at e
    · rename_i x1 r1 e1
      split at e
      · rename_i x2 r2 e2
        simp only [Option.some.injEq, Prod.mk.injEq] at e
        obtain ⟨rfl, rfl⟩ := e
        obtain ⟨u1, u2, c1, c2, S1, rfl, rfl, rfl, h1, g1, h2, h3⟩ := ihp h hd e1
        obtain ⟨u3, u4, c3, c4, S2, rfl, rfl, rfl, h4, g2, h5, h6⟩ := ihq h2 h3 e2
        exact ⟨u1 ++ u3, u4, c1 ++ c3, c4, S1 ++ S2, by simp, by simp, rfl, by simp only [OwnL]; exact ⟨_, _, u1, u3, rfl, rfl, h1, h4⟩, by simp only [MutAt]; exact ⟨_, _, _, _, _, _, rfl, rfl, rfl, g1, g2⟩, h5, h6⟩
      · cases e
    · cases e
  | sl t _ =>
    intro cs r us x h hd e
    cases cs with
    | nil => simp [St.dataL, Ty.pack, leafOf] at e
    | cons c cs =>
      simp only [RepL] at h
      obtain ⟨u, us', rfl, h1, h2⟩ := h
      simp only [St.dataL] at e
      cases c with
      | nils =>
        simp only [St.data1, Ty.pack, Option.some.injEq, Prod.mk.injEq] at e
        obtain ⟨rfl, rfl⟩ := e
        simp only [RepAV] at h1
        subst h1
        exact ⟨[_], us', [.nils], cs, [[]], rfl, rfl, rfl, by unfold OwnL OwnRd; exact ⟨[], rfl, .inl ⟨rfl, rfl, rfl⟩⟩, by unfold MutAt; exact .inl ⟨rfl, rfl, rfl⟩, h2, by simpa only [deepOK] using hd⟩
      | row id =>
        simp only [deepOK, Bool.and_eq_true] at hd
        simp only [St.data1] at e
        cases hl : st.loc id with
        | none => rw [hl] at hd; simp at hd
        | some l =>
          rw [hl] at hd e
          cases l with
          | box _ => simp at hd
          | mp _ _ _ => simp at hd
          | opn _ _ _ _ => simp at hd
          | row t' xs dp =>
            simp only [Ty.pack, leafOf] at e
            cases hc : castTy (.sl t') (.sl t) xs with
            | none => rw [hc] at e; simp at e
            | some z =>
              rw [hc] at e
              simp only [Option.some.injEq, Prod.mk.injEq] at e
              obtain ⟨rfl, rfl⟩ := e
              obtain ⟨e', _⟩ := castTy_eq hc
              injection e' with e'
              subst e'
              have := castTy_self hc
              subst this
              have hdp : dp = true := by
                cases dp with
                | true => rfl
                | false => simp at hd
              subst hdp
              obtain ⟨lw, F, hW, hnb, hv⟩ := hr.row_live h1
              subst hv
              rcases hr.locs id _ _ hW hl with ⟨g1, rfl⟩ | ⟨b, off, cap, S', g1, g2, g3, g4, g5, _⟩
              · rw [hW] at g1
                simp only [Option.some.injEq, Prod.mk.injEq] at g1
                obtain ⟨rfl, rfl⟩ := g1
                refine ⟨[_], us', [.row id], cs, [[]], rfl, rfl, rfl, ?_, ?_, h2, hd.2⟩
                · unfold OwnL OwnRd; exact ⟨[], rfl, .inl ⟨rfl, rfl, rfl⟩⟩
                · simp only [MutAt]; exact .inr ⟨id, _, _, rfl, hW, rfl, rfl, .inl rfl⟩
              · rw [hW] at g1
                simp only [Option.some.injEq, Prod.mk.injEq, if_true] at g1
                obtain ⟨rfl, rfl⟩ := g1
                refine ⟨[_], us', [.row id], cs, [b :: S'], rfl, rfl, rfl, ?_, ?_, h2, hd.2⟩
                · unfold OwnL OwnRd; exact ⟨_, rfl, .inr ⟨b, off, cap, S', rfl, rfl, g2, g3, g4, g5⟩⟩
                · simp only [MutAt]; exact .inr ⟨id, _, _, rfl, hW, rfl, rfl, .inr ⟨b, off, _, cap, rfl⟩⟩
      | d t' y =>
        simp only [deepOK, Bool.and_eq_true] at hd
        simp only [St.data1, Ty.pack, leafOf] at e
        cases hc : castTy t' (.sl t) y with
        | none => rw [hc] at e; simp at e
        | some z =>
          obtain ⟨rfl, _⟩ := castTy_eq hc
          simp [Ty.flat] at hd
      | _ => simp [deepOK] at hd
  | bool =>
    intro cs r us x h hd e
    obtain ⟨u, cs', us', cc, rfl, rfl, h1, h2, h3, h4, h5⟩ := leaf .bool h hd (by simpa only [Ty.pack] using e) (fun _ e => by cases e)
    exact ⟨[u], us', [cc], cs', [], rfl, rfl, h1, by simp only [OwnL]; exact ⟨trivial, h2⟩, by simp only [MutAt]; exact ⟨trivial, cc, u, rfl, rfl, h3⟩, h4, h5⟩
  | int k =>
    intro cs r us x h hd e
    obtain ⟨u, cs', us', cc, rfl, rfl, h1, h2, h3, h4, h5⟩ := leaf (.int k) h hd (by simpa only [Ty.pack] using e) (fun _ e => by cases e)
    exact ⟨[u], us', [cc], cs', [], rfl, rfl, h1, by simp only [OwnL]; exact ⟨trivial, h2⟩, by simp only [MutAt]; exact ⟨trivial, cc, u, rfl, rfl, h3⟩, h4, h5⟩
  | str =>
    intro cs r us x h hd e
    obtain ⟨u, cs', us', cc, rfl, rfl, h1, h2, h3, h4, h5⟩ := leaf .str h hd (by simpa only [Ty.pack] using e) (fun _ e => by cases e)
    exact ⟨[u], us', [cc], cs', [], rfl, rfl, h1, by simp only [OwnL]; exact ⟨trivial, h2⟩, by simp only [MutAt]; exact ⟨trivial, cc, u, rfl, rfl, h3⟩, h4, h5⟩
  | err =>
    intro cs r us x h hd e
    obtain ⟨u, cs', us', cc, rfl, rfl, h1, h2, h3, h4, h5⟩ := leaf .err h hd (by simpa only [Ty.pack] using e) (fun _ e => by cases e)
    exact ⟨[u], us', [cc], cs', [], rfl, rfl, h1, by simp only [OwnL]; exact ⟨trivial, h2⟩, by simp only [MutAt]; exact ⟨trivial, cc, u, rfl, rfl, h3⟩, h4, h5⟩
theorem own_packV (hr : Rep st w M A W V) {ag : Bool} {t : Ty} {v : AV} {u : Value} {cs : List AV} {x : t.den} (h1 : RepAV A W w v u) (hc : argCells ag v = some cs) (hd : deepOK st cs = true) (hp : t.packAll (st.dataL cs) = some x) :
    ∃ Ss, OwnLV w ag t x Ss u ∧ MutV W ag t cs Ss u ∧ rowIds v.cells = rowIds cs := by
  have all : ∀ {ws : List Value}, RepL A W w cs ws → ∃ Ss, OwnL w t x Ss ws ∧ MutAt W t cs Ss ws := fun {ws} hL => by
    unfold Ty.packAll at hp
    split at hp
    · rename_i z hz
      simp only [Option.some.injEq] at hp
      subst hp
      obtain ⟨u1, u2, c1, c2, Ss, rfl, rfl, h3, h4, h5, h6, _⟩ := own_packL hr t hL hd hz
      have hc2 : c2 = [] := by cases c2 with | nil => rfl | cons _ _ => simp [St.dataL] at h3
      subst hc2
      simp only [RepL] at h6
      subst h6
      exact ⟨Ss, by simpa using h4, by simpa using h5⟩
    · cases hp
  unfold argCells at hc
  split at hc
  · rename_i cs'
    obtain ⟨hag, hc⟩ := cond_some hc
    simp only [Option.some.injEq] at hc
    subst hc
    simp only [RepAV] at h1
    obtain ⟨ws, rfl, h1⟩ := h1
    obtain ⟨Ss, g1, g2⟩ := all h1
    exact ⟨Ss, by unfold OwnLV; rw [if_pos hag]; exact ⟨ws, rfl, g1⟩, by unfold MutV; rw [if_pos hag]; exact ⟨ws, rfl, g2⟩, rfl⟩
  · rename_i hne
    cases hag : ag with
    | true => rw [hag] at hc; simp at hc
    | false =>
      rw [hag] at hc
      simp only [cond, Option.some.injEq] at hc
      subst hc
      obtain ⟨Ss, g1, g2⟩ := all (ws := [u]) (by simp only [RepL]; exact ⟨u, [], rfl, h1, rfl⟩)
      refine ⟨Ss, by unfold OwnLV; rw [if_neg (by simp)]; exact g1, by unfold MutV; rw [if_neg (by simp)]; exact g2, ?_⟩
      cases v <;> first | rfl | exact absurd rfl (hne _)
theorem packArgs_ok (hr : Rep st w M A W V) : ∀ (ins : List PK) (avs : List AV) (vs : List Value) (x : (insTy ins).den), RepL A W w avs vs → packArgs st ins avs = some x →
    ∃ bs, ArgsRd w (feetC st W A (argIds st ins avs) (argCaps avs)) ins vs x bs ∧ PtrOf W ins avs vs bs
  | [], [], vs, x, h, e => by
    simp only [RepL] at h
    exact ⟨[], ⟨h, rfl⟩, rfl⟩
  | [], _ :: _, vs, x, h, e => by simp [packArgs] at e
  | .val ag t :: r, [], vs, x, h, e => by simp [packArgs] at e
  | .ptr t :: r, [], vs, x, h, e => by simp [packArgs] at e
  | .val ag t :: r, v :: avs, vs, x, h, e => by
    simp only [packArgs] at e
    cases hc : argCells ag v with
    | none => rw [hc] at e; simp at e
    | some cs =>
      rw [hc] at e
      simp only at e
      cases hp : t.packAll (st.dataL cs) with
      | none => rw [hp] at e; simp at e
      | some x1 =>
        rw [hp] at e
        simp only at e
        cases hq : packArgs st r avs with
        | none => rw [hq] at e; simp at e
        | some x2 =>
          rw [hq] at e
          have e : (x1, x2) = x := Option.some.inj e
          subst e
          simp only [RepL] at h
          obtain ⟨u, us, rfl, h1, h2⟩ := h
          obtain ⟨bs, g1, g2⟩ := packArgs_ok hr r avs us x2 h2 hq
          have hsub : ∀ id ∈ argIds st r avs, id ∈ argIds st (.val ag t :: r) (v :: avs) := fun id hid => by simp only [argIds, List.mem_append]; exact .inr (.inr hid)
          have hsubC : ∀ id ∈ argCaps avs, id ∈ argCaps (v :: avs) := argCaps_cons v avs
          have hval : ∃ S, ValRd w ag t x1 S u ∧ ∀ b ∈ S, feet st W A (rowIds cs) b := by
            unfold argCells at hc
            split at hc
            · rename_i cs'
              obtain ⟨hag, hc⟩ := cond_some hc
              simp only [Option.some.injEq] at hc
              subst hc
              simp only [RepAV] at h1
              obtain ⟨ws, rfl, h1⟩ := h1
              obtain ⟨Ss, d1, d2, _⟩ := dataL_rep hr cs' ws h1
              exact ⟨_, by unfold ValRd; rw [if_pos hag]; exact ⟨ws, rfl, packAll_rep d1 hp⟩, d2⟩
            · cases hag : ag with
              | true => rw [hag] at hc; simp at hc
              | false =>
                rw [hag] at hc
                simp only [cond, Option.some.injEq] at hc
                subst hc
                obtain ⟨Ss, d1, d2, _⟩ := dataL_rep hr [v] [u] (by simp only [RepL]; exact ⟨u, [], rfl, h1, rfl⟩)
                exact ⟨_, by unfold ValRd; rw [if_neg (by simp)]; exact packAll_rep d1 hp, d2⟩
          have hcs : rowIds cs = rowIds v.cells := by
            unfold argCells at hc
            split at hc
            · obtain ⟨_, hc⟩ := cond_some hc
              simp only [Option.some.injEq] at hc
              rw [← hc]; rfl
            · rename_i hne
              cases ag with
              | true => simp at hc
              | false =>
                simp only [cond, Option.some.injEq] at hc
                rw [← hc]
                cases v <;> first | rfl | exact absurd rfl (hne _)
          obtain ⟨S, s1, s2⟩ := hval
          exact ⟨bs, ⟨u, us, S, rfl, s1, fun b hb => .inl (feet_mono (fun id hid => by rw [hcs] at hid; simp only [argIds, List.mem_append]; exact .inl hid) (s2 b hb)), ArgsRd.mono (fun b hb => feetC_mono hsub hsubC hb) r g1⟩, g2⟩
  | .ptr t :: r, v :: avs, vs, x, h, e => by
    cases v with
    | ref id n => cases n with
      | succ n => simp [packArgs] at e
      | zero =>
        simp only [packArgs] at e
        cases hl : st.loc id with
        | none => rw [hl] at e; simp at e
        | some l =>
          rw [hl] at e
          cases l with
          | row _ _ _ => simp at e
          | mp _ _ _ => simp at e
          | opn _ _ _ _ => simp at e
          | box cs =>
            simp only at e
            cases hp : t.packAll (st.dataL cs) with
            | none => rw [hp] at e; simp at e
            | some x1 =>
              rw [hp] at e
              simp only at e
              cases hq : packArgs st r avs with
              | none => rw [hq] at e; simp at e
              | some x2 =>
                rw [hq] at e
                have e : (x1, x2) = x := Option.some.inj e
                subst e
                simp only [RepL, RepAV] at h
                obtain ⟨u, us, rfl, ⟨b, F, h1, rfl⟩, h2⟩ := h
                obtain ⟨bs, g1, g2⟩ := packArgs_ok hr r avs us x2 h2 hq
                obtain ⟨b', ws, k1, k2, k3, k4⟩ := hr.locs id _ _ h1 hl
                rw [h1] at k1
                simp only [Option.some.injEq, Prod.mk.injEq, LW.box.injEq] at k1
                obtain ⟨rfl, rfl⟩ := k1
                obtain ⟨Ss, d1, d2, _⟩ := dataL_rep hr cs ws k4
                have hsub : ∀ i ∈ argIds st r avs, i ∈ argIds st (.ptr t :: r) (AV.ref id 0 :: avs) := fun i hid => by simp only [argIds, List.mem_append]; exact .inr (.inr hid)
                have hsubC : ∀ i ∈ argCaps avs, i ∈ argCaps (AV.ref id 0 :: avs) := argCaps_cons _ avs
                refine ⟨[b] :: bs, ⟨b, us, bs, ws, Ss.flatten, rfl, rfl, k2, k3, packAll_rep d1 hp, fun c hc => .inl (feet_mono (fun i hid => ?_) (d2 c hc)), ArgsRd.mono (fun b hb => feetC_mono hsub hsubC hb) r g1⟩, ⟨b, bs, rfl, h1, g2⟩⟩
                simp only [argIds, List.mem_append, boxIds, hl]
                exact .inr (.inl hid)
    | _ => simp [packArgs] at e
  | .mut ag t :: r, [], vs, x, h, e => by simp [packArgs] at e
  | .mut ag t :: r, v :: avs, vs, x, h, e => by
    simp only [packArgs] at e
    cases hc : argCells ag v with
    | none => rw [hc] at e; simp at e
    | some cs =>
      rw [hc] at e
      simp only at e
      cases hm : moveOK st cs with
      | false => rw [hm] at e; simp at e
      | true =>
        rw [hm] at e
        simp only at e
        cases hp : t.packAll (st.dataL cs) with
        | none => rw [hp] at e; simp at e
        | some x1 =>
          rw [hp] at e
          simp only at e
          cases hq : packArgs st r avs with
          | none => rw [hq] at e; simp at e
          | some x2 =>
            rw [hq] at e
            have e : (x1, x2) = x := Option.some.inj e
            subst e
            simp only [RepL] at h
            obtain ⟨u, us, rfl, h1, h2⟩ := h
            obtain ⟨bs, g1, g2⟩ := packArgs_ok hr r avs us x2 h2 hq
            simp only [moveOK, Bool.and_eq_true] at hm
            obtain ⟨Ss, q1, q2, q3⟩ := own_packV hr h1 hc hm.1 hp
            exact ⟨Ss ++ bs, ⟨u, us, Ss, bs, rfl, rfl, q1, ArgsRd.mono (fun b hb => feetC_mono (fun i hi => by simpa only [argIds] using hi) (argCaps_cons v avs) hb) r g1⟩, ⟨u, us, Ss, bs, cs, rfl, rfl, hc, q3, q2, g2⟩⟩
  | .take ag t :: r, [], vs, x, h, e => by simp [packArgs] at e
  | .take ag t :: r, v :: avs, vs, x, h, e => by
    simp only [packArgs] at e
    cases hc : argCells ag v with
    | none => rw [hc] at e; simp at e
    | some cs =>
      rw [hc] at e
      simp only at e
      cases hm : moveOK st cs with
      | false => rw [hm] at e; simp at e
      | true =>
        rw [hm] at e
        simp only at e
        cases hp : t.packAll (st.dataL cs) with
        | none => rw [hp] at e; simp at e
        | some x1 =>
          rw [hp] at e
          simp only at e
          cases hq : packArgs st r avs with
          | none => rw [hq] at e; simp at e
          | some x2 =>
            rw [hq] at e
            have e : (x1, x2) = x := Option.some.inj e
            subst e
            simp only [RepL] at h
            obtain ⟨u, us, rfl, h1, h2⟩ := h
            obtain ⟨bs, g1, g2⟩ := packArgs_ok hr r avs us x2 h2 hq
            simp only [moveOK, Bool.and_eq_true] at hm
            obtain ⟨Ss, q1, q2, q3⟩ := own_packV hr h1 hc hm.1 hp
            exact ⟨Ss ++ bs, ⟨u, us, Ss, bs, rfl, rfl, q1, ArgsRd.mono (fun b hb => feetC_mono (fun i hi => by simpa only [argIds] using hi) (argCaps_cons v avs) hb) r g1⟩, ⟨u, us, Ss, bs, cs, rfl, rfl, hc, q3, q2, g2⟩⟩
  | .fn g ts :: r, [], vs, x, h, e => by simp [packArgs] at e
  | .fn g ts :: r, v :: avs, vs, x, h, e => by
    cases v with
    | fn g' cs =>
      simp only [packArgs] at e
      obtain ⟨hg, e1⟩ := cond_some e
      clear e
      have hg := Nat.eq_of_beq_eq_true hg
      subst hg
      cases hp : packCaps st ts cs with
      | none => rw [hp] at e1; simp at e1
      | some x1 =>
        rw [hp] at e1
        simp only at e1
        cases hq : packArgs st r avs with
        | none => rw [hq] at e1; simp at e1
        | some x2 =>
          rw [hq] at e1
          have e1 : (x1, x2) = x := Option.some.inj e1
          subst e1
          simp only [RepL, RepAV] at h
          obtain ⟨u, us, rfl, ⟨ws, rfl, h1⟩, h2⟩ := h
          obtain ⟨bs, g1, g2⟩ := packArgs_ok hr r avs us x2 h2 hq
          have hsub : ∀ i ∈ argIds st r avs, i ∈ argIds st (.fn g ts :: r) (AV.fn g cs :: avs) := fun i hid => by simp only [argIds, List.mem_append]; exact .inr (.inr hid)
          have hsubC : ∀ i ∈ argCaps avs, i ∈ argCaps (AV.fn g cs :: avs) := argCaps_cons _ avs
          refine ⟨bs, ⟨ws, us, rfl, CapsRd.mono (fun b hb => feetC_mono (fun i hi => ?_) (fun i hi => ?_) hb) ts (packCaps_ok hr ts cs ws x1 h1 hp), ArgsRd.mono (fun b hb => feetC_mono hsub hsubC hb) r g1⟩, g2⟩
          · simp only [argIds, List.mem_append, boxIds]; exact .inr (.inl hi)
          · simp only [argCaps, List.mem_append]; exact .inl hi
    | _ => simp [packArgs] at e

end
end Go.Proofs.Fw
