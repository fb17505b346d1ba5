/- Stores. -/
import Derived.Test.YtjblmapbompclaaGreatFwR
set_option linter.all false
namespace Go.Proofs.Fw
open Go

section
variable [GInv] {R : Type} {P : Program} {c : Cfg} {X : Ctx} {st : St} {a : Act} {w : World} {A : Nat → Prop} {W : Wit} {V : Nat → Value} {o : Oper} {k : St → Option R} {r : R} {Q : Exit → Act → World → Prop}
theorem DL.append : ∀ {cs ds : List AV} {vs us : List Value} {Ss Ts : List (List Nat)}, DL w cs vs Ss → DL w ds us Ts → DL w (cs ++ ds) (vs ++ us) (Ss ++ Ts)
  | [], _, _, _, _, _, ⟨rfl, rfl⟩, h => h
  | _ :: _, _, _, _, _, _, ⟨v, r, S, Sr, rfl, rfl, h1, h2⟩, h => ⟨v, r ++ _, S, Sr ++ _, rfl, rfl, h1, DL.append h2 h⟩
theorem unpack_DL : ∀ (t : Ty) {x : t.den} {S : List Nat} {cs : List Value}, Rd w t x S cs → ∃ Ss, DL w (t.unpack x) cs Ss ∧ Ss.flatten = S
  | .unit, _, _, _, h => by simp only [Rd] at h; exact ⟨[], by simp [Ty.unpack, DL, h.2], by simp [h.1]⟩
  | .bool, x, S, cs, h => by
    have := h.length; simp only [Ty.size] at this
    obtain ⟨v, rfl⟩ := List.length_eq_one_iff.1 this
    exact ⟨[S], ⟨v, [], S, [], rfl, rfl, h, rfl, rfl⟩, by simp⟩
  | .int _, x, S, cs, h => by
    have := h.length; simp only [Ty.size] at this
    obtain ⟨v, rfl⟩ := List.length_eq_one_iff.1 this
    exact ⟨[S], ⟨v, [], S, [], rfl, rfl, h, rfl, rfl⟩, by simp⟩
  | .str, x, S, cs, h => by
    have := h.length; simp only [Ty.size] at this
    obtain ⟨v, rfl⟩ := List.length_eq_one_iff.1 this
    exact ⟨[S], ⟨v, [], S, [], rfl, rfl, h, rfl, rfl⟩, by simp⟩
  | .err, x, S, cs, h => by
    have := h.length; simp only [Ty.size] at this
    obtain ⟨v, rfl⟩ := List.length_eq_one_iff.1 this
    exact ⟨[S], ⟨v, [], S, [], rfl, rfl, h, rfl, rfl⟩, by simp⟩
  | .sl _, x, S, cs, h => by
    have := h.length; simp only [Ty.size] at this
    obtain ⟨v, rfl⟩ := List.length_eq_one_iff.1 this
    exact ⟨[S], ⟨v, [], S, [], rfl, rfl, h, rfl, rfl⟩, by simp⟩
  | .pair a b, x, S, cs, h => by
    simp only [Rd] at h
    obtain ⟨S1, S2, c1, c2, rfl, rfl, h1, h2⟩ := h
    obtain ⟨T1, g1, e1⟩ := unpack_DL a h1
    obtain ⟨T2, g2, e2⟩ := unpack_DL b h2
    exact ⟨T1 ++ T2, g1.append g2, by simp [e1, e2]⟩
def setSs : Nat → List (List Nat) → List (List Nat) → List (List Nat)
  | 0, [], l => l
  | 0, v :: vs, _ :: l => v :: setSs 0 vs l
  | n + 1, vs, c :: l => c :: setSs n vs l
  | _, _, [] => []
theorem setN_DL : ∀ (n : Nat) {ns cs : List AV} {us vs : List Value} {Sn Sc : List (List Nat)}, DL w ns us Sn → DL w cs vs Sc → DL w (setN n ns cs) (setVs n us vs) (setSs n Sn Sc)
  | 0, [], cs, _, vs, _, Sc, ⟨rfl, rfl⟩, h => by simpa [setN, setVs, setSs] using h
  | 0, _ :: _, [], _, _, _, _, ⟨_, _, _, _, rfl, rfl, _, _⟩, ⟨rfl, rfl⟩ => by simp [setN, setVs, setSs, DL]
  | 0, _ :: _, _ :: _, _, _, _, _, ⟨v, r, S, Sr, rfl, rfl, h1, h2⟩, ⟨v', r', S', Sr', rfl, rfl, _, h2'⟩ => by
    simp only [setN, setVs, setSs]
    exact ⟨_, _, _, _, rfl, rfl, h1, setN_DL 0 h2 h2'⟩
  | n + 1, ns, [], us, _, Sn, _, _, ⟨rfl, rfl⟩ => by simp [setN, setVs, setSs, DL]
  | n + 1, ns, _ :: _, us, _, Sn, _, h, ⟨v', r', S', Sr', rfl, rfl, h1', h2'⟩ => by
    simp only [setN, setVs, setSs]
    exact ⟨_, _, _, _, rfl, rfl, h1', setN_DL n h h2'⟩
theorem setSs_mem : ∀ (n : Nat) (Sn Sc : List (List Nat)) (x : Nat), x ∈ (setSs n Sn Sc).flatten → x ∈ Sn.flatten ∨ x ∈ Sc.flatten
  | 0, [], l, x, h => by simp only [setSs] at h; exact .inr h
  | 0, v :: vs, [], x, h => by simp [setSs] at h
  | 0, v :: vs, c :: l, x, h => by
    simp only [setSs, List.flatten_cons, List.mem_append] at h ⊢
    rcases h with h | h
    · exact .inl (.inl h)
    · exact (setSs_mem 0 vs l x h).imp .inr .inr
  | n + 1, vs, [], x, h => by simp [setSs] at h
  | n + 1, vs, c :: l, x, h => by
    simp only [setSs, List.flatten_cons, List.mem_append] at h ⊢
    rcases h with h | h
    · exact .inr (.inl h)
    · exact (setSs_mem n vs l x h).imp id .inr
theorem setSs_nodup : ∀ (n : Nat) (Sn Sc : List (List Nat)), Sn.flatten.Nodup → Sc.flatten.Nodup → (∀ x ∈ Sn.flatten, x ∉ Sc.flatten) → (setSs n Sn Sc).flatten.Nodup
  | 0, [], l, _, h, _ => by simpa only [setSs] using h
  | 0, v :: vs, [], _, _, _ => by simp [setSs]
  | 0, v :: vs, c :: l, h1, h2, h3 => by
    simp only [setSs, List.flatten_cons] at h1 h2 h3 ⊢
    rw [List.nodup_append] at h1 h2 ⊢
    refine ⟨h1.1, setSs_nodup 0 vs l h1.2.1 h2.2.1 (fun x hx hx' => h3 x (by simp [hx]) (by simp [hx'])), fun x hx y hy e => ?_⟩
    subst e
    rcases setSs_mem 0 vs l x hy with h | h
    · exact h1.2.2 x hx x h rfl
    · exact h3 x (by simp [hx]) (by simp [h])
  | n + 1, vs, [], _, _, _ => by simp [setSs]
  | n + 1, vs, c :: l, h1, h2, h3 => by
    simp only [setSs, List.flatten_cons] at h1 h2 h3 ⊢
    rw [List.nodup_append] at h2 ⊢
    refine ⟨h2.1, setSs_nodup n vs l h1 h2.2.1 (fun x hx hx' => h3 x hx (by simp [hx'])), fun x hx y hy e => ?_⟩
    subst e
    rcases setSs_mem n vs l x hy with h | h
    · exact h3 x h (by simp [hx])
    · exact h2.2.2 x hx x h rfl
def O1 (w : World) : AV → Value → List Nat → Prop
  | .d t x, v, S => OwnRd w t x S [v]
  | .nils, v, S => v = .slice none 0 0 ∧ S = []
  | _, _, S => S = []
def OL (w : World) : List AV → List Value → List (List Nat) → Prop
  | [], vs, Ss => vs = [] ∧ Ss = []
  | c :: cs, vs, Ss => ∃ v r S Sr, vs = v :: r ∧ Ss = S :: Sr ∧ O1 w c v S ∧ OL w cs r Sr
theorem oleafOf_rep {t : Ty} {ds r : List AV} {vs : List Value} {Ss : List (List Nat)} {x : t.den} (h : OL w ds vs Ss) (hp : leafOf t ds = some (x, r)) :
    ∃ v v2 S S2, vs = v :: v2 ∧ Ss = S :: S2 ∧ OwnRd w t x S [v] ∧ OL w r v2 S2 := by
  cases ds with
  | nil => simp [leafOf] at hp
  | cons c cs =>
    obtain ⟨v, r', S, Sr, e1, e2, h1, h2⟩ := h
    cases c with
    | d t' y =>
      simp only [leafOf] at hp
      cases hc : castTy t' t y with
      | none => rw [hc] at hp; simp at hp
      | some z =>
        rw [hc] at hp
        simp at hp
        obtain ⟨rfl, rfl⟩ := hp
        obtain ⟨rfl, _⟩ := castTy_eq hc
        have := castTy_self hc
        subst this
        exact ⟨v, r', S, Sr, e1, e2, h1, h2⟩
    | _ => simp [leafOf] at hp
theorem opack_rep : ∀ (t : Ty) {ds r : List AV} {vs : List Value} {Ss : List (List Nat)} {x : t.den}, OL w ds vs Ss → t.pack ds = some (x, r) →
    ∃ v1 v2 S1 S2, vs = v1 ++ v2 ∧ Ss = S1 ++ S2 ∧ OwnRd w t x S1.flatten v1 ∧ OL w r v2 S2
  | .unit, ds, r, vs, Ss, x, h, hp => by
    simp only [Ty.pack, Option.some.injEq, Prod.mk.injEq] at hp
    obtain ⟨_, rfl⟩ := hp
    exact ⟨[], vs, [], Ss, rfl, rfl, by simp [OwnRd], h⟩
  | .bool, ds, r, vs, Ss, x, h, hp => by
    obtain ⟨v, v2, S, S2, e1, e2, h1, h2⟩ := oleafOf_rep h (by simpa only [Ty.pack] using hp)
    exact ⟨[v], v2, [S], S2, e1, e2, by simpa using h1, h2⟩
  | .int k, ds, r, vs, Ss, x, h, hp => by
    obtain ⟨v, v2, S, S2, e1, e2, h1, h2⟩ := oleafOf_rep h (by simpa only [Ty.pack] using hp)
    exact ⟨[v], v2, [S], S2, e1, e2, by simpa using h1, h2⟩
  | .str, ds, r, vs, Ss, x, h, hp => by
    obtain ⟨v, v2, S, S2, e1, e2, h1, h2⟩ := oleafOf_rep h (by simpa only [Ty.pack] using hp)
    exact ⟨[v], v2, [S], S2, e1, e2, by simpa using h1, h2⟩
  | .err, ds, r, vs, Ss, x, h, hp => by
    obtain ⟨v, v2, S, S2, e1, e2, h1, h2⟩ := oleafOf_rep h (by simpa only [Ty.pack] using hp)
    exact ⟨[v], v2, [S], S2, e1, e2, by simpa using h1, h2⟩
  | .sl t, ds, r, vs, Ss, x, h, hp => by
    have leaf : ∀ ds r, OL w ds vs Ss → leafOf (.sl t) ds = some (x, r) → ∃ v1 v2 S1 S2, vs = v1 ++ v2 ∧ Ss = S1 ++ S2 ∧ OwnRd w (.sl t) x S1.flatten v1 ∧ OL w r v2 S2 := fun ds r h hp => by
      obtain ⟨v, v2, S, S2, e1, e2, h1, h2⟩ := oleafOf_rep h hp
      exact ⟨[v], v2, [S], S2, e1, e2, by simpa using h1, h2⟩
    cases ds with
    | nil => simp [Ty.pack, leafOf] at hp
    | cons c cs =>
      cases c with
      | nils =>
        simp only [Ty.pack, Option.some.injEq, Prod.mk.injEq] at hp
        obtain ⟨rfl, rfl⟩ := hp
        obtain ⟨v, r', S, Sr, e1, e2, ⟨h1, h1'⟩, h2⟩ := h
        exact ⟨[v], r', [S], Sr, e1, e2, by simp [OwnRd, h1, h1'], h2⟩
      | _ => exact leaf _ _ h (by simpa only [Ty.pack] using hp)
  | .pair a b, ds, r, vs, Ss, x, h, hp => by
    simp only [Ty.pack] at hp
    cases ha : a.pack ds with
    | none => rw [ha] at hp; simp at hp
    | some xa =>
      obtain ⟨xa, ra⟩ := xa
      rw [ha] at hp
      simp only at hp
      cases hb : b.pack ra with
      | none => rw [hb] at hp; simp at hp
      | some xb =>
        obtain ⟨xb, rb⟩ := xb
        rw [hb] at hp
        simp only [Option.some.injEq, Prod.mk.injEq] at hp
        obtain ⟨rfl, rfl⟩ := hp
        obtain ⟨v1, v2, S1, S2, e1, e2, h1, h2⟩ := opack_rep a h ha
        obtain ⟨u1, u2, T1, T2, f1, f2, g1, g2⟩ := opack_rep b h2 hb
        refine ⟨v1 ++ u1, u2, S1 ++ T1, T2, by rw [e1, f1, List.append_assoc], by rw [e2, f2, List.append_assoc], ?_, g2⟩
        simp only [OwnRd]
        exact ⟨S1.flatten, T1.flatten, v1, u1, by simp, rfl, h1, g1⟩
theorem opackAll_rep {t : Ty} {ds : List AV} {vs : List Value} {Ss : List (List Nat)} {x : t.den} (h : OL w ds vs Ss) (hp : t.packAll ds = some x) : OwnRd w t x Ss.flatten vs := by
  unfold Ty.packAll at hp
  split at hp
  · rename_i y e
    simp at hp
    subst hp
    obtain ⟨v1, v2, S1, S2, e1, e2, h1, h2⟩ := opack_rep t h e
    simp only [OL] at h2
    obtain ⟨rfl, rfl⟩ := h2
    rw [e1, e2]; simpa using h1
  · cases hp
theorem OL.append : ∀ {cs ds : List AV} {vs us : List Value} {Ss Ts : List (List Nat)}, OL w cs vs Ss → OL w ds us Ts → OL w (cs ++ ds) (vs ++ us) (Ss ++ Ts)
  | [], _, _, _, _, _, ⟨rfl, rfl⟩, h => h
  | _ :: _, _, _, _, _, _, ⟨v, r, S, Sr, rfl, rfl, h1, h2⟩, h => ⟨v, r ++ _, S, Sr ++ _, rfl, rfl, h1, OL.append h2 h⟩
theorem unpack_OL : ∀ (t : Ty) {x : t.den} {S : List Nat} {cs : List Value}, OwnRd w t x S cs → ∃ Ss, OL w (t.unpack x) cs Ss ∧ Ss.flatten = S
  | .unit, _, _, _, h => by simp only [OwnRd] at h; exact ⟨[], by simp [Ty.unpack, OL, h.2], by simp [h.1]⟩
  | .bool, x, S, cs, h => by
    have := (OwnRd.rd _ h).length; simp only [Ty.size] at this
    obtain ⟨v, rfl⟩ := List.length_eq_one_iff.1 this
    exact ⟨[S], ⟨v, [], S, [], rfl, rfl, h, rfl, rfl⟩, by simp⟩
  | .int _, x, S, cs, h => by
    have := (OwnRd.rd _ h).length; simp only [Ty.size] at this
    obtain ⟨v, rfl⟩ := List.length_eq_one_iff.1 this
    exact ⟨[S], ⟨v, [], S, [], rfl, rfl, h, rfl, rfl⟩, by simp⟩
  | .str, x, S, cs, h => by
    have := (OwnRd.rd _ h).length; simp only [Ty.size] at this
    obtain ⟨v, rfl⟩ := List.length_eq_one_iff.1 this
    exact ⟨[S], ⟨v, [], S, [], rfl, rfl, h, rfl, rfl⟩, by simp⟩
  | .err, x, S, cs, h => by
    have := (OwnRd.rd _ h).length; simp only [Ty.size] at this
    obtain ⟨v, rfl⟩ := List.length_eq_one_iff.1 this
    exact ⟨[S], ⟨v, [], S, [], rfl, rfl, h, rfl, rfl⟩, by simp⟩
  | .sl _, x, S, cs, h => by
    have := (OwnRd.rd _ h).length; simp only [Ty.size] at this
    obtain ⟨v, rfl⟩ := List.length_eq_one_iff.1 this
    exact ⟨[S], ⟨v, [], S, [], rfl, rfl, h, rfl, rfl⟩, by simp⟩
  | .pair a b, x, S, cs, h => by
    simp only [OwnRd] at h
    obtain ⟨S1, S2, c1, c2, rfl, rfl, h1, h2⟩ := h
    obtain ⟨T1, g1, e1⟩ := unpack_OL a h1
    obtain ⟨T2, g2, e2⟩ := unpack_OL b h2
    exact ⟨T1 ++ T2, g1.append g2, by simp [e1, e2]⟩
theorem setN_OL : ∀ (n : Nat) {ns cs : List AV} {us vs : List Value} {Sn Sc : List (List Nat)}, OL w ns us Sn → OL w cs vs Sc → OL w (setN n ns cs) (setVs n us vs) (setSs n Sn Sc)
  | 0, [], cs, _, vs, _, Sc, ⟨rfl, rfl⟩, h => by simpa [setN, setVs, setSs] using h
  | 0, _ :: _, [], _, _, _, _, ⟨_, _, _, _, rfl, rfl, _, _⟩, ⟨rfl, rfl⟩ => by simp [setN, setVs, setSs, OL]
  | 0, _ :: _, _ :: _, _, _, _, _, ⟨v, r, S, Sr, rfl, rfl, h1, h2⟩, ⟨v', r', S', Sr', rfl, rfl, _, h2'⟩ => by
    simp only [setN, setVs, setSs]
    exact ⟨_, _, _, _, rfl, rfl, h1, setN_OL 0 h2 h2'⟩
  | n + 1, ns, [], us, _, Sn, _, _, ⟨rfl, rfl⟩ => by simp [setN, setVs, setSs, OL]
  | n + 1, ns, _ :: _, us, _, Sn, _, h, ⟨v', r', S', Sr', rfl, rfl, h1', h2'⟩ => by
    simp only [setN, setVs, setSs]
    exact ⟨_, _, _, _, rfl, rfl, h1', setN_OL n h h2'⟩
theorem odataL_rep {M : Nat → Prop} (hr : Rep st w M A W V) : ∀ {cs : List AV} {us : List Value}, RepL A W w cs us → deepOK st cs = true → ∃ Ss, OL w (st.dataL cs) us Ss ∧ Ss.flatten = (rowIds cs).flatMap (foot W)
  | [], us, h, _ => by
    simp only [RepL] at h
    subst h
    exact ⟨[], ⟨rfl, rfl⟩, by simp [rowIds]⟩
  | c :: cs, us, h, hd => by
    simp only [RepL] at h
    obtain ⟨u, us', rfl, h1, h2⟩ := h
    cases c with
    | nils =>
      obtain ⟨Ss, g1, g2⟩ := odataL_rep hr h2 (by simpa only [deepOK] using hd)
      simp only [RepAV] at h1
      exact ⟨[] :: Ss, ⟨u, us', [], Ss, rfl, rfl, ⟨h1, rfl⟩, g1⟩, by simpa [rowIds] using g2⟩
    | d t y =>
      simp only [deepOK, Bool.and_eq_true] at hd
      obtain ⟨Ss, g1, g2⟩ := odataL_rep hr h2 hd.2
      obtain ⟨S, _, hrd⟩ := h1.dval
      have hS := hrd.flat _ hd.1
      subst hS
      exact ⟨[] :: Ss, ⟨u, us', [], Ss, rfl, rfl, hrd.own t hd.1, g1⟩, by simpa [rowIds] using g2⟩
    | row id =>
      simp only [deepOK, Bool.and_eq_true] at hd
      obtain ⟨Ss, g1, g2⟩ := odataL_rep hr h2 hd.2
      cases hl : st.loc id with
      | none => rw [hl] at hd; simp at hd
      | some l =>
        rw [hl] at hd
        cases l with
        | box _ => simp at hd
        | mp _ _ _ => simp at hd
        | opn _ _ _ _ => simp at hd
        | row t xs dp =>
          have hdp : dp = true := by
            cases dp with
            | true => rfl
            | false => simp at hd
          subst hdp
          obtain ⟨lw, F, hW, hnb, hv⟩ := hr.row_live h1
          refine ⟨F :: Ss, ⟨u, us', F, Ss, rfl, rfl, ?_, g1⟩, by simp [rowIds, foot, hW, g2]⟩
          subst hv
          simp only [St.data1, hl, O1, OwnRd]
          rcases hr.locs id _ _ hW hl with ⟨q1, rfl⟩ | ⟨b, off, cap, S', q1, q2, q3, q4, q5, _⟩
          · rw [hW] at q1
            simp only [Option.some.injEq, Prod.mk.injEq] at q1
            obtain ⟨rfl, rfl⟩ := q1
            exact .inl ⟨rfl, rfl, rfl⟩
          · rw [hW] at q1
            simp only [Option.some.injEq, Prod.mk.injEq, if_true] at q1
            obtain ⟨rfl, rfl⟩ := q1
            exact .inr ⟨b, off, cap, S', rfl, rfl, q2, q3, q4, q5⟩
    | _ => simp [deepOK] at hd
theorem RdRow.put {t : Ty} {d : Bool} {b : Nat} : ∀ {xs : List t.den} {off : Nat} {S : List Nat}, RdRow (ERd d w t) w b t.size off xs S → ∀ (i : Nat) (hi : i < xs.length),
    ∃ Sa Si Sb cs, S = Sa ++ (Si ++ Sb) ∧ cs.length = t.size ∧ Seg w b (off + i * t.size) cs ∧ ERd d w t xs[i] Si cs ∧
      ∀ (w' : World) (y : t.den) (Si' : List Nat) (cs' : List Value), (∀ c ∈ Sa ++ Sb, w'.heap[c]? = w.heap[c]?) → (∀ j, (j < off + i * t.size ∨ off + i * t.size + t.size ≤ j) → w'.cell? ⟨b, j, none⟩ = w.cell? ⟨b, j, none⟩) →
        cs'.length = t.size → Seg w' b (off + i * t.size) cs' → ERd d w' t y Si' cs' → RdRow (ERd d w' t) w' b t.size off (xs.set i y) (Sa ++ (Si' ++ Sb))
  | x :: xs, off, S, ⟨S1, S2, cs, e, hl, hs, hx, hr⟩, 0, _ => by
    refine ⟨[], S1, S2, cs, by simpa using e, hl, by simpa using hs, hx, fun w' y Si' cs' hh hcell hl' hs' hy => ?_⟩
    refine ⟨Si', S2, cs', by simp, hl', by simpa using hs', hy, ?_⟩
    obtain ⟨ds, d1, d2⟩ := hr.cells
    refine RdRow.move ds d1 d2 (fun j hj => ?_) (fun x S'' ds hsub hx => ERd.mono t (fun c hc => hh c (by simp [hsub c hc])) hx) hr
    rw [hcell (off + t.size + j) (.inr (by omega))]
    exact d2 j hj
  | x :: xs, off, S, ⟨S1, S2, cs, e, hl, hs, hx, hr⟩, i + 1, hi => by
    obtain ⟨Sa, Si, Sb, ds, e1, h1, h2, h3, h4⟩ := RdRow.put hr i (by simpa using hi)
    have hoff : off + t.size + i * t.size = off + (i + 1) * t.size := by rw [Nat.add_mul]; omega
    rw [hoff] at h2 h4
    refine ⟨S1 ++ Sa, Si, Sb, ds, by rw [e, e1, List.append_assoc], h1, h2, by simpa using h3, fun w' y Si' cs' hh hcell hl' hs' hy => ?_⟩
    refine ⟨S1, Sa ++ (Si' ++ Sb), cs, by simp [List.append_assoc], hl, fun j hj => ?_, ERd.mono t (fun c hc => hh c (by simp [hc])) hx, h4 w' y Si' cs' (fun c hc => hh c (by simp only [List.mem_append] at hc ⊢; rcases hc with h | h; exact .inl (.inr h); exact .inr h)) hcell hl' hs' hy⟩
    rw [hcell (off + j) (.inl (by rw [Nat.add_mul]; omega))]
    exact hs j hj
theorem Inv.set (hi : Inv X st a w A W V) {id b off : Nat} {l : Loc} {lw : LW} {F F' : List Nat} {vs : List Value} (hW : W id = some (lw, F)) (hbF : b ∈ F) (hF : F'.Nodup) (hown : ∀ c ∈ F', c < w.heap.size ∧ X.M c ∧ ¬ A c)
    (hap : ∀ j lwj Fj, j ≠ id → W j = some (lwj, Fj) → ∀ c ∈ F', c ∉ Fj) (hbx : ∀ c, lw = .box c → F' = F ∧ st.kb.has id = false)
    (hl : ∀ W' : Wit, W' id = some (lw, F') → (∀ j, j ≠ id → W' j = W j) → LocRep A W' (w.setCells b off vs) id l) :
    ∃ W', Inv X (st.ev (.loc id l)) a (w.setCells b off vs) A W' V := by
  obtain ⟨hb1, hb2, hb3⟩ := hi.rep.own id lw F hW b hbF
  have hsz := setCells_size b vs off w
  have h1 := hi.rep.set (w' := w.setCells b off vs) (l := l) (F' := F') hW (by omega) (fun c _ hc => setCells_other b vs off w c (fun e => hc (by rw [e]; exact hbF))) hF (fun c hc => by obtain ⟨q1, q2⟩ := hown c hc; exact ⟨by omega, q2⟩) hap
    (hl _ (updW_same _ _ _) (fun j hj => updW_other hj))
  refine ⟨_, hi.turn h1 (Nat.le_refl _) (setCells_kept b hb2 _ _ _) (fun _ h => h) (fun _ h => .inl h) (fun j b' F'' e => ?_) (hs := fun c hc => setCells_other b vs off w c (fun e => ?_))⟩
  · by_cases e' : j = id
    · subst e'
      rw [hW] at e
      simp only [Option.some.injEq, Prod.mk.injEq] at e
      obtain ⟨rfl, rfl⟩ := e
      rw [updW_same, (hbx b' rfl).1]
    · rw [updW_other e']; exact e
  · subst e
    rcases hc with hc | ⟨j, hj, e⟩
    · exact hb3 hc
    · by_cases e' : j = id
      · subst e'
        rw [hW] at e
        simp only [Option.some.injEq, Prod.mk.injEq] at e
        have := (hbx c e.1).2
        rw [hj] at this
        cases this
      · exact hi.rep.apart id j _ _ _ _ (Ne.symm e') hW e c hbF (by simp)
theorem run_storeAt {T : Nat} {ag : Bool} {t : Ty} (fa : TyFacts P T ag t) {b off : Nat} {v : Value} (hl : v.cells.size = t.size) (hc : ∀ j, j < t.size → (w.cell? ⟨b, off + j, none⟩).isSome = true) (hf : ∀ j, j < t.size → w.frozen? ⟨b, off + j, none⟩ = false)
    (h1 : ∀ u ∈ v.cells.toList, u.oneCell' = true) : (Instr.storeAt T (.pointer (some ⟨b, off, none⟩)) v).run P w = .ok () (w.setCells b off v.cells.toList) := by
  have h2 : v.cells.toList.length = t.size := by simpa using hl
  have := run_storeCells_cells (P := P) b off v.cells.toList 0 w (fun j hj => by rw [Nat.add_zero]; exact hc j (by omega)) (fun j hj => by rw [Nat.add_zero]; exact hf j (by omega)) h1
  simp only [Nat.add_zero] at this
  simp [Instr.storeAt, Instr.sureAddr, storeVar, fa.size, hl, this]
theorem setVs_seg {b off : Nat} {us vs : List Value} (hs : Seg w b off vs) (n : Nat) (hn : n + us.length ≤ vs.length) : Seg (w.setCells b (off + n) us) b off (setVs n us vs) := fun i hi => by
  have hl := setVs_length n us vs
  have hg := setVs_get n us vs i hn
  rw [List.getElem?_eq_getElem hi] at hg
  have hcs : ∀ j, j < us.length → (w.cell? ⟨b, off + n + j, none⟩).isSome = true := fun j hj => by rw [Nat.add_assoc, hs (n + j) (by omega)]; rfl
  by_cases h : n ≤ i ∧ i < n + us.length
  · rw [if_pos h] at hg
    have := World.cell?_setCells_in b us (off + n) w hcs (i - n) (by omega)
    rw [show off + n + (i - n) = off + i by omega] at this
    rw [this, ← List.getElem?_eq_getElem, ← hg]
  · rw [if_neg h] at hg
    rw [World.cell?_setCells_out b us (off + n) w _ (fun _ _ => by simp only; omega), hg, hs i (by omega), List.getElem?_eq_getElem]
theorem seg_some {b off : Nat} {vs : List Value} (h : Seg w b off vs) {i : Nat} (hi : i < vs.length) : (w.cell? ⟨b, off + i, none⟩).isSome = true :=
  Option.isSome_iff_exists.2 ⟨_, h i hi⟩
theorem store_core (hi : Inv X st a w A W V) {id b ob cap i off : Nat} {t : Ty} {xs : List t.den} {dp dn : Bool} {F : List Nat} (hW : W id = some (.row b ob t.size xs.length cap, F)) (hloc : st.loc id = some (.row t xs dp)) (hlt : i < xs.length)
    {us : List Value} {Sn : List (List Nat)} {y : t.den} (hnw : ∀ cs Si, ERd dn w t xs[i] Si cs → ∃ Sc, Sc.flatten = Si ∧ ERd dn w t y (setSs off Sn Sc).flatten (setVs off us cs)) (hle : off + us.length ≤ t.size) (hdn : dn = dp ∨ t.flat = true)
    (hbn : b ∉ Sn.flatten) (hfr : dn = true → t.flat = true ∨ Free X w A W Sn.flatten) (hsh : dn = false → ∀ c ∈ Sn.flatten, A c) :
    ∃ W', Inv X (st.ev (.loc id (.row t (xs.set i y) dn))) a (w.setCells b (ob + i * t.size + off) us) A W' V := by
  rcases hi.rep.locs id _ _ hW hloc with ⟨g1, _⟩ | ⟨b', ob', cap', S', g1, g2, g3, g4, g5, g6⟩
  · rw [hW] at g1; simp at g1
  · rw [hW] at g1
    simp only [Option.some.injEq, Prod.mk.injEq, LW.row.injEq] at g1
    obtain ⟨⟨rfl, rfl, _, _, rfl⟩, rfl⟩ := g1
    have g5' : RdRow (ERd dn w t) w b t.size ob xs S' := g5.imp fun _ _ _ h => h.weak t (fun e => hdn.imp (fun h => by rw [← h]; exact e) (fun h => h))
    obtain ⟨Sa, Si, Sb, cs, eS, hcl, hcseg, hcrd, hput⟩ := g5'.put i hlt
    obtain ⟨Sc, u2, hrd⟩ := hnw cs Si hcrd
    have hin : i * t.size + t.size ≤ xs.length * t.size := by
      have := Nat.mul_le_mul_right t.size (show i + 1 ≤ xs.length from hlt)
      rwa [Nat.add_mul, Nat.one_mul] at this
    have hcapm : xs.length * t.size ≤ cap * t.size := Nat.mul_le_mul_right _ g2
    have own := hi.rep.own id _ _ hW
    obtain ⟨hb1, hb2, hb3⟩ := own b (by simp)
    have ndF := hi.rep.nodup id _ _ hW
    have hbS : b ∉ S' := fun h => by
      cases dp with
      | true => simp at ndF; exact ndF.1 h
      | false => exact hb3 (g6 rfl b h)
    have hsub : ∀ x ∈ (setSs off Sn Sc).flatten, x ∈ Sn.flatten ∨ x ∈ Si := fun x hx => by rw [← u2]; exact setSs_mem off Sn Sc x hx
    have hSub' : ∀ c ∈ Sa ++ ((setSs off Sn Sc).flatten ++ Sb), c ∈ Sn.flatten ∨ c ∈ S' := fun c hc => by
      rw [eS]
      simp only [List.mem_append] at hc ⊢
      rcases hc with h | h | h
      · exact .inr (.inl h)
      · exact (hsub c h).imp (fun h => h) (fun h => .inr (.inl h))
      · exact .inr (.inr (.inr h))
    -- what lies in the row afterwards
    have hnew : RdRow (ERd dn (w.setCells b (ob + i * t.size + off) us) t) (w.setCells b (ob + i * t.size + off) us) b t.size ob (xs.set i y) (Sa ++ ((setSs off Sn Sc).flatten ++ Sb)) := by
      have hoth : ∀ c, c ≠ b → (w.setCells b (ob + i * t.size + off) us).heap[c]? = w.heap[c]? := fun c hc => setCells_other b _ _ w c hc
      refine hput _ y _ (setVs off us cs) (fun c hc => hoth c (fun e => ?_)) (fun j hj => ?_) (by rw [setVs_length]; exact hcl) (setVs_seg hcseg off (by omega)) (ERd.mono t (fun c hc => hoth c (fun e => ?_)) hrd)
      · subst e; exact hbS (by rw [eS]; simp only [List.mem_append] at hc ⊢; rcases hc with h | h; exact .inl h; exact .inr (.inr h))
      · exact World.cell?_setCells_out b _ _ w _ (fun _ _ => by simp only; omega)
      · subst e
        rcases hsub c hc with h | h
        · exact hbn h
        · exact hbS (by rw [eS]; simp [h])
    have hz : t.flat = true → Sa ++ ((setSs off Sn Sc).flatten ++ Sb) = [] := fun hf => by
      have e1 := Rd.flat t hf hrd.rd
      rw [g5.flat hf] at eS
      have := eS.symm
      simp only [List.append_eq_nil_iff] at this
      rw [e1, this.1, this.2.2]; rfl
    -- the deep case
    have hdeep : dn = true → (Sa ++ ((setSs off Sn Sc).flatten ++ Sb)).Nodup ∧ ∀ c ∈ Sa ++ ((setSs off Sn Sc).flatten ++ Sb), (c < w.heap.size ∧ X.M c ∧ ¬ A c) ∧ ∀ j lwj Fj, j ≠ id → W j = some (lwj, Fj) → c ∉ Fj := fun e => by
      by_cases hf : t.flat = true
      · rw [hz hf]; simp
      · have hdp : dp = true := by rw [← (hdn.resolve_right hf)]; exact e
        subst hdp
        have f1 := (hfr e).resolve_left hf
        simp only [if_true, List.nodup_cons] at ndF
        have ndS := ndF.2
        rw [eS, List.nodup_append, List.nodup_append] at ndS
        have hdisj : ∀ c ∈ Sn.flatten, c ∉ S' := fun c hc h => f1.apart id _ _ hW c hc (by simp [h])
        refine ⟨?_, fun c hc => ?_⟩
        · rw [List.nodup_append, List.nodup_append]
          refine ⟨ndS.1, ⟨setSs_nodup off Sn Sc f1.nodup (by rw [u2]; exact ndS.2.1.1) (fun c hc h => hdisj c hc (by rw [eS, ← u2]; simp only [List.mem_append]; exact .inr (.inl h))), ndS.2.1.2.1, fun x hx z hz e => ?_⟩, fun x hx z hz e => ?_⟩
          · subst e
            rcases hsub x hx with h | h
            · exact hdisj x h (by rw [eS]; simp [hz])
            · exact ndS.2.1.2.2 x h x hz rfl
          · subst e
            rcases List.mem_append.1 hz with h | h
            · rcases hsub x h with h | h
              · exact hdisj x h (by rw [eS]; simp [hx])
              · exact ndS.2.2 x hx x (by simp [h]) rfl
            · exact ndS.2.2 x hx x (by simp [h]) rfl
        · rcases hSub' c hc with h | h
          · exact ⟨f1.own c h, fun j lwj Fj hj e => f1.apart j lwj Fj e c h⟩
          · exact ⟨own c (by simp [h]), fun j lwj Fj hj e => hi.rep.apart id j _ _ _ _ (Ne.symm hj) hW e c (by simp [h])⟩
    have hshd : dn = false → ∀ c ∈ Sa ++ ((setSs off Sn Sc).flatten ++ Sb), A c := fun e c hc => by
      by_cases hf : t.flat = true
      · rw [hz hf] at hc; cases hc
      · have hdp : dp = false := by rw [← (hdn.resolve_right hf)]; exact e
        rcases hSub' c hc with h | h
        · exact hsh e c h
        · exact g6 hdp c h
    refine hi.set (l := .row t (xs.set i y) dn) (off := ob + i * t.size + off) (vs := us) (F' := b :: (if dn = true then Sa ++ ((setSs off Sn Sc).flatten ++ Sb) else [])) hW (by simp) ?_ ?_ ?_ (fun c e => by cases e) ?_
    · cases hdn' : dn with
      | false => simp
      | true =>
        simp only [if_true, List.nodup_cons]
        refine ⟨fun h => ?_, (hdeep hdn').1⟩
        rcases hSub' b h with h | h
        · exact hbn h
        · exact hbS h
    · intro c hc
      rcases List.mem_cons.1 hc with rfl | hc
      · exact ⟨hb1, hb2, hb3⟩
      · cases hdn' : dn with
        | false => simp [hdn'] at hc
        | true => simp only [hdn', if_true] at hc; exact ((hdeep hdn').2 c hc).1
    · intro j lwj Fj hj e c hc
      rcases List.mem_cons.1 hc with rfl | hc
      · exact hi.rep.apart id j _ _ _ _ (Ne.symm hj) hW e _ (by simp)
      · cases hdn' : dn with
        | false => simp [hdn'] at hc
        | true => simp only [hdn', if_true] at hc; exact ((hdeep hdn').2 c hc).2 j lwj Fj hj e
    · refine fun W' e _ => .inr ⟨b, ob, cap, _, by rw [List.length_set]; exact e, by rw [List.length_set]; exact g2, fun j hj => ?_, g4.of fun i => World.frozen?_setCells _ _ _ _ _, hnew, hshd⟩
      by_cases h : ob + i * t.size + off ≤ ob + j ∧ ob + j < ob + i * t.size + off + us.length
      · have := World.cell?_setCells_in b us (ob + i * t.size + off) w (fun j hj => by rw [Nat.add_assoc, Nat.add_assoc]; exact g3 _ (by omega)) (ob + j - (ob + i * t.size + off)) (by omega)
        rw [show ob + i * t.size + off + (ob + j - (ob + i * t.size + off)) = ob + j by omega] at this
        rw [this]; rfl
      · rw [World.cell?_setCells_out b _ _ w _ (fun _ _ => by simp only; omega)]; exact g3 j hj
theorem store_opn {T : Nat} {x y : Operand} {ag : Bool} {t : Ty} (fa : TyFacts P T ag t) (hd : o.dst = none) (ho : o.op = .store T x y) (hi : Inv X st a w A W V) {v : AV} (hy : RepAV A W w v (a.eval y))
    (hok : okCells v.cells = true) (hln : v.cells.length = t.size) {id i off b ob kk len cap : Nat} {F : List Nat} (hW : W id = some (.row b ob kk len cap, F)) (hv : a.eval x = .pointer (some ⟨b, ob + i * kk + off, none⟩))
    {t' : Ty} {xs : List t'.den} {cells : List AV} (hloc : st.loc id = some (.opn t' xs i cells)) (hle : off + t.size ≤ t'.size)
    (hk : k (st.ev (.loc id (.opn t' xs i (setN off v.cells cells)))) = some r) : o.wp P a w (Post X k r) Q := by
  obtain ⟨b', ob', cap', Sa, Sb, us, g1, g2, g3, g4, g5, g6, g7, g8, g9, g10⟩ := hi.rep.locs id _ _ hW hloc
  rw [hW] at g1
  simp only [Option.some.injEq, Prod.mk.injEq, LW.row.injEq] at g1
  obtain ⟨⟨rfl, rfl, rfl, rfl, rfl⟩, rfl⟩ := g1
  obtain ⟨hyr, hy1⟩ := cells_rep hy hok
  have hyl := RepL.length hyr
  have hin : i * t'.size + t'.size ≤ xs.length * t'.size := by
    have := Nat.mul_le_mul_right t'.size (show i + 1 ≤ xs.length from g2)
    rwa [Nat.add_mul, Nat.one_mul] at this
  have hcapm : xs.length * t'.size ≤ cap * t'.size := Nat.mul_le_mul_right _ g3
  have hvl : (a.eval y).cells.toList.length = t.size := by rw [hyl, hln]
  have hszy : (a.eval y).cells.size = t.size := by simpa using hvl
  have run := run_storeAt (w := w) fa (b := b) (off := ob + i * t'.size + off) hszy (fun j hj => by rw [Nat.add_assoc, Nat.add_assoc]; exact g4 _ (by omega)) (fun j hj => by rw [Nat.add_assoc, Nat.add_assoc]; exact g5.1 _ (by omega)) hy1
  have own := hi.rep.own id _ _ hW
  have ndF := hi.rep.nodup id _ _ hW
  have hbS : b ∉ Sa ++ Sb := (List.nodup_cons.1 ndF).1
  obtain ⟨W2, i2⟩ := hi.set (l := .opn t' xs i (setN off v.cells cells)) (off := ob + i * t'.size + off) (vs := (a.eval y).cells.toList) (F' := b :: (Sa ++ Sb)) hW (List.mem_cons_self ..) ndF own
    (fun j lwj Fj hj e c hc => hi.rep.apart id j _ _ _ _ (Ne.symm hj) hW e c hc) (fun c e => by cases e)
    (fun W' e hsame => by
      have hoth : ∀ c, c ≠ b → (w.setCells b (ob + i * t'.size + off) (a.eval y).cells.toList).heap[c]? = w.heap[c]? := fun c hc => setCells_other b _ _ w c hc
      obtain ⟨da, a1, a2⟩ := g6.cells
      obtain ⟨db, b1, b2⟩ := g7.cells
      have hla : da.length = i * t'.size := by rw [a1, List.length_take, Nat.min_eq_left (Nat.le_of_lt g2)]
      refine ⟨b, ob, cap, Sa, Sb, setVs off (a.eval y).cells.toList us, e, g2, g3, fun j hj => ?_, g5.of fun i => World.frozen?_setCells _ _ _ _ _, ?_, ?_, by rw [setVs_length]; exact g8, setVs_seg g9 off (by omega), ?_⟩
      · by_cases h : ob + i * t'.size + off ≤ ob + j ∧ ob + j < ob + i * t'.size + off + (a.eval y).cells.toList.length
        · have := World.cell?_setCells_in b (a.eval y).cells.toList (ob + i * t'.size + off) w (fun j hj => by rw [Nat.add_assoc, Nat.add_assoc]; exact g4 _ (by omega)) (ob + j - (ob + i * t'.size + off)) (by omega)
          rw [show ob + i * t'.size + off + (ob + j - (ob + i * t'.size + off)) = ob + j by omega] at this
          rw [this]; rfl
        · rw [World.cell?_setCells_out b _ _ w _ (fun _ _ => by simp only; omega)]; exact g4 j hj
      · refine RdRow.move da a1 a2 (fun j hj => ?_) (fun x S'' ds hsub hx => ERd.mono t' (fun c hc => hoth c (fun e => by subst e; exact hbS (by simp [hsub _ hc]))) hx) g6
        rw [World.cell?_setCells_out b _ _ w _ (fun _ _ => by simp only; omega)]
        exact a2 j hj
      · refine RdRow.move db b1 b2 (fun j hj => ?_) (fun x S'' ds hsub hx => ERd.mono t' (fun c hc => hoth c (fun e => by subst e; exact hbS (by simp [hsub _ hc]))) hx) g7
        have h2' : (i + 1) * t'.size = i * t'.size + t'.size := by rw [Nat.add_mul, Nat.one_mul]
        rw [World.cell?_setCells_out b _ _ w _ (fun _ _ => by simp only; omega)]
        exact b2 j hj
      · have := setN_rep off hyr g10
        refine RepL.mono (fun _ h => h) (fun c hc => hoth c (fun e => (own b (by simp)).2.2 (by rw [← e]; exact hc))) (fun j lw F e' => ?_) _ _ this
        by_cases hj : j = id
        · subst hj; rw [hW] at e'; simp only [Option.some.injEq, Prod.mk.injEq] at e'; exact ⟨b :: (Sa ++ Sb), by rw [e, e'.1]⟩
        · exact ⟨F, by rw [hsame j hj]; exact e'⟩)
  refine wp_skip' hd ?_ i2 hk
  simp [execOp, ho, hv, run]
theorem op_store (hc : chkAll P c.tab = true) {T : Nat} {x y : Operand} (hd : o.dst = none) (ho : o.op = .store T x y) (hi : Inv X st a w A W V)
    {op : Bool} (hk : storeK c op T (opnd X.f st x) (opnd X.f st y) st k = some r) : o.wp P a w (Post X k r) Q := by
  have hx := hi.opnd x
  have hy := hi.opnd y
  unfold storeK at hk
  split at hk
  · cases hk
  · rename_i ag t ht
    have fa := facts_of hc ht
    obtain ⟨h1, hk⟩ := cond_some hk
    simp only [Bool.and_eq_true] at h1
    obtain ⟨hok, hln⟩ := h1
    have hln := Nat.eq_of_beq_eq_true hln
    split at hk
    · -- a box
      rename_i id off e1
      rw [e1] at hx
      obtain ⟨hkb, hk⟩ := cond_some hk
      have hkb : st.kb.has id = false := by simpa using hkb
      rcases em : matCells t (opnd X.f st y) st with ⟨vs, st1⟩
      rw [em] at hk
      obtain ⟨W1, i1, x1, r1, one1, sz1, same1⟩ := matCells_ok hi hy hok hln em
      simp only at hk
      split at hk
      · rename_i cs hloc
        obtain ⟨hle, hk⟩ := cond_some hk
        have hle := Nat.le_of_ble_eq_true hle
        simp only [RepAV] at hx
        obtain ⟨b, F, hW, hv⟩ := hx
        obtain ⟨F1, hW1⟩ := x1 _ _ _ hW
        obtain ⟨b', us, g1, g2, g3, g4⟩ := i1.rep.locs id _ _ hW1 hloc
        rw [hW1] at g1
        simp only [Option.some.injEq, Prod.mk.injEq, LW.box.injEq] at g1
        obtain ⟨rfl, rfl⟩ := g1
        have hul := RepL.length g4
        have hvl : (a.eval y).cells.toList.length = t.size := by simpa using sz1
        have run := run_storeAt (w := w) fa (b := b) (off := off) sz1 (fun j hj => by have := seg_some g2 (i := off + j) (by omega); rwa [Nat.zero_add] at this)
          (fun j hj => by have := g3 (off + j) (by omega); rwa [Nat.zero_add] at this) one1
        obtain ⟨hb1, hb2, hb3⟩ := i1.rep.own id _ _ hW1 b (by simp)
        have hkb1 : st1.kb = st.kb := by
          have := mat_kb t (opnd X.f st y).cells st
          unfold matCells at em
          rcases e' : t.mat (opnd X.f st y).cells st with ⟨xs, rr, s⟩
          rw [e'] at em this
          simp only [Prod.mk.injEq] at em
          rw [← em.2]; exact this
        obtain ⟨W2, i2⟩ := i1.set (b := b) (l := .box (setN off vs cs)) (off := off) (vs := (a.eval y).cells.toList) (F' := [b]) hW1 (by simp) (by simp) (fun c hc => by simp at hc; subst hc; exact ⟨hb1, hb2, hb3⟩)
          (fun j lwj Fj hj e c hc => i1.rep.apart id j _ _ _ _ (Ne.symm hj) hW1 e c hc) (fun _ _ => ⟨rfl, by rw [hkb1]; exact hkb⟩)
          (fun W' e hsame => by
            have hseg := setVs_seg (us := (a.eval y).cells.toList) g2 off (by omega)
            rw [Nat.zero_add] at hseg
            refine ⟨b, setVs off (a.eval y).cells.toList us, e, hseg, fun i hi' => by rw [World.frozen?_setCells]; exact g3 i (by rwa [setVs_length] at hi'), ?_⟩
            have := setN_rep off r1 g4
            refine RepL.mono (fun _ h => h) (fun c hc => setCells_other b _ _ w c (fun e => hb3 (by rw [← e]; exact hc))) (fun j lw F e' => ?_) _ _ this
            by_cases hj : j = id
            · subst hj; rw [hW1] at e'; simp only [Option.some.injEq, Prod.mk.injEq] at e'; exact ⟨[b], by rw [e, e'.1]⟩
            · exact ⟨F, by rw [hsame j hj]; exact e'⟩)
        refine wp_skip' hd ?_ i2 hk
        simp [execOp, ho, hv, run]
      · cases hk
    · -- an element of an own row
      rename_i id i off e1
      rw [e1] at hx
      simp only [RepAV] at hx
      obtain ⟨b, ob, kk, len, cap, F, hW, hlt, hv⟩ := hx
      split at hk
      · rename_i t' xs dp hloc
        obtain ⟨h2, hk0⟩ := cond_some hk
        clear hk
        have hk := hk0
        clear hk0
        simp only [Bool.and_eq_true] at h2
        obtain ⟨hle, hnm⟩ := h2
        have hle := Nat.le_of_ble_eq_true hle
        have hnm := notMem_spec hnm
        split at hk
        · rename_i hod
          simp only [Bool.and_eq_true] at hod
          obtain ⟨_, rfl⟩ := hod
          rcases hi.rep.locs id _ _ hW hloc with ⟨g1, _⟩ | ⟨b', ob', cap', S', g1, g2, g3, g4, g5, g6⟩
          · rw [hW] at g1; simp at g1
          · rw [hW] at g1
            simp only [Option.some.injEq, Prod.mk.injEq, LW.row.injEq] at g1
            obtain ⟨⟨rfl, rfl, rfl, rfl, rfl⟩, rfl⟩ := g1
            rcases hoc : t'.ownCells (xs.getD i t'.dflt) (st.ev (.loc id (.opn t' xs i (List.replicate t'.size .any)))) with ⟨cells, s1⟩
            rw [hoc] at hk
            simp only at hk
            rw [getD_get hlt] at hoc
            obtain ⟨W2, us2, i2, q1, q2, q3, x2⟩ := open_ok hi hW hloc hlt hoc
            obtain ⟨F2, hW2⟩ := x2 id _ _ hW
            exact store_opn fa hd ho i2 (hy.ext x2) hok hln hW2 hv (by rw [loc_loc, if_pos rfl]) hle hk
        split at hk
        · rename_i y' hpk
          rcases hi.rep.locs id _ _ hW hloc with ⟨g1, _⟩ | ⟨b', ob', cap', S', g1, g2, g3, g4, g5, g6⟩
          · rw [hW] at g1; simp at g1
          · rw [hW] at g1
            simp only [Option.some.injEq, Prod.mk.injEq, LW.row.injEq] at g1
            obtain ⟨⟨rfl, rfl, rfl, rfl, rfl⟩, rfl⟩ := g1
            rw [getD_get hlt] at hpk
            obtain ⟨hyr, hy1⟩ := cells_rep hy hok
            have hyl := RepL.length hyr
            obtain ⟨Sn, d1, d2, d3⟩ := dataL_rep hi.rep _ _ hyr
            have hin : i * t'.size + t'.size ≤ xs.length * t'.size := by
              have := Nat.mul_le_mul_right t'.size (show i + 1 ≤ xs.length from hlt)
              rwa [Nat.add_mul, Nat.one_mul] at this
            have hcapm : xs.length * t'.size ≤ cap * t'.size := Nat.mul_le_mul_right _ g2
            have hvl : (a.eval y).cells.toList.length = t.size := by rw [hyl, hln]
            have hszy : (a.eval y).cells.size = t.size := by simpa using hvl
            have run := run_storeAt (w := w) fa (b := b) (off := ob + i * t'.size + off) hszy (fun j hj => by rw [Nat.add_assoc, Nat.add_assoc]; exact g3 _ (by omega)) (fun j hj => by rw [Nat.add_assoc, Nat.add_assoc]; exact g4.1 _ (by omega)) hy1
            have hb3 := (hi.rep.own id _ _ hW b (by simp)).2.2
            have hbn : b ∉ Sn.flatten := fun h => by
              rcases d2 b h with h | ⟨id', hid', hfo, lw', F', _, _, _, e1, _⟩
              · exact hb3 h
              · simp only [foot, e1] at hfo
                exact hi.rep.apart id id' _ _ _ _ (fun e => by subst e; exact hnm hid') hW e1 b (by simp) hfo
            have fin : ∀ {st1 : St} {A1 : Nat → Prop} {W1 : Wit}, Inv X st1 a (w.setCells b (ob + i * t'.size + off) (a.eval y).cells.toList) A1 W1 V → k st1 = some r → o.wp P a w (Post X k r) Q := fun i1 hk => by
              refine wp_skip' hd ?_ i1 hk
              simp [execOp, ho, hv, run]
            split at hk
            · rename_i hf
              have hnw : ∀ cs Si, Rd w t' xs[i] Si cs → ∃ Sc, Sc.flatten = Si ∧ Rd w t' y' (setSs off Sn Sc).flatten (setVs off (a.eval y).cells.toList cs) := fun cs Si h => by
                obtain ⟨Sc, u1, u2⟩ := unpack_DL t' h
                exact ⟨Sc, u2, packAll_rep (setN_DL off d1 u1) hpk⟩
              obtain ⟨W2, i2⟩ := store_core (dn := true) hi hW hloc hlt (fun cs Si h => by obtain ⟨Sc, u1, u2⟩ := hnw cs Si h.rd; exact ⟨Sc, u1, .of_flat t' hf u2⟩) (by omega) (.inr hf) hbn (fun _ => .inl hf) (fun e => by cases e)
              exact fin i2 hk
            · rename_i hf
              split at hk
              · rename_i hm
                simp only [Bool.and_eq_true] at hm
                obtain ⟨hdp, hmv⟩ := hm
                rw [hdp] at hloc
                simp only [moveOK, Bool.and_eq_true] at hmv
                obtain ⟨W1, i1, f1, o1, z1⟩ := kill_free hi Free.nil (rowIds_live hyr) (distinct_nodup hmv.2)
                obtain ⟨So, d4, d5⟩ := odataL_rep hi.rep hyr hmv.1
                rw [List.nil_append, ← d5] at f1
                have hnw : ∀ cs Si, OwnRd w t' xs[i] Si cs → ∃ Sc, Sc.flatten = Si ∧ OwnRd w t' y' (setSs off So Sc).flatten (setVs off (a.eval y).cells.toList cs) := fun cs Si h => by
                  obtain ⟨Sc, u1, u2⟩ := unpack_OL t' h
                  exact ⟨Sc, u2, opackAll_rep (setN_OL off d4 u1) hpk⟩
                obtain ⟨W2, i2⟩ := store_core (dn := true) i1 (by rw [o1 id hnm]; exact hW) (loc_killAll _ hloc) hlt hnw (by omega) (.inl rfl) (by rw [d5, ← d3 hmv.1]; exact hbn) (fun _ => .inr f1) (fun e => by cases e)
                exact fin i2 hk
              · obtain ⟨A1, W1, i1, a1, f1, o1⟩ := freezeAll_turn hi (rowIds (opnd X.f st y).cells)
                have hW1 := (o1 id hnm).trans hW
                have hloc1 := loc_freezeAll _ hnm hloc
                obtain ⟨A2, W2, i2, a2, x2, c2⟩ := share_ok i1 id
                obtain ⟨F2, hW2⟩ := x2 id _ _ hW1
                obtain ⟨_, _, _, hloc2⟩ := c2 _ _ _ hloc1 ⟨_, hW1⟩ hf
                have hnw : ∀ cs Si, Rd w t' xs[i] Si cs → ∃ Sc, Sc.flatten = Si ∧ Rd w t' y' (setSs off Sn Sc).flatten (setVs off (a.eval y).cells.toList cs) := fun cs Si h => by
                  obtain ⟨Sc, u1, u2⟩ := unpack_DL t' h
                  exact ⟨Sc, u2, packAll_rep (setN_DL off d1 u1) hpk⟩
                obtain ⟨W3, i3⟩ := store_core (dn := false) i2 hW2 hloc2 hlt hnw (by omega) (.inl rfl) hbn (fun e => by cases e) (fun _ c hc => by
                  rcases d2 c hc with h | ⟨id', hid', hfo, lw', F', t'', xs', dp', e1, e2, e3⟩
                  · exact a2 c (a1 c h)
                  · exact a2 c (f1 id' hid' lw' F' t'' xs' dp' e1 e2 e3 c (by simpa [foot, e1] using hfo)))
                exact fin i3 hk
        · cases hk
      · -- of one that is opened
        rename_i t' xs i' cells hloc
        obtain ⟨h2, hk⟩ := cond_some hk
        simp only [Bool.and_eq_true] at h2
        obtain ⟨hle, hii⟩ := h2
        have hii := Nat.eq_of_beq_eq_true hii
        subst hii
        have hle := Nat.le_of_ble_eq_true hle
        exact store_opn fa hd ho hi hy hok hln hW hv hloc hle hk
      · cases hk
    · cases hk

end
end Go.Proofs.Fw
