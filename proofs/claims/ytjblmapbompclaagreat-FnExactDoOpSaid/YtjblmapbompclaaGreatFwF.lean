/- Typed values packed out of cells and unpacked; rows given up or told as data, several at once; nil slices made rows. -/
import Derived.Test.YtjblmapbompclaaGreatFwE
set_option linter.all false
namespace Go.Proofs.Fw
open Go
def D1 (w : World) : AV → Value → List Nat → Prop
  | .d t x, v, S => Rd w t x S [v]
  | .nils, v, S => v = .slice none 0 0 ∧ S = []
  | _, _, S => S = []
def DL (w : World) : List AV → List Value → List (List Nat) → Prop
  | [], vs, Ss => vs = [] ∧ Ss = []
  | c :: cs, vs, Ss => ∃ v r S Sr, vs = v :: r ∧ Ss = S :: Sr ∧ D1 w c v S ∧ DL w cs r Sr
theorem castTy_eq {a b : Ty} {x : a.den} {y : b.den} (h : castTy a b x = some y) : a = b ∧ HEq x y := by
  unfold castTy at h
  split at h
  · rename_i e; subst e; simp at h; exact ⟨rfl, by rw [h]⟩
  · cases h
theorem castTy_self {a : Ty} {x y : a.den} (h : castTy a a x = some y) : x = y := eq_of_heq (castTy_eq h).2

section
variable {w : World}
theorem leafOf_rep {t : Ty} {ds r : List AV} {vs : List Value} {Ss : List (List Nat)} {x : t.den} (h : DL w ds vs Ss) (hp : leafOf t ds = some (x, r)) :
    ∃ v v2 S S2, vs = v :: v2 ∧ Ss = S :: S2 ∧ Rd w t x S [v] ∧ DL w r v2 S2 := by
  cases ds with
  | nil => simp [leafOf] at hp
  | cons c cs =>
    obtain ⟨v, r', S, Sr, e1, e2, h1, h2⟩ := h
    cases c with
    | d t' y =>
      simp only [leafOf] at hp
      cases hc : castTy t' t y with
      | none => rw [hc] at hp; simp at hp
      | some z =>
        rw [hc] at hp
        simp at hp
        obtain ⟨rfl, rfl⟩ := hp
        obtain ⟨rfl, _⟩ := castTy_eq hc
        have := castTy_self hc
        subst this
        exact ⟨v, r', S, Sr, e1, e2, h1, h2⟩
    | _ => simp [leafOf] at hp
theorem pack_rep : ∀ (t : Ty) {ds r : List AV} {vs : List Value} {Ss : List (List Nat)} {x : t.den}, DL w ds vs Ss → t.pack ds = some (x, r) →
    ∃ v1 v2 S1 S2, vs = v1 ++ v2 ∧ Ss = S1 ++ S2 ∧ Rd w t x S1.flatten v1 ∧ DL w r v2 S2
  | .unit, ds, r, vs, Ss, x, h, hp => by
    simp only [Ty.pack, Option.some.injEq, Prod.mk.injEq] at hp
    obtain ⟨_, rfl⟩ := hp
    exact ⟨[], vs, [], Ss, rfl, rfl, by simp [Rd], h⟩
  | .bool, ds, r, vs, Ss, x, h, hp => by
    obtain ⟨v, v2, S, S2, e1, e2, h1, h2⟩ := leafOf_rep h (by simpa only [Ty.pack] using hp)
    exact ⟨[v], v2, [S], S2, e1, e2, by simpa using h1, h2⟩
  | .int k, ds, r, vs, Ss, x, h, hp => by
    obtain ⟨v, v2, S, S2, e1, e2, h1, h2⟩ := leafOf_rep h (by simpa only [Ty.pack] using hp)
    exact ⟨[v], v2, [S], S2, e1, e2, by simpa using h1, h2⟩
  | .str, ds, r, vs, Ss, x, h, hp => by
    obtain ⟨v, v2, S, S2, e1, e2, h1, h2⟩ := leafOf_rep h (by simpa only [Ty.pack] using hp)
    exact ⟨[v], v2, [S], S2, e1, e2, by simpa using h1, h2⟩
  | .err, ds, r, vs, Ss, x, h, hp => by
    obtain ⟨v, v2, S, S2, e1, e2, h1, h2⟩ := leafOf_rep h (by simpa only [Ty.pack] using hp)
    exact ⟨[v], v2, [S], S2, e1, e2, by simpa using h1, h2⟩
  | .sl t, ds, r, vs, Ss, x, h, hp => by
    have leaf : ∀ ds r, DL w ds vs Ss → leafOf (.sl t) ds = some (x, r) → ∃ v1 v2 S1 S2, vs = v1 ++ v2 ∧ Ss = S1 ++ S2 ∧ Rd w (.sl t) x S1.flatten v1 ∧ DL w r v2 S2 := fun ds r h hp => by
      obtain ⟨v, v2, S, S2, e1, e2, h1, h2⟩ := leafOf_rep h hp
      exact ⟨[v], v2, [S], S2, e1, e2, by simpa using h1, h2⟩
    cases ds with
    | nil => simp [Ty.pack, leafOf] at hp
    | cons c cs =>
      cases c with
      | nils =>
        simp only [Ty.pack, Option.some.injEq, Prod.mk.injEq] at hp
        obtain ⟨rfl, rfl⟩ := hp
        obtain ⟨v, r', S, Sr, e1, e2, ⟨h1, h1'⟩, h2⟩ := h
        exact ⟨[v], r', [S], Sr, e1, e2, by simp [Rd, h1, h1'], h2⟩
      | _ => exact leaf _ _ h (by simpa only [Ty.pack] using hp)
  | .pair a b, ds, r, vs, Ss, x, h, hp => by
    simp only [Ty.pack] at hp
    cases ha : a.pack ds with
    | none => rw [ha] at hp; simp at hp
    | some xa =>
      obtain ⟨xa, ra⟩ := xa
      rw [ha] at hp
      simp only at hp
      cases hb : b.pack ra with
      | none => rw [hb] at hp; simp at hp
      | some xb =>
        obtain ⟨xb, rb⟩ := xb
        rw [hb] at hp
        simp only [Option.some.injEq, Prod.mk.injEq] at hp
        obtain ⟨rfl, rfl⟩ := hp
        obtain ⟨v1, v2, S1, S2, e1, e2, h1, h2⟩ := pack_rep a h ha
        obtain ⟨u1, u2, T1, T2, f1, f2, g1, g2⟩ := pack_rep b h2 hb
        refine ⟨v1 ++ u1, u2, S1 ++ T1, T2, by rw [e1, f1, List.append_assoc], by rw [e2, f2, List.append_assoc], ?_, g2⟩
        simp only [Rd]
        exact ⟨S1.flatten, T1.flatten, v1, u1, by simp, rfl, h1, g1⟩
theorem packAll_rep {t : Ty} {ds : List AV} {vs : List Value} {Ss : List (List Nat)} {x : t.den} (h : DL w ds vs Ss) (hp : t.packAll ds = some x) : Rd w t x Ss.flatten vs := by
  unfold Ty.packAll at hp
  split at hp
  · rename_i y e
    simp at hp
    subst hp
    obtain ⟨v1, v2, S1, S2, e1, e2, h1, h2⟩ := pack_rep t h e
    simp only [DL] at h2
    obtain ⟨rfl, rfl⟩ := h2
    rw [e1, e2]; simpa using h1
  · cases hp

variable {A : Nat → Prop} {W : Wit}
theorem RepL.append : ∀ {cs ds : List AV} {vs us : List Value}, RepL A W w cs vs → RepL A W w ds us → RepL A W w (cs ++ ds) (vs ++ us)
  | [], ds, vs, us, h, h' => by simp only [RepL] at h; subst h; simpa using h'
  | c :: cs, ds, vs, us, h, h' => by
    simp only [RepL] at h
    obtain ⟨v, r, rfl, h1, h2⟩ := h
    simp only [List.cons_append, RepL]
    exact ⟨v, r ++ us, rfl, h1, RepL.append h2 h'⟩
theorem RepL.length : ∀ {cs : List AV} {vs : List Value}, RepL A W w cs vs → vs.length = cs.length
  | [], vs, h => by simp only [RepL] at h; simp [h]
  | c :: cs, vs, h => by
    simp only [RepL] at h
    obtain ⟨v, r, rfl, h1, h2⟩ := h
    simp [RepL.length h2]
theorem unpack_rep : ∀ (t : Ty) {x : t.den} {S : List Nat} {cs : List Value}, Rd w t x S cs → (∀ b ∈ S, A b) → RepL A W w (t.unpack x) cs
  | .unit, _, _, _, h, _ => by simp only [Rd] at h; simp [Ty.unpack, RepL, h.2]
  | .bool, x, S, cs, h, hS => by
    have := h.length; simp only [Ty.size] at this
    obtain ⟨v, rfl⟩ := List.length_eq_one_iff.1 this
    simp only [Ty.unpack, RepL, RepAV]; exact ⟨v, [], rfl, ⟨S, hS, h⟩, rfl⟩
  | .int k, x, S, cs, h, hS => by
    have := h.length; simp only [Ty.size] at this
    obtain ⟨v, rfl⟩ := List.length_eq_one_iff.1 this
    simp only [Ty.unpack, RepL, RepAV]; exact ⟨v, [], rfl, ⟨S, hS, h⟩, rfl⟩
  | .str, x, S, cs, h, hS => by
    have := h.length; simp only [Ty.size] at this
    obtain ⟨v, rfl⟩ := List.length_eq_one_iff.1 this
    simp only [Ty.unpack, RepL, RepAV]; exact ⟨v, [], rfl, ⟨S, hS, h⟩, rfl⟩
  | .err, x, S, cs, h, hS => by
    have := h.length; simp only [Ty.size] at this
    obtain ⟨v, rfl⟩ := List.length_eq_one_iff.1 this
    simp only [Ty.unpack, RepL, RepAV]; exact ⟨v, [], rfl, ⟨S, hS, h⟩, rfl⟩
  | .sl t, x, S, cs, h, hS => by
    have := h.length; simp only [Ty.size] at this
    obtain ⟨v, rfl⟩ := List.length_eq_one_iff.1 this
    simp only [Ty.unpack, RepL, RepAV]; exact ⟨v, [], rfl, ⟨S, hS, h⟩, rfl⟩
  | .pair a b, x, S, cs, h, hS => by
    simp only [Rd] at h
    obtain ⟨S1, S2, c1, c2, rfl, rfl, h1, h2⟩ := h
    simp only [Ty.unpack]
    exact RepL.append (unpack_rep a h1 (fun b hb => hS b (by simp [hb]))) (unpack_rep b h2 (fun b hb => hS b (by simp [hb])))
theorem takeN_rep : ∀ (n : Nat) {cs : List AV} {vs : List Value}, RepL A W w cs vs → RepL A W w (takeN n cs) (vs.take n)
  | 0, _, _, _ => by simp [takeN, RepL]
  | n + 1, [], vs, h => by simp only [RepL] at h; subst h; simp [takeN, RepL]
  | n + 1, c :: cs, vs, h => by
    simp only [RepL] at h
    obtain ⟨v, r, rfl, h1, h2⟩ := h
    simp only [takeN, RepL, List.take_succ_cons]
    exact ⟨v, _, rfl, h1, takeN_rep n h2⟩
theorem dropN_rep : ∀ (n : Nat) {cs : List AV} {vs : List Value}, RepL A W w cs vs → RepL A W w (dropN n cs) (vs.drop n)
  | 0, _, _, h => h
  | n + 1, [], vs, h => by simp only [RepL] at h; subst h; simp [dropN, RepL]
  | n + 1, c :: cs, vs, h => by
    simp only [RepL] at h
    obtain ⟨v, r, rfl, h1, h2⟩ := h
    simpa only [dropN, List.drop_succ_cons] using dropN_rep n h2
def setVs : Nat → List Value → List Value → List Value
  | 0, [], l => l
  | 0, v :: vs, _ :: l => v :: setVs 0 vs l
  | n + 1, vs, c :: l => c :: setVs n vs l
  | _, _, [] => []
theorem setN_rep : ∀ (n : Nat) {ns cs : List AV} {us vs : List Value}, RepL A W w ns us → RepL A W w cs vs → RepL A W w (setN n ns cs) (setVs n us vs)
  | 0, [], cs, us, vs, h, h' => by
    simp only [RepL] at h; subst h
    cases cs <;> cases vs <;> simpa only [setN, setVs] using h'
  | 0, c :: ns, [], us, vs, h, h' => by
    simp only [RepL] at h h'
    obtain ⟨v, r, rfl, _⟩ := h
    subst h'
    simp [setN, setVs, RepL]
  | 0, c :: ns, d :: cs, us, vs, h, h' => by
    simp only [RepL] at h h'
    obtain ⟨v, r, rfl, h1, h2⟩ := h
    obtain ⟨u, s, rfl, g1, g2⟩ := h'
    simp only [setN, setVs, RepL]
    exact ⟨v, _, rfl, h1, setN_rep 0 h2 g2⟩
  | n + 1, ns, [], us, vs, h, h' => by
    simp only [RepL] at h'
    subst h'
    cases ns <;> cases us <;> simp [setN, setVs, RepL]
  | n + 1, ns, d :: cs, us, vs, h, h' => by
    simp only [RepL] at h'
    obtain ⟨u, s, rfl, g1, g2⟩ := h'
    simp only [setN, setVs, RepL]
    exact ⟨u, _, rfl, g1, setN_rep n h g2⟩
theorem setVs_length : ∀ (n : Nat) (us vs : List Value), (setVs n us vs).length = vs.length
  | 0, [], vs => by cases vs <;> simp [setVs]
  | 0, u :: us, [] => by simp [setVs]
  | 0, u :: us, v :: vs => by simp [setVs, setVs_length 0 us vs]
  | n + 1, us, [] => by simp [setVs]
  | n + 1, us, v :: vs => by simp [setVs, setVs_length n us vs]
theorem setVs_get : ∀ (n : Nat) (us vs : List Value) (i : Nat), n + us.length ≤ vs.length → (setVs n us vs)[i]? = if n ≤ i ∧ i < n + us.length then us[i - n]? else vs[i]?
  | 0, [], vs, i, _ => by cases vs <;> simp [setVs]
  | 0, u :: us, [], i, h => by simp at h
  | 0, u :: us, v :: vs, 0, h => by simp [setVs]
  | 0, u :: us, v :: vs, i + 1, h => by
    simp only [setVs, List.getElem?_cons_succ]
    rw [setVs_get 0 us vs i (by simp at h ⊢; omega)]
    simp
  | n + 1, us, [], i, h => by simp at h
  | n + 1, us, v :: vs, 0, h => by simp [setVs]
  | n + 1, us, v :: vs, i + 1, h => by
    simp only [setVs, List.getElem?_cons_succ]
    rw [setVs_get n us vs i (by simp at h ⊢; omega)]
    simp only [Nat.add_le_add_iff_right, Nat.add_sub_add_right]
    by_cases hc : n ≤ i ∧ i < n + us.length
    · rw [if_pos hc, if_pos (by omega)]
    · rw [if_neg hc, if_neg (by omega)]

end
def foot (W : Wit) (id : Nat) : List Nat := match W id with | some p => p.2 | none => []

section
variable {st : St} {w : World} {M A : Nat → Prop} {W : Wit} {V : Nat → Value}
theorem dataL_rep (h : Rep st w M A W V) : ∀ (cs : List AV) (vs : List Value), RepL A W w cs vs →
    ∃ Ss, DL w (st.dataL cs) vs Ss ∧ (∀ b ∈ Ss.flatten, A b ∨ ∃ id ∈ rowIds cs, b ∈ foot W id ∧ ∃ lw F t xs dp, W id = some (lw, F) ∧ (∀ b, lw ≠ .box b) ∧ st.loc id = some (.row t xs dp)) ∧
      (deepOK st cs = true → Ss.flatten = (rowIds cs).flatMap (foot W))
  | [], vs, hr => by
    simp only [RepL] at hr
    subst hr
    exact ⟨[], by simp [St.dataL, DL], by simp, by simp [rowIds]⟩
  | c :: cs, vs, hr => by
    simp only [RepL] at hr
    obtain ⟨v, r, rfl, h1, h2⟩ := hr
    obtain ⟨Ss, g1, g2, g3⟩ := dataL_rep h cs r h2
    have other : ∀ S, D1 w (st.data1 c) v S → rowIds (c :: cs) = rowIds cs → (∀ b ∈ S, A b) → (deepOK st (c :: cs) = true → S = [] ∧ deepOK st cs = true) →
        ∃ Ss, DL w (st.dataL (c :: cs)) (v :: r) Ss ∧ (∀ b ∈ Ss.flatten, A b ∨ ∃ id ∈ rowIds (c :: cs), b ∈ foot W id ∧ ∃ lw F t xs dp, W id = some (lw, F) ∧ (∀ b, lw ≠ .box b) ∧ st.loc id = some (.row t xs dp)) ∧
          (deepOK st (c :: cs) = true → Ss.flatten = (rowIds (c :: cs)).flatMap (foot W)) := fun S hS hid hA hd => by
      refine ⟨S :: Ss, ⟨v, r, S, Ss, rfl, rfl, hS, g1⟩, ?_, fun hd' => ?_⟩
      · intro b hb
        simp only [List.flatten_cons, List.mem_append] at hb
        rw [hid]
        rcases hb with hb | hb
        · exact .inl (hA b hb)
        · exact g2 b hb
      · obtain ⟨e1, e2⟩ := hd hd'
        rw [hid, e1, ← g3 e2]; simp
    cases c with
    | row id =>
      obtain ⟨lw, F, hW, hbox, rfl⟩ := h.row_live h1
      cases hl : st.loc id with
      | none =>
        refine ⟨[] :: Ss, ⟨_, r, [], Ss, rfl, rfl, by simp [St.data1, hl, D1], g1⟩, ?_, ?_⟩
        · intro b hb
          simp only [List.flatten_cons, List.nil_append] at hb
          rcases g2 b hb with h | ⟨j, hj, hh⟩
          · exact .inl h
          · exact .inr ⟨j, by simp [rowIds, hj], hh⟩
        · intro hd; simp [deepOK, hl] at hd
      | some l =>
        cases l with
        | box bs =>
          refine ⟨[] :: Ss, ⟨_, r, [], Ss, rfl, rfl, by simp [St.data1, hl, D1], g1⟩, ?_, ?_⟩
          · intro b hb
            simp only [List.flatten_cons, List.nil_append] at hb
            rcases g2 b hb with h | ⟨j, hj, hh⟩
            · exact .inl h
            · exact .inr ⟨j, by simp [rowIds, hj], hh⟩
          · intro hd; simp [deepOK, hl] at hd
        | mp _ _ _ =>
          refine ⟨[] :: Ss, ⟨_, r, [], Ss, rfl, rfl, by simp [St.data1, hl, D1], g1⟩, ?_, ?_⟩
          · intro b hb
            simp only [List.flatten_cons, List.nil_append] at hb
            rcases g2 b hb with h | ⟨j, hj, hh⟩
            · exact .inl h
            · exact .inr ⟨j, by simp [rowIds, hj], hh⟩
          · intro hd; simp [deepOK, hl] at hd
        | opn _ _ _ _ =>
          refine ⟨[] :: Ss, ⟨_, r, [], Ss, rfl, rfl, by simp [St.data1, hl, D1], g1⟩, ?_, ?_⟩
          · intro b hb
            simp only [List.flatten_cons, List.nil_append] at hb
            rcases g2 b hb with h | ⟨j, hj, hh⟩
            · exact .inl h
            · exact .inr ⟨j, by simp [rowIds, hj], hh⟩
          · intro hd; simp [deepOK, hl] at hd
        | row t xs dp =>
          obtain ⟨_, S, k1, k2, k3⟩ := h.rowRd hW hl
          refine ⟨S :: Ss, ⟨_, r, S, Ss, rfl, rfl, by simpa [St.data1, hl, D1] using k1, g1⟩, ?_, ?_⟩
          · intro b hb
            simp only [List.flatten_cons, List.mem_append] at hb
            rcases hb with hb | hb
            · rcases k2 b hb with h | h
              · exact .inl h
              · exact .inr ⟨id, by simp [rowIds], by simp [foot, hW, h], lw, F, t, xs, dp, hW, hbox, hl⟩
            · rcases g2 b hb with h | ⟨j, hj, hh⟩
              · exact .inl h
              · exact .inr ⟨j, by simp [rowIds, hj], hh⟩
          · intro hd
            simp only [deepOK, hl, Bool.and_eq_true] at hd
            cases dp with
            | false => simp at hd
            | true =>
              simp only [rowIds, List.flatten_cons, List.flatMap_cons, g3 hd.2, k3 rfl]
              simp [foot, hW]
    | d t x =>
      simp only [RepAV] at h1
      obtain ⟨S, hS, hr⟩ := h1
      exact other S hr rfl hS (fun hd => by
        simp only [deepOK, Bool.and_eq_true] at hd
        exact ⟨hr.flat t hd.1, hd.2⟩)
    | nils => exact other [] ⟨by simpa only [RepAV] using h1, rfl⟩ rfl (by simp) (fun hd => ⟨rfl, by simpa only [deepOK] using hd⟩)
    | agg _ => exact other [] rfl rfl (by simp) (fun hd => by simp [deepOK] at hd)
    | tup _ => exact other [] rfl rfl (by simp) (fun hd => by simp [deepOK] at hd)
    | ref _ _ => exact other [] rfl rfl (by simp) (fun hd => by simp [deepOK] at hd)
    | eref _ _ _ => exact other [] rfl rfl (by simp) (fun hd => by simp [deepOK] at hd)
    | dref _ _ _ => exact other [] rfl rfl (by simp) (fun hd => by simp [deepOK] at hd)
    | fn _ _ => exact other [] rfl rfl (by simp) (fun hd => by simp [deepOK] at hd)
    | any => exact other [] rfl rfl (by simp) (fun hd => by simp [deepOK] at hd)
theorem loc_freeze1 (st : St) (id j : Nat) (hj : j ≠ id) {t : Ty} {xs : List t.den} {dp : Bool} (h : st.loc j = some (.row t xs dp)) : (st.freeze1 id).loc j = some (.row t xs dp) := by
  unfold St.freeze1
  split
  · rw [loc_frz, if_neg (Ne.symm hj), h]; rfl
  · exact h
theorem Rep.freezeAll : ∀ (ids : List Nat) {st : St} {A : Nat → Prop} {W : Wit}, Rep st w M A W V → ∃ A' W', Rep (st.freezeAll ids) w M A' W' V ∧ (∀ b, A b → A' b) ∧
    (∀ id ∈ ids, ∀ lw F t xs dp, W id = some (lw, F) → (∀ b, lw ≠ .box b) → st.loc id = some (.row t xs dp) → ∀ b ∈ F, A' b) ∧ (∀ j, j ∉ ids → W' j = W j) ∧ (∀ j b F, W j = some (.box b, F) → W' j = W j)
  | [], st, A, W, h => ⟨A, W, h, fun _ h => h, by simp, fun _ _ => rfl, fun _ _ _ _ => rfl⟩
  | id :: ids, st, A, W, h => by
    obtain ⟨A1, W1, h1, a1, f1, o1, b1, _⟩ := h.freeze1 id
    obtain ⟨A2, W2, h2, a2, f2, o2, b2⟩ := Rep.freezeAll ids h1
    refine ⟨A2, W2, h2, fun b hb => a2 b (a1 b hb), ?_, ?_, ?_⟩
    · intro j hj lw F t xs dp hW hbox hl b hb
      by_cases e : j = id
      · subst e; exact a2 b (f1 lw F hW hbox ⟨t, xs, dp, hl⟩ b hb)
      · rcases List.mem_cons.1 hj with e' | hj
        · exact absurd e' e
        · exact f2 j hj lw F t xs dp (by rw [o1 j e]; exact hW) hbox (loc_freeze1 st id j e hl) b hb
    · intro j hj
      simp only [List.mem_cons, not_or] at hj
      rw [o2 j hj.2, o1 j hj.1]
    · intro j b F hW
      by_cases e : j = id
      · subst e; rw [b2 j b F (by rw [b1 b F hW]; exact hW), b1 b F hW]
      · rw [b2 j b F (by rw [o1 j e]; exact hW), o1 j e]
theorem Rep.killAll : ∀ (ids : List Nat) {st : St} {W : Wit}, Rep st w M A W V → (∀ id ∈ ids, ∀ b F, W id ≠ some (.box b, F)) → ∃ W', Rep (st.killAll ids) w M A W' V ∧ (∀ j, j ∉ ids → W' j = W j) ∧ (∀ j ∈ ids, W' j = none)
  | [], st, W, h, _ => ⟨W, h, fun _ _ => rfl, by simp⟩
  | id :: ids, st, W, h, hb => by
    have h1 := h.kill (hb id (by simp))
    obtain ⟨W', h2, o2, n2⟩ := Rep.killAll ids h1 (fun j hj b F e => by
      by_cases e' : j = id
      · subst e'; rw [updW_same] at e; cases e
      · rw [updW_other e'] at e; exact hb j (by simp [hj]) b F e)
    refine ⟨W', h2, ?_, ?_⟩
    · intro j hj
      simp only [List.mem_cons, not_or] at hj
      rw [o2 j hj.2, updW_other hj.1]
    · intro j hj
      by_cases hj' : j ∈ ids
      · exact n2 j hj'
      · rcases List.mem_cons.1 hj with rfl | h
        · rw [o2 _ hj', updW_same]
        · exact absurd h hj'
theorem killAll_nl : ∀ (ids : List Nat) (st : St), (st.killAll ids).nl = st.nl ∧ (st.killAll ids).nb = st.nb
  | [], _ => ⟨rfl, rfl⟩
  | _ :: ids, st => killAll_nl ids _
theorem freeze1_nl (id : Nat) (st : St) : (st.freeze1 id).nl = st.nl ∧ (st.freeze1 id).nb = st.nb := by
  unfold St.freeze1; split <;> exact ⟨rfl, rfl⟩
theorem freezeAll_nl : ∀ (ids : List Nat) (st : St), (st.freezeAll ids).nl = st.nl ∧ (st.freezeAll ids).nb = st.nb
  | [], _ => ⟨rfl, rfl⟩
  | id :: ids, st => by
    have h1 := freezeAll_nl ids (st.freeze1 id)
    have h2 := freeze1_nl id st
    exact ⟨h1.1.trans h2.1, h1.2.trans h2.2⟩
theorem raw_rep : ∀ {cs : List AV} {vs : List Value}, RepL A W w cs vs → ∃ Ss, DL w cs vs Ss ∧ ∀ b ∈ Ss.flatten, A b
  | [], vs, h => by simp only [RepL] at h; subst h; exact ⟨[], by simp [DL], by simp⟩
  | c :: cs, vs, h => by
    simp only [RepL] at h
    obtain ⟨v, s, rfl, g1, g2⟩ := h
    obtain ⟨Ss, d1, d2⟩ := raw_rep g2
    have other : D1 w c v [] → ∃ Ss, DL w (c :: cs) (v :: s) Ss ∧ ∀ b ∈ Ss.flatten, A b := fun h =>
      ⟨[] :: Ss, ⟨v, s, [], Ss, rfl, rfl, h, d1⟩, by simpa using d2⟩
    cases c with
    | d t x =>
      simp only [RepAV] at g1
      obtain ⟨S, hS, hr⟩ := g1
      refine ⟨S :: Ss, ⟨v, s, S, Ss, rfl, rfl, hr, d1⟩, fun b hb => ?_⟩
      simp only [List.flatten_cons, List.mem_append] at hb
      exact hb.elim (hS b) (d2 b)
    | nils => exact other ⟨by simpa only [RepAV] using g1, rfl⟩
    | _ => exact other rfl
theorem killAll_kb : ∀ (ids : List Nat) (st : St), (st.killAll ids).kb = st.kb
  | [], _ => rfl
  | _ :: ids, st => killAll_kb ids _
theorem freeze1_kb (id : Nat) (st : St) : (st.freeze1 id).kb = st.kb := by
  unfold St.freeze1; split <;> rfl
theorem freezeAll_kb : ∀ (ids : List Nat) (st : St), (st.freezeAll ids).kb = st.kb
  | [], _ => rfl
  | id :: ids, st => (freezeAll_kb ids (st.freeze1 id)).trans (freeze1_kb id st)
theorem mat_kb : ∀ (t : Ty) (cs : List AV) (st : St), (t.mat cs st).2.2.kb = st.kb
  | .unit, _, _ => rfl
  | .pair a b, cs, st => by
    simp only [Ty.mat]
    rw [mat_kb b, mat_kb a]
  | .sl _, [], _ => rfl
  | .bool, [], _ => rfl
  | .int _, [], _ => rfl
  | .str, [], _ => rfl
  | .err, [], _ => rfl
  | .bool, _ :: _, _ => rfl
  | .int _, _ :: _, _ => rfl
  | .str, _ :: _, _ => rfl
  | .err, _ :: _, _ => rfl
  | .sl _, c :: _, _ => by cases c <;> rfl
theorem Rep.newNil (h : Rep st w M A W V) (t : Ty) : Rep (st.newLoc (.row t [] true)) w M A (updW W st.nl (some (.nil, []))) V :=
  h.newLoc (Nat.le_refl _) (fun _ _ => rfl) (by simp) (by simp) (.inl ⟨updW_same _ _ _, rfl⟩)
theorem ext_newLoc (h : Rep st w M A W V) {p : LW × List Nat} : ∀ id lw F, W id = some (lw, F) → ∃ F', updW W st.nl (some p) id = some (lw, F') := fun id lw F e => by
  refine ⟨F, ?_⟩
  rw [updW_other (fun e' => ?_), e]
  rw [e', h.fresh st.nl (Nat.le_refl _)] at e; cases e
abbrev Ext (W W' : Wit) : Prop := ∀ id lw F, W id = some (lw, F) → ∃ F', W' id = some (lw, F')
theorem Ext.refl (W : Wit) : Ext W W := fun _ _ F h => ⟨F, h⟩
theorem Ext.trans {W W' W'' : Wit} (h : Ext W W') (h' : Ext W' W'') : Ext W W'' := fun id lw F e => by
  obtain ⟨F', e'⟩ := h id lw F e
  exact h' id lw F' e'
theorem RepL.ext {W' : Wit} (hx : Ext W W') {cs : List AV} {vs : List Value} (h : RepL A W w cs vs) : RepL A W' w cs vs := RepL.mono (fun _ h => h) (fun _ _ => rfl) hx cs vs h
theorem RepAV.ext {W' : Wit} (hx : Ext W W') {c : AV} {v : Value} (h : RepAV A W w c v) : RepAV A W' w c v := RepAV.mono (fun _ h => h) (fun _ _ => rfl) hx c v h
theorem mat_rep : ∀ (t : Ty) {cs : List AV} {vs : List Value} {st : St} {W : Wit}, Rep st w M A W V → RepL A W w cs vs → ∀ xs r st', t.mat cs st = (xs, r, st') → cs.length ≥ t.size →
    ∃ W', Rep st' w M A W' V ∧ Ext W W' ∧ RepL A W' w (xs ++ r) vs ∧ xs.length = t.size ∧ st'.nb = st.nb ∧ st.nl ≤ st'.nl ∧ (∀ j, j < st.nl → W' j = W j)
  | .unit, cs, vs, st, W, h, hr, xs, r, st', e, _ => by
    simp only [Ty.mat, Prod.mk.injEq] at e
    obtain ⟨rfl, rfl, rfl⟩ := e
    exact ⟨W, h, Ext.refl W, hr, rfl, rfl, Nat.le_refl _, fun _ _ => rfl⟩
  | .pair a b, cs, vs, st, W, h, hr, xs, r, st', e, hl => by
    simp only [Ty.mat] at e
    simp only [Ty.size] at hl
    rcases ha : a.mat cs st with ⟨xa, ra, sa⟩
    rcases hb : b.mat ra sa with ⟨xb, rb, sb⟩
    rw [ha] at e; simp only at e
    rw [hb] at e; simp only [Prod.mk.injEq] at e
    obtain ⟨rfl, rfl, rfl⟩ := e
    obtain ⟨W1, h1, x1, r1, l1, n1, m1, k1⟩ := mat_rep a h hr xa ra sa ha (by omega)
    have hlen := RepL.length r1
    have hlen' := RepL.length hr
    -- ra as a list of its own
    have split : ∀ {ys zs : List AV} {us : List Value} {W : Wit}, RepL A W w (ys ++ zs) us → RepL A W w ys (us.take ys.length) ∧ RepL A W w zs (us.drop ys.length) := by
      intro ys
      induction ys with
      | nil => intro zs us W h; exact ⟨by simp [RepL], by simpa using h⟩
      | cons y ys ih =>
        intro zs us W h
        simp only [List.cons_append, RepL] at h
        obtain ⟨v, s, rfl, g1, g2⟩ := h
        obtain ⟨k1, k2⟩ := ih g2
        simp only [List.length_cons, List.take_succ_cons, List.drop_succ_cons, RepL]
        exact ⟨⟨v, _, rfl, g1, k1⟩, k2⟩
    obtain ⟨p1, p2⟩ := split r1
    simp only [List.length_append] at hlen
    obtain ⟨W2, h2, x2, r2, l2, n2, m2, k2⟩ := mat_rep b h1 p2 xb rb sb hb (by omega)
    refine ⟨W2, h2, Ext.trans x1 x2, ?_, by simp [l1, l2, Ty.size], by rw [n2, n1], by omega, fun j hj => by rw [k2 j (by omega), k1 j hj]⟩
    have := RepL.append (RepL.ext x2 p1) r2
    rwa [List.take_append_drop, ← List.append_assoc] at this
  | .sl t, [], vs, st, W, h, hr, xs, r, st', e, hl => by simp [Ty.size] at hl
  | .bool, [], vs, st, W, h, hr, xs, r, st', e, hl => by simp [Ty.size] at hl
  | .int _, [], vs, st, W, h, hr, xs, r, st', e, hl => by simp [Ty.size] at hl
  | .str, [], vs, st, W, h, hr, xs, r, st', e, hl => by simp [Ty.size] at hl
  | .err, [], vs, st, W, h, hr, xs, r, st', e, hl => by simp [Ty.size] at hl
  | .bool, c :: cs, vs, st, W, h, hr, xs, r, st', e, hl => by
    simp only [Ty.mat, Prod.mk.injEq] at e
    obtain ⟨rfl, rfl, rfl⟩ := e
    exact ⟨W, h, Ext.refl W, hr, rfl, rfl, Nat.le_refl _, fun _ _ => rfl⟩
  | .int _, c :: cs, vs, st, W, h, hr, xs, r, st', e, hl => by
    simp only [Ty.mat, Prod.mk.injEq] at e
    obtain ⟨rfl, rfl, rfl⟩ := e
    exact ⟨W, h, Ext.refl W, hr, rfl, rfl, Nat.le_refl _, fun _ _ => rfl⟩
  | .str, c :: cs, vs, st, W, h, hr, xs, r, st', e, hl => by
    simp only [Ty.mat, Prod.mk.injEq] at e
    obtain ⟨rfl, rfl, rfl⟩ := e
    exact ⟨W, h, Ext.refl W, hr, rfl, rfl, Nat.le_refl _, fun _ _ => rfl⟩
  | .err, c :: cs, vs, st, W, h, hr, xs, r, st', e, hl => by
    simp only [Ty.mat, Prod.mk.injEq] at e
    obtain ⟨rfl, rfl, rfl⟩ := e
    exact ⟨W, h, Ext.refl W, hr, rfl, rfl, Nat.le_refl _, fun _ _ => rfl⟩
  | .sl t, c :: cs, vs, st, W, h, hr, xs, r, st', e, hl => by
    cases c with
    | nils =>
      simp only [Ty.mat, Prod.mk.injEq] at e
      obtain ⟨rfl, rfl, rfl⟩ := e
      refine ⟨_, h.newNil t, ext_newLoc h, ?_, rfl, rfl, Nat.le_succ _, fun j hj => updW_other (by omega)⟩
      simp only [RepL] at hr
      obtain ⟨v, s, rfl, g1, g2⟩ := hr
      simp only [List.singleton_append, RepL]
      refine ⟨v, s, rfl, ?_, RepL.ext (ext_newLoc h) g2⟩
      simp only [RepAV] at g1 ⊢
      exact ⟨.nil, [], updW_same _ _ _, fun b e => (by cases e), g1⟩
    | _ =>
      simp only [Ty.mat, Prod.mk.injEq] at e
      obtain ⟨rfl, rfl, rfl⟩ := e
      exact ⟨W, h, Ext.refl W, hr, rfl, rfl, Nat.le_refl _, fun _ _ => rfl⟩
end

end Go.Proofs.Fw
