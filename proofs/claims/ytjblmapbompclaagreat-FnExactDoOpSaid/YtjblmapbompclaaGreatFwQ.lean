/- append. -/
import Derived.Test.YtjblmapbompclaaGreatFwP
import Derived.Deep.AppendSrc
import Derived.Laws.Rows
set_option linter.all false
namespace Go.Proofs.Fw
open Go

section
variable [GInv] {R : Type} {P : Program} {c : Cfg} {X : Ctx} {st : St} {a : Act} {w : World} {A : Nat → Prop} {W : Wit} {V : Nat → Value} {o : Oper} {k : St → Option R} {r : R} {Q : Exit → Act → World → Prop}
theorem setCells_other (b : Nat) : ∀ (vs : List Value) (o : Nat) (w : World) (k : Nat), k ≠ b → (w.setCells b o vs).heap[k]? = w.heap[k]?
  | [], _, _, _, _ => rfl
  | v :: r, o, w, k, h => by rw [World.setCells, setCells_other b r _ _ k h, heap_setCell_other _ _ _ _ h]
theorem setCells_kept {M : Nat → Prop} (b : Nat) (hM : M b) : ∀ (vs : List Value) (o : Nat) (w : World), Kept M w (w.setCells b o vs)
  | [], _, w => Kept.refl M w
  | v :: r, o, w => by
    refine Kept.trans (b := w.setCell ⟨b, o, none⟩ v) ⟨rfl, rfl, rfl, by simp, fun c _ hc => heap_setCell_other _ _ _ _ (fun e => hc (by rw [e]; exact hM))⟩ ?_
    exact setCells_kept b hM r (o + 1) _
theorem setCells_size (b : Nat) : ∀ (vs : List Value) (o : Nat) (w : World), (w.setCells b o vs).heap.size = w.heap.size
  | [], _, _ => rfl
  | v :: r, o, w => by rw [World.setCells, setCells_size b r]; simp
theorem RdRow.cells1 {t : Ty} {b : Nat} {d : Bool} : ∀ {xs : List t.den} {off : Nat} {S : List Nat}, RdRow (ERd d w t) w b t.size off xs S → ∃ cs, cs.length = xs.length * t.size ∧ Seg w b off cs ∧ ∀ v ∈ cs, v.oneCell' = true
  | [], off, _, _ => ⟨[], by simp, Seg.nil _ _ _, by simp⟩
  | x :: xs, off, S, ⟨S1, S2, cs, e, hl, hs, hx, hr⟩ => by
    obtain ⟨ds, h1, h2, h3⟩ := RdRow.cells1 hr
    refine ⟨cs ++ ds, by simp [hl, h1, Nat.add_mul]; omega, hs.append (by rw [hl]; exact h2), fun v hv => ?_⟩
    rcases List.mem_append.1 hv with h | h
    · exact Rd.one t hx.rd v h
    · exact h3 v h
theorem RdRow.flat {t : Ty} {b : Nat} {d : Bool} (hf : t.flat = true) : ∀ {xs : List t.den} {off : Nat} {S : List Nat}, RdRow (ERd d w t) w b t.size off xs S → S = []
  | [], _, _, h => h
  | x :: xs, off, S, ⟨S1, S2, cs, e, hl, hs, hx, hr⟩ => by
    rw [e, Rd.flat t hf hx.rd, RdRow.flat hf hr]; rfl
theorem src_of_rd {d : Bool} {t : Ty} {ys : List t.den} {S : List Nat} {x : Value} (h : ERd d w (.sl t) ys S [x]) {tx e' : TypeId} (hk : P.underlying tx = some (.slice e')) :
    ∃ S2 news, Src P t.size tx x ys.length news w ∧ (∀ c ∈ S2, c ∈ S) ∧ (S.Nodup → S2.Nodup) ∧ (t.flat = true → S2 = []) ∧
      ∀ (w' : World) (b' off' : Nat), Seg w' b' off' news → (∀ c ∈ S2, w'.heap[c]? = w.heap[c]?) → RdRow (ERd d w' t) w' b' t.size off' ys S2 := by
  rcases h.sl with ⟨rfl, rfl, ad, e⟩ | ⟨b, off, cap, S', rfl, e, hcap, hr⟩
  · simp only [List.cons.injEq, and_true] at e
    subst e
    cases ad with
    | none => exact ⟨[], [], Src.ofNil w hk 0, by simp, fun h => h, fun _ => rfl, fun _ _ _ _ _ => rfl⟩
    | some ad => exact ⟨[], [], Src.ofSlice w hk ad 0 0 [] (by simp) (by simp) (by simp), by simp, fun h => h, fun _ => rfl, fun _ _ _ _ _ => rfl⟩
  · simp only [List.cons.injEq, and_true] at e
    subst e
    obtain ⟨cs, h1, h2, h3⟩ := hr.cells1
    refine ⟨S', cs, Src.ofSlice w hk ⟨b, off, none⟩ ys.length cap cs h1 (fun j u hj => ?_) h3, fun c hc => by simp [hc], fun h => (List.nodup_cons.1 h).2, fun hf => hr.flat hf, fun w' b' off' hs hh => ?_⟩
    · obtain ⟨hlt, rfl⟩ := List.getElem?_eq_some_iff.1 hj
      rw [add_mk]; exact h2 j hlt
    · exact RdRow.move cs h1 h2 hs (fun x S'' ds hsub hx => ERd.mono t (fun c hc => hh c (hsub c hc)) hx) hr
theorem append_core (hi : Inv X st a w A W V) {id : Nat} {t : Ty} {xs ys : List t.den} {dp dn : Bool} {lw : LW} {F : List Nat} (hW : W id = some (lw, F)) (hnb : ∀ b, lw ≠ .box b) (hl : st.loc id = some (.row t xs dp)) (hdn : dn = dp ∨ t.flat = true)
    {x : Value} {S2 : List Nat} {news : List Value} {tx T ty e : TypeId} {ie : TypeInfo} {ze : Value} (hu : P.underlying T = some (.slice e)) (hie : P.info? e = some ie) (hsz : ie.size = t.size) (hby : ie.bytes ≤ 65536) (hze : ie.zero = some ze) (hzsz : ze.cells.size = t.size)
    (hs : Src P t.size tx x ys.length news w) (hfl : t.flat = true → S2 = [])
    (hmv : ∀ (w' : World) (b' off' : Nat), Seg w' b' off' news → (∀ c ∈ S2, w'.heap[c]? = w.heap[c]?) → RdRow (ERd dn w' t) w' b' t.size off' ys S2)
    (hF2 : Free X w A W (if dn then S2 else [])) (hS2 : dn = false → ∀ c ∈ S2, A c) (hg : xs.length + ys.length ≤ 268435456) :
    ∃ v w' W', (Builtin.append_ #[T, tx] ty #[lw.val, x]).run P w = .ok v w' ∧ Inv X ((st.ev (.kill id)).ev (.loc id (.row t (xs ++ ys) dn))) a w' A W' V ∧ RepAV A W' w' (.row id) v := by
  have hr := hi.rep
  have hlen : (xs ++ ys).length = xs.length + ys.length := List.length_append
  have hnl := hs.newsLen
  have hS2o : ∀ c ∈ S2, c < w.heap.size := fun c hc => by
    cases dn with
    | true => exact (hF2.own c (by simpa using hc)).1
    | false => exact hr.ltA c (hS2 rfl c hc)
  -- what the elder row held
  obtain ⟨S1, hS1f, hS1A, hS1lt, hdis⟩ : ∃ S1, (∀ b ∈ F, b ∉ S1 ∨ dn = true) ∧ (dn = false → ∀ c ∈ S1, A c) ∧ (∀ c ∈ S1, c < w.heap.size) ∧
      ((lw = .nil ∧ xs = [] ∧ S1 = []) ∨ ∃ b off cap, lw = .row b off t.size xs.length cap ∧ F = b :: (if dp = true then S1 else []) ∧ xs.length ≤ cap ∧ (∀ i, i < cap * t.size → (w.cell? ⟨b, off + i, none⟩).isSome = true) ∧ NFr w b off cap t.size ∧
        RdRow (ERd dn w t) w b t.size off xs S1 ∧ b ∉ S1 ∧ (dn = true → S1.Nodup ∧ ∀ c ∈ S1, c ∈ F)) := by
    rcases hr.locs id _ _ hW hl with ⟨g1, g2⟩ | ⟨b, off, cap, S', g1, g2, g3, g4, g5, g6⟩
    · rw [hW] at g1
      simp only [Option.some.injEq, Prod.mk.injEq] at g1
      exact ⟨[], by simp, by simp, by simp, .inl ⟨g1.1, g2, rfl⟩⟩
    · rw [hW] at g1
      simp only [Option.some.injEq, Prod.mk.injEq] at g1
      obtain ⟨rfl, rfl⟩ := g1
      have nd := hr.nodup id _ _ hW
      have own := hr.own id _ _ hW
      have hflat : t.flat = true → S' = [] := fun hf => g5.flat hf
      have hA' : dn = false → ∀ c ∈ S', A c := fun e c hc => by
        rcases hdn with h | h
        · exact g6 (by rw [← h]; exact e) c hc
        · rw [hflat h] at hc; cases hc
      have hb' : b ∉ S' := fun h => by
        cases dp with
        | true => simp at nd; exact nd.1 h
        | false => exact (own b (by simp)).2.2 (g6 rfl b h)
      have hdeep : dn = true → S'.Nodup ∧ ∀ c ∈ S', c ∈ b :: (if dp = true then S' else []) := fun e => by
        rcases hdn with h | h
        · have : dp = true := by rw [← h]; exact e
          subst this
          simp at nd ⊢
          exact ⟨nd.2, fun c hc => .inr hc⟩
        · rw [hflat h]; simp
      refine ⟨S', fun c hc => ?_, hA', fun c hc => ?_, .inr ⟨b, off, cap, rfl, rfl, g2, g3, g4, g5.imp fun _ _ _ h => h.weak t (fun e => hdn.imp (fun h => by rw [← h]; exact e) (fun h => h)), hb', hdeep⟩⟩
      · cases hdn' : dn with
        | true => exact .inr rfl
        | false => exact .inl (fun h => (own c hc).2.2 (hA' hdn' c h))
      · cases hdn' : dn with
        | true => exact (own c ((hdeep hdn').2 c hc)).1
        | false => exact hr.ltA c (hA' hdn' c hc)
  -- what is taken from the elder one, and what comes in
  have inF : ∀ c ∈ (if dn = true then S1 ++ S2 else []), dn = true ∧ (c ∈ F ∨ c ∈ S2) := fun c hc => by
    cases dn with
    | false => simp at hc
    | true =>
      simp at hc
      refine ⟨rfl, hc.imp (fun h => ?_) (fun h => h)⟩
      rcases hdis with ⟨_, _, e⟩ | ⟨_, _, _, _, _, _, _, _, _, _, hd⟩
      · rw [e] at h; cases h
      · exact (hd rfl).2 c h
  have ownIn : ∀ c ∈ (if dn = true then S1 ++ S2 else []), c < w.heap.size ∧ X.M c ∧ ¬ A c := fun c hc => by
    obtain ⟨e, h | h⟩ := inF c hc
    · exact hr.own id _ _ hW c h
    · exact hF2.own c (by simp [e, h])
  have apIn : ∀ j lwj Fj, j ≠ id → W j = some (lwj, Fj) → ∀ c ∈ (if dn = true then S1 ++ S2 else []), c ∉ Fj := fun j lwj Fj hj ej c hc => by
    obtain ⟨e, h | h⟩ := inF c hc
    · exact hr.apart id j _ _ _ _ (Ne.symm hj) hW ej c h
    · exact hF2.apart j lwj Fj ej c (by simp [e, h])
  have ndIn : (if dn = true then S1 ++ S2 else []).Nodup := by
    cases hdn' : dn with
    | false => simp
    | true =>
      have h2 := hF2.nodup
      simp only [hdn', if_true] at h2 ⊢
      rcases hdis with ⟨_, _, e⟩ | ⟨_, _, _, _, _, _, _, _, _, _, hd⟩
      · rw [e]; simpa using h2
      · obtain ⟨n1, n2⟩ := hd hdn'
        rw [List.nodup_append]
        exact ⟨n1, h2, fun c hc d hd e => hF2.apart id _ _ hW d (by simp [hdn', hd]) (by rw [← e]; exact n2 c hc)⟩
  have hA12 : dn = false → ∀ c ∈ S1 ++ S2, A c := fun e c hc => by
    rcases List.mem_append.1 hc with h | h
    · exact hS1A e c h
    · exact hS2 e c h
  -- the arm that lays a new row
  have grow : ∀ (base : Option Addr) (cap : Nat) (olds : List Value), lw.val = .slice base xs.length cap → cap < xs.length + ys.length → olds.length = xs.length * t.size →
      (Builtin.firstCells ie.size xs.length (.slice base xs.length cap)).run P w.drew = .ok olds.toArray w.drew →
      (∀ (w' : World) (b' off' : Nat), Seg w' b' off' olds → (∀ c ∈ S1, w'.heap[c]? = w.heap[c]?) → RdRow (ERd dn w' t) w' b' t.size off' xs S1) →
      ∃ v w' W', (Builtin.append_ #[T, tx] ty #[lw.val, x]).run P w = .ok v w' ∧ Inv X ((st.ev (.kill id)).ev (.loc id (.row t (xs ++ ys) dn))) a w' A W' V ∧ RepAV A W' w' (.row id) v := fun base cap olds hv hgt hol hfirst hmo => by
    have hfit : Builtin.nextslicecap (xs.length + ys.length) cap * ie.bytes ≤ 281474976710656 := growslice_fits hgt (by
      have : (xs.length + ys.length) * ie.bytes ≤ 268435456 * 65536 := Nat.mul_le_mul hg hby
      omega)
    have run := run_append_grow_src (P := P) w T tx ty e ie ze hu hie hze base xs.length cap olds hfirst x ys.length news (by rw [hsz]; exact hs) hgt (by omega) hfit
    rw [← hv] at run
    have hge := grownCap_ge w (xs.length + ys.length) cap e
    have hgmax := grownCap_le_maxLen w (xs.length + ys.length) cap e (by unfold maxLen; omega)
    generalize grownCap w (xs.length + ys.length) cap e = g at run hge hgmax
    have hgmax : g ≤ 9223372036854775807 := by unfold maxLen at hgmax; omega
    let cells : Array Value := (olds ++ news).toArray ++ Builtin.zeroCells ze.cells (g - (xs.length + ys.length))
    have hw' : w.drew.alloc (.cells ((olds ++ news).toArray ++ Builtin.zeroCells ze.cells (g - (xs.length + ys.length))) e) = mkW w.drew (.cells cells e) := rfl
    rw [hw'] at run
    have hold : ∀ b, b < w.heap.size → (mkW w.drew (.cells cells e)).heap[b]? = w.heap[b]? := fun b hb => mkW_old w.drew _ b hb
    have hcsz : cells.size = g * t.size := by
      simp only [cells, Array.size_append, List.size_toArray, List.length_append, hol, hnl, Builtin.zeroCells, Array.size_map, Array.size_range, hzsz]
      rw [← Nat.add_mul, ← Nat.add_mul]
      congr 1; omega
    have hseg : Seg (mkW w.drew (.cells cells e)) w.heap.size 0 (olds ++ news) := fun i hi' => by
      have : (mkW w.drew (.cells cells e)).cell? ⟨w.heap.size, 0 + i, none⟩ = cells[0 + i]? := mkW_cell w.drew cells e (0, 0) (0 + i)
      rw [this]
      simp only [cells, Nat.zero_add]
      rw [Array.getElem?_append_left (by simpa using hi')]
      simp
    have hkept : Kept X.M w (mkW w.drew (.cells cells e)) := ⟨rfl, rfl, rfl, by rw [mkW_size]; exact Nat.le_succ _, fun b hb _ => hold b hb⟩
    have hsize : (mkW w.drew (.cells cells e)).heap.size = w.heap.size + 1 := mkW_size w.drew _
    have hrow : RdRow (ERd dn (mkW w.drew (.cells cells e)) t) (mkW w.drew (.cells cells e)) w.heap.size t.size 0 (xs ++ ys) (S1 ++ S2) := by
      refine RdRow.append (hmo _ _ _ hseg.left (fun c hc => hold c (hS1lt c hc))) (hmv _ _ _ ?_ (fun c hc => hold c (hS2o c hc)))
      have := hseg.right
      rwa [hol] at this
    obtain ⟨W', h1, h2, h3⟩ := hi.rerow (lw' := .row w.heap.size 0 t.size (xs ++ ys).length g) (F' := w.heap.size :: (if dn = true then S1 ++ S2 else [])) (l := .row t (xs ++ ys) dn) hW hnb hkept (fun b hb _ => hold b hb)
      (List.nodup_cons.2 ⟨fun h => by have := (ownIn _ h).1; omega, ndIn⟩)
      (fun b hb => by
        rcases List.mem_cons.1 hb with rfl | hb
        · exact ⟨by omega, hi.newM (Nat.le_refl _), fun h => by have := hr.ltA _ h; omega⟩
        · obtain ⟨q1, q2⟩ := ownIn b hb
          exact ⟨by omega, q2⟩)
      (fun j lwj Fj hj ej b hb => by
        rcases List.mem_cons.1 hb with rfl | hb
        · exact fun h => by have := (hr.own j _ _ ej _ h).1; omega
        · exact apIn j lwj Fj hj ej b hb)
      (fun W' e1 _ => .inr ⟨w.heap.size, 0, g, S1 ++ S2, e1, by rw [hlen]; exact hge, fun i hi' => by
          have : (mkW w.drew (.cells cells e)).cell? ⟨w.heap.size, 0 + i, none⟩ = cells[0 + i]? := mkW_cell w.drew cells e (0, 0) (0 + i)
          rw [this, Array.getElem?_eq_getElem (by omega)]; rfl,
        ⟨fun i hi' => mkW_frozen w.drew cells e (0, 0) (0 + i) (by simp), fun _ => ⟨fun i => mkW_frozen w.drew cells e (0, 0) i (by simp), hgmax⟩⟩, hrow, hA12⟩)
    refine ⟨_, _, W', run, h1, ?_⟩
    simp only [RepAV]
    exact ⟨_, _, h2, fun b e => (by cases e), by simp only [LW.val, hlen]⟩
  rcases hdis with ⟨rfl, rfl, rfl⟩ | ⟨b, off, cap, rfl, hF, hcap, hcells, hnf, hrow, hbS, hd⟩
  · -- nil
    rcases Nat.eq_zero_or_pos ys.length with h0 | hp
    · have hy : ys = [] := List.eq_nil_of_length_eq_zero h0
      subst hy
      have hn : news = [] := List.eq_nil_of_length_eq_zero (by rw [hnl]; simp)
      subst hn
      have run : (Builtin.append_ #[T, tx] ty #[LW.nil.val, x]).run P w = .ok (.slice none 0 0) w := by
        have h1 := hs.cells
        have h2 := hs.len
        simp only [List.length_nil] at h1 h2
        rcases hs.kind with ⟨e', hk⟩ | hk <;> simp [LW.val, Builtin.append_, run_underlying hu, run_underlying hk, sizeOf, typeInfo, hie, h2, hsz, h1]
      obtain ⟨W', h1, h2, h3⟩ := hi.rerow (lw' := .nil) (F' := []) (l := .row t ([] ++ []) dn) hW hnb (Kept.refl _ _) (fun _ _ _ => rfl) (by simp) (by simp) (by simp) (fun W' e1 _ => .inl ⟨e1, rfl⟩)
      exact ⟨_, _, W', run, h1, by simp only [RepAV]; exact ⟨.nil, [], h2, fun b e => (by cases e), rfl⟩⟩
    · exact grow none 0 [] rfl (by simpa using hp) (by simp) (run_firstCells_none w.drew _ 0 0 0) (fun _ _ _ _ _ => rfl)
  · rcases Nat.lt_or_ge cap (xs.length + ys.length) with hgt | hle
    · obtain ⟨olds, ho1, ho2, ho3⟩ := hrow.cells1
      refine grow _ cap olds rfl hgt ho1 ?_ (fun w' b' off' hs' hh => RdRow.move olds ho1 ho2 hs' (fun x S'' ds hsub hx => ERd.mono t (fun c hc => hh c (hsub c hc)) hx) hrow)
      rw [hsz]
      exact run_firstCells_some w.drew _ _ _ _ _ olds ho1 (fun j u hj => by
        obtain ⟨hlt, rfl⟩ := List.getElem?_eq_some_iff.1 hj
        rw [add_mk]; exact ho2 j hlt)
    · -- room
      have hmul : xs.length * t.size + ys.length * t.size ≤ cap * t.size := by rw [← Nat.add_mul]; exact Nat.mul_le_mul_right _ hle
      have run := run_append_room_src (P := P) w T tx ty e ie hu hie b off xs.length cap x ys.length news (by rw [hsz]; exact hs) hle
        (fun j hj => by rw [hsz, Nat.add_assoc]; exact hcells _ (by omega)) (fun j hj => by rw [hsz, Nat.add_assoc]; exact hnf.1 _ (by omega))
      rw [hsz] at run
      have hbF : b ∈ F := by rw [hF]; simp
      obtain ⟨hb1, hb2, hb3⟩ := hr.own id _ _ hW b hbF
      have hother : ∀ c, c ≠ b → (w.setCells b (off + xs.length * t.size) news).heap[c]? = w.heap[c]? := fun c hc => setCells_other b news _ w c hc
      have hb2S : b ∉ S2 := fun h => by
        cases hdn' : dn with
        | true => exact hF2.apart id _ _ hW b (by simp [hdn', h]) hbF
        | false => exact hb3 (hS2 hdn' b h)
      have hsize := setCells_size b news (off + xs.length * t.size) w
      obtain ⟨olds, ho1, ho2, ho3⟩ := hrow.cells1
      have hrow' : RdRow (ERd dn (w.setCells b (off + xs.length * t.size) news) t) (w.setCells b (off + xs.length * t.size) news) b t.size off (xs ++ ys) (S1 ++ S2) := by
        refine RdRow.append ?_ (hmv _ _ _ (fun i hi' => World.cell?_setCells_in b news _ w (fun j hj => by rw [Nat.add_assoc]; exact hcells _ (by omega)) i hi') (fun c hc => hother c (fun e => by subst e; exact hb2S hc)))
        refine RdRow.move olds ho1 ho2 (fun i hi' => ?_) (fun x S'' ds hsub hx => ERd.mono t (fun c hc => hother c (fun e => by subst e; exact hbS (hsub c hc))) hx) hrow
        rw [World.cell?_setCells_out b news _ w _ (fun _ _ => .inl (by simp only; omega))]
        exact ho2 i hi'
      have hbF' : b ∉ (if dn = true then S1 ++ S2 else []) := fun h => by
        cases hdn' : dn with
        | false => simp [hdn'] at h
        | true => simp [hdn'] at h; exact h.elim hbS hb2S
      obtain ⟨W', h1, h2, h3⟩ := hi.rerow (lw' := .row b off t.size (xs ++ ys).length cap) (F' := b :: (if dn = true then S1 ++ S2 else [])) (l := .row t (xs ++ ys) dn) hW hnb (setCells_kept b hb2 _ _ _)
        (fun c _ hc => hother c (fun e => hc (by simp [e])))
        (List.nodup_cons.2 ⟨hbF', ndIn⟩)
        (fun c hc => by
          rcases List.mem_cons.1 hc with rfl | hc
          · exact ⟨by omega, hb2, hb3⟩
          · obtain ⟨q1, q2⟩ := ownIn c hc
            exact ⟨by omega, q2⟩)
        (fun j lwj Fj hj ej c hc => by
          rcases List.mem_cons.1 hc with rfl | hc
          · exact hr.apart id j _ _ _ _ (Ne.symm hj) hW ej _ hbF
          · exact apIn j lwj Fj hj ej c hc)
        (fun W' e1 _ => .inr ⟨b, off, cap, S1 ++ S2, e1, by rw [hlen]; exact hle, fun i hi' => by
            by_cases hin : xs.length * t.size ≤ i ∧ i < xs.length * t.size + news.length
            · have := World.cell?_setCells_in b news (off + xs.length * t.size) w (fun j hj => by rw [Nat.add_assoc]; exact hcells _ (by omega)) (i - xs.length * t.size) (by omega)
              rw [show off + i = off + xs.length * t.size + (i - xs.length * t.size) by omega, this]; rfl
            · rw [World.cell?_setCells_out b news _ w _ (fun _ _ => by simp only; omega)]; exact hcells i hi',
          hnf.of fun i => World.frozen?_setCells _ _ _ _ _, hrow', hA12⟩)
      refine ⟨_, _, W', run, h1, ?_⟩
      simp only [RepAV]
      exact ⟨_, _, h2, fun b e => (by cases e), by simp only [LW.val, hlen]⟩

end
end Go.Proofs.Fw
