/- Rows handed over and given back shorter or longer: the contracts' form of slices.Delete and slices.Insert at flat elements. -/
import Derived.Test.YtjblmapbompclaaGreatFwZi
import Derived.Laws.IdiomCopy
set_option linter.all false
namespace Go.Proofs.Fw
open Go Go.RowKit
set_option linter.all false
theorem run_copyK {P : Program} (w : World) (dT sT ty elem : TypeId) (k b o dLen dCap : Nat) (a : Addr) (sLen sCap n : Nat) (cs : List Value)
    (hu : P.underlying dT = some (.slice elem)) (hs : (P.info? elem).map (·.size) = some k) (hm : Nat.min sLen dLen = n) (hn : cs.length = n * k)
    (hsrc : ∀ j v, cs[j]? = some v → w.cell? (a.add j) = some v) (hc : ∀ j, j < cs.length → (w.cell? ⟨b, o + j, none⟩).isSome = true) (hf : ∀ j, j < cs.length → w.frozen? ⟨b, o + j, none⟩ = false) (h1 : ∀ v ∈ cs, v.oneCell' = true) :
    (Builtin.copy_ #[dT, sT] ty #[.slice (some ⟨b, o, none⟩) dLen dCap, .slice (some a) sLen sCap]).run P w = .ok (goInt n) (w.setCells b o cs) := by
  have hl := run_loadCells_list (P := P) w a cs hsrc
  have hst := run_storeCells_cells (P := P) b o cs 0 w (by simpa using hc) (by simpa using hf) h1
  cases hq : P.info? elem with
  | none => simp [hq] at hs
  | some i =>
    have hi : i.size = k := by simpa [hq] using hs
    simp [Builtin.copy_, run_underlying hu, Builtin.lenOf, Builtin.firstCells, sizeOf, typeInfo, hq, hi, hm, ← hn, hl, hst]
theorem run_clearK {P : Program} (w : World) (t e ty : TypeId) (z : Value) (ht : P.underlying t = some (.slice e)) (hv : ∀ w, (zeroValue e).run P w = .ok z w) (b o n c : Nat) (hn : 0 < n)
    (hc : ∀ j, j < (Builtin.zeroCells z.cells n).toList.length → (w.cell? ⟨b, o + j, none⟩).isSome = true) (hf : ∀ j, j < (Builtin.zeroCells z.cells n).toList.length → w.frozen? ⟨b, o + j, none⟩ = false)
    (h1 : ∀ v ∈ (Builtin.zeroCells z.cells n).toList, v.oneCell' = true) :
    (Builtin.clear_ #[t] ty #[.slice (some ⟨b, o, none⟩) n c]).run P w = .ok (.tuple #[]) (w.setCells b o (Builtin.zeroCells z.cells n).toList) := by
  have hst := run_storeCells_cells (P := P) b o (Builtin.zeroCells z.cells n).toList 0 w (by simpa using hc) (by simpa using hf) h1
  simp only [Nat.add_zero] at hst
  obtain ⟨m, rfl⟩ : ∃ m, n = m + 1 := ⟨n - 1, by omega⟩
  simp [Builtin.clear_, run_underlying ht, hv, hst]
theorem run_overlaps_own {P : Program} (w : World) (tS tR elem : TypeId) (ht : P.underlying tS = some (.slice elem)) (size : Nat) (hz : ∀ w, (Go.sizeOf elem).run P w = .ok size w)
    (va vo b o la ca lb cb : Nat) (hne : va ≠ b) (hca : (w.cell? ⟨va, vo, none⟩).isSome = true) (hcb : (w.cell? ⟨b, o, none⟩).isSome = true) (hfb : ∀ i, w.frozen? ⟨b, i, none⟩ = false) :
    (Extern.SlicesOverlaps.overlaps #[tS, tS] #[tR] #[.slice (some ⟨va, vo, none⟩) la ca, .slice (some ⟨b, o, none⟩) lb cb]).run P w = .ok (.bool false) w := by
  obtain ⟨tA, kA, hsa, hA0⟩ : ∃ tA kA, w.shape? va = some (tA, kA) ∧ kA ≠ 0 := by
    simp only [World.cell?] at hca
    unfold World.shape?
    cases e : w.heap[va]? with
    | none => rw [e] at hca; cases hca
    | some ob =>
      rw [e] at hca
      cases ob with
      | cells c el fz => exact ⟨el, c.size, rfl, fun h => by simp [Array.size_eq_zero_iff.1 h] at hca⟩
      | _ => cases hca
  obtain ⟨tB, kB, hsb, hB0⟩ : ∃ tB kB, w.shape? b = some (tB, kB) ∧ kB ≠ 0 := by
    simp only [World.cell?] at hcb
    unfold World.shape?
    cases e : w.heap[b]? with
    | none => rw [e] at hcb; cases hcb
    | some ob =>
      rw [e] at hcb
      cases ob with
      | cells c el fz => exact ⟨el, c.size, rfl, fun h => by simp [Array.size_eq_zero_iff.1 h] at hcb⟩
      | _ => cases hcb
  have hnb : (va != b) = true := by simpa using hne
  have hnb' : (va == b) = false := by simpa using hne
  change Sem.run P (α := Value) (do
    let some t := (#[tS, tS] : Array TypeId)[0]? | stuck "slices.overlaps: no parameter types"
    let .slice elem ← underlying t | stuck "slices.overlaps: slice type expected"
    let size ← sizeOf elem
    match (some ⟨va, vo, none⟩ : Option Addr), (some ⟨b, o, none⟩ : Option Addr) with
    | some a, some b =>
      if la = 0 ∨ lb = 0 ∨ size = 0 then pure (Value.bool false)
      else if a.block != b.block && (← frozen a) && (← frozen b) then unsupported .addressObserved
      else do
        if a.block != b.block then do
          noView a; noView b
          if ← mayBeOne a b then return Value.bool ((← choose (.extern "sameAddr.stringBytes" 2)) == 1)
        pure (Value.bool (a.block == b.block && a.off < b.off + lb * size && b.off < a.off + la * size))
    | _, _ => pure (Value.bool false)) w = _
  by_cases h0 : la = 0 ∨ lb = 0 ∨ size = 0
  · simp [run_underlying ht, hz, h0]
  · have hA1 : ∃ m, kA = m + 1 := ⟨kA - 1, by omega⟩
    have hB1 : ∃ m, kB = m + 1 := ⟨kB - 1, by omega⟩
    obtain ⟨mA, rfl⟩ := hA1
    obtain ⟨mB, rfl⟩ := hB1
    have hf := fun i => hfb i
    cases hfa : w.frozen? ⟨va, vo, none⟩ <;> cases hfe : w.frozen? ⟨va, mA + 1, none⟩ <;>
      simp [run_underlying ht, hz, h0, hnb, hnb', frozen, noView, viewAt, mayBeOne, stringish, shape, Sem.run, hsa, hsb, hf, hfa, hfe]

variable {α : Type}
def delF (xs : List α) (i j : Int) : Option ((List α × Unit) × Unit) := bif decide (0 ≤ i) && decide (i < xs.length) && decide (j = i + 1) then some ((xs.take i.toNat ++ xs.drop (i.toNat + 1), ()), ()) else none
def insF (xs : List α) (i : Int) (ys : List α) : Option ((List α × Unit) × Unit) := bif decide (0 ≤ i) && decide (i ≤ xs.length) && Nat.beq ys.length 1 && Nat.ble (xs.length + 1) maxGrow then some ((xs.take i.toNat ++ (ys ++ xs.drop i.toNat), ()), ()) else none

section
variable [GInv]
theorem own_flat {w : World} {t : Ty} (hf : t.flat = true) {xs : List t.den} {S : List Nat} {v : Value} (h : OwnRd w (.sl t) xs S [v]) :
    (xs = [] ∧ S = [] ∧ v = .slice none 0 0) ∨ ∃ b off cap, S = [b] ∧ v = .slice (some ⟨b, off, none⟩) xs.length cap ∧ xs.length ≤ cap ∧ (∀ i, i < cap * t.size → (w.cell? ⟨b, off + i, none⟩).isSome = true) ∧ NFr w b off cap t.size ∧ RdRow (ERd true w t) w b t.size off xs [] := by
  simp only [OwnRd] at h
  rcases h with ⟨h1, h2, h3⟩ | ⟨b, off, cap, S', rfl, h2, h3, h4, h5, h6⟩
  · exact .inl ⟨h1, h2, (List.cons.inj h3).1⟩
  · have h7 : RdRow (ERd true w t) w b t.size off xs S' := h6.imp fun _ _ _ h => ERd.of_flat t hf (OwnRd.rd t h)
    have := h7.flat hf
    subst this
    exact .inr ⟨b, off, cap, rfl, (List.cons.inj h2).1, h3, h4, h5, h7⟩
theorem flat_own {w : World} {t : Ty} {xs : List t.den} {b off cap : Nat} (h1 : xs.length ≤ cap) (h2 : ∀ i, i < cap * t.size → (w.cell? ⟨b, off + i, none⟩).isSome = true) (h3 : NFr w b off cap t.size) (h4 : RdRow (ERd true w t) w b t.size off xs []) :
    OwnRd w (.sl t) xs [b] [.slice (some ⟨b, off, none⟩) xs.length cap] := by
  simp only [OwnRd]
  exact .inr ⟨b, off, cap, [], rfl, rfl, h1, h2, h3, h4.imp fun _ _ _ h => h⟩
theorem row_put {w w' : World} {t : Ty} (hf : t.flat = true) {xs : List t.den} {b off b' off' : Nat} {S : List Nat} {cs : List Value} (h : RdRow (ERd true w t) w b t.size off xs S) (hl : cs.length = xs.length * t.size) (hs : Seg w b off cs) (hs' : Seg w' b' off' cs) :
    RdRow (ERd true w' t) w' b' t.size off' xs [] := by
  have := h.flat hf
  subst this
  exact h.move cs hl hs hs' fun x S' ds hS hx => ERd.mono t (fun c hc => by cases hS c hc) hx

end

section
variable [GInv] {P : Program} {g : Nat}
def DelRaw (P : Program) (g k : Nat) : Prop := ∀ (b off cap n i : Nat) (c1 ci c2 : List Value) (w : World), i < n → n ≤ cap → c1.length = i * k → ci.length = k → c2.length = (n - (i + 1)) * k →
  Seg w b off (c1 ++ (ci ++ c2)) → (∀ v ∈ c1 ++ (ci ++ c2), v.oneCell' = true) → (∀ j, j < cap * k → (w.cell? ⟨b, off + j, none⟩).isSome = true) → NFr w b off cap k →
  Calls P g #[.slice (some ⟨b, off, none⟩) n cap, .int .i64 i, .int .i64 ((i : Int) + 1)] w fun e w' => e = .returned (.slice (some ⟨b, off, none⟩) (n - 1) cap) ∧ Kept (fun c => c = b) w w' ∧ w'.heap.size = w.heap.size ∧
    (∀ j, j < cap * k → (w'.cell? ⟨b, off + j, none⟩).isSome = true) ∧ NFr w' b off cap k ∧ Seg w' b off (c1 ++ c2)
theorem ok_delete (hc : Callable P g) {t : Ty} (hf : t.flat = true) (h : DelRaw P g t.size) :
    Ok P g { ins := [.take false (.sl t), .val false (.int .i64), .val false (.int .i64)], outs := [⟨false, .sl t, true⟩], F := fun x => delF x.1 x.2.1 x.2.2.1 } := by
  refine ⟨hc, fun w vs x y bs B hJw hS hargs hB nd hbs hy => ?_⟩
  obtain ⟨v, us, Ss, bs0, rfl, rfl, h1, v2, us2, S2, rfl, g1, g2, v3, us3, S3, rfl, k1, k2, rfl, rfl⟩ := hargs
  simp only [ValRd, Bool.false_eq_true, if_false, Rd] at g1 k1
  obtain ⟨rfl, g1⟩ := g1
  obtain ⟨rfl, k1⟩ := k1
  obtain rfl : v2 = .int .i64 x.2.1 := (List.cons.inj g1).1
  obtain rfl : v3 = .int .i64 x.2.2.1 := (List.cons.inj k1).1
  simp only [OwnLV, Bool.false_eq_true, if_false, OwnL] at h1
  obtain ⟨S, rfl, h1⟩ := h1
  have hy : delF x.1 x.2.1 x.2.2.1 = some y := hy
  unfold delF at hy
  obtain ⟨hr, hy⟩ := cond_some hy
  have hy := Option.some.inj hy
  subst hy
  simp only [Bool.and_eq_true, decide_eq_true_eq] at hr
  obtain ⟨⟨hr1, hr2⟩, hr3⟩ := hr
  rw [hr3]
  rcases own_flat hf h1 with ⟨e1, _, _⟩ | ⟨b, off, cap, rfl, rfl, hcap, hcells, hnf, hrow⟩
  · rw [e1] at hr2; simp at hr2; omega
  · obtain ⟨i, hi⟩ : ∃ i : Nat, x.2.1 = i := ⟨x.2.1.toNat, (Int.toNat_of_nonneg hr1).symm⟩
    rw [hi] at hr2 ⊢
    have hin : i < x.1.length := by omega
    have hxs : x.1 = x.1.take i ++ (x.1[i] :: x.1.drop (i + 1)) := by simp
    have hrow' := hrow
    rw [hxs] at hrow'
    obtain ⟨Sa, Sb, e1, r1, r2⟩ := hrow'.split
    obtain ⟨rfl, rfl⟩ := List.append_eq_nil_iff.1 e1.symm
    have hlen : (x.1.take i).length = i := by simp; omega
    rw [hlen] at r2
    obtain ⟨Sc, Sd, ci, e2, l2, s2, x2, r3⟩ := r2
    obtain ⟨rfl, rfl⟩ := List.append_eq_nil_iff.1 e2.symm
    obtain ⟨c1, l1, s1, o1⟩ := r1.cells1
    obtain ⟨c2, l3, s3, o3⟩ := r3.cells1
    rw [hlen] at l1
    have l3' : c2.length = (x.1.length - (i + 1)) * t.size := by rw [l3]; simp
    have hseg : Seg w b off (c1 ++ (ci ++ c2)) := s1.append (by rw [l1]; exact s2.append (by rw [l2]; exact s3))
    have hcall := h b off cap x.1.length i c1 ci c2 w hin hcap l1 l2 l3' hseg (fun v hv => by
      rcases List.mem_append.1 hv with h | h
      · exact o1 v h
      · rcases List.mem_append.1 h with h | h
        · exact Rd.one t x2.rd v h
        · exact o3 v h) hcells hnf
    refine hcall.mono fun e w' ⟨he, hk, hsz, hc', hn', hs'⟩ => ?_
    have hb : b < w.heap.size ∧ ¬ B b := hbs b (by simp)
    have hlen2 : (x.1.take i ++ x.1.drop (i + 1)).length = x.1.length - 1 := by simp; omega
    have hrow2 : RdRow (ERd true w' t) w' b t.size off (x.1.take i ++ x.1.drop (i + 1)) ([] ++ []) := by
      refine RdRow.append (row_put hf r1 (by rw [l1, hlen]) s1 hs'.left) ?_
      have := hs'.right
      rw [l1] at this
      rw [hlen]
      exact row_put hf r3 l3 s3 this
    have own := flat_own (w := w') (cap := cap) (by rw [hlen2]; omega) hc' hn' hrow2
    rw [hlen2] at own
    refine ⟨[.slice (some ⟨b, off, none⟩) (x.1.length - 1) cap], B, [b], [], he, ⟨hk.os, hk.tape, hk.output, hk.size, fun c hc hM => hk.block c hc fun e => hM (.inr (by rw [e]; simp))⟩, fun _ h => h, fun _ h => .inl h, by simp, fun c hc => ?_, ?_, ?_⟩
    · have : c = b := by simpa using hc
      subst this
      exact ⟨.inr (by simp), by omega, hb.2⟩
    · refine ⟨_, _, [b], [], rfl, ?_, rfl, rfl⟩
      simp only [if_true, OwnV, Bool.false_eq_true, if_false, Int.toNat_natCast]
      exact ⟨own, rfl⟩
    · exact ⟨[[b]], [], rfl, rfl, rfl⟩
def InsRaw (P : Program) (g k : Nat) : Prop := ∀ (b off cap n i vb vo vc : Nat) (c1 c2 cv : List Value) (w : World), i ≤ n → n ≤ cap → n + 1 ≤ 268435456 → c1.length = i * k → c2.length = (n - i) * k → cv.length = k → vb ≠ b → b < w.heap.size → vb < w.heap.size →
  Seg w b off (c1 ++ c2) → Seg w vb vo cv → (∀ v ∈ c1 ++ c2, v.oneCell' = true) → (∀ v ∈ cv, v.oneCell' = true) → (∀ j, j < cap * k → (w.cell? ⟨b, off + j, none⟩).isSome = true) → NFr w b off cap k → 1 ≤ vc →
  Calls P g #[.slice (some ⟨b, off, none⟩) n cap, .int .i64 i, .slice (some ⟨vb, vo, none⟩) 1 vc] w fun e w' => ∃ b' off' cap', e = .returned (.slice (some ⟨b', off', none⟩) (n + 1) cap') ∧ (b' = b ∨ w.heap.size ≤ b') ∧ b' < w'.heap.size ∧ n + 1 ≤ cap' ∧ Kept (fun c => w.heap.size ≤ c ∨ c = b) w w' ∧
    (∀ j, j < cap' * k → (w'.cell? ⟨b', off' + j, none⟩).isSome = true) ∧ NFr w' b' off' cap' k ∧ Seg w' b' off' (c1 ++ (cv ++ c2))
def InsNil (P : Program) (g k : Nat) : Prop := ∀ (vb vo vc : Nat) (cv : List Value) (w : World), cv.length = k → vb < w.heap.size → Seg w vb vo cv → (∀ v ∈ cv, v.oneCell' = true) → 1 ≤ vc →
  Calls P g #[.slice none 0 0, .int .i64 0, .slice (some ⟨vb, vo, none⟩) 1 vc] w fun e w' => ∃ b' off' cap', e = .returned (.slice (some ⟨b', off', none⟩) 1 cap') ∧ w.heap.size ≤ b' ∧ b' < w'.heap.size ∧ 1 ≤ cap' ∧ Kept (fun c => w.heap.size ≤ c) w w' ∧
    (∀ j, j < cap' * k → (w'.cell? ⟨b', off' + j, none⟩).isSome = true) ∧ NFr w' b' off' cap' k ∧ Seg w' b' off' cv
theorem ok_insert (hc : Callable P g) {t : Ty} (hf : t.flat = true) (h0 : InsNil P g t.size) (h : InsRaw P g t.size) :
    Ok P g { ins := [.take false (.sl t), .val false (.int .i64), .val false (.sl t)], outs := [⟨false, .sl t, true⟩], F := fun x => insF x.1 x.2.1 x.2.2.1 } := by
  refine ⟨hc, fun w vs x y bs B hJw hS hargs hB nd hbs hy => ?_⟩
  obtain ⟨v, us, Ss, bs0, rfl, rfl, h1, v2, us2, S2, rfl, g1, g2, v3, us3, S3, rfl, k1, k2, rfl, rfl⟩ := hargs
  simp only [ValRd, Bool.false_eq_true, if_false, Rd] at g1 k1
  obtain ⟨rfl, g1⟩ := g1
  obtain rfl : v2 = .int .i64 x.2.1 := (List.cons.inj g1).1
  simp only [OwnLV, Bool.false_eq_true, if_false, OwnL] at h1
  obtain ⟨S, rfl, h1⟩ := h1
  have hy : insF x.1 x.2.1 x.2.2.1 = some y := hy
  unfold insF at hy
  obtain ⟨hr, hy⟩ := cond_some hy
  have hy := Option.some.inj hy
  subst hy
  simp only [Bool.and_eq_true, decide_eq_true_eq] at hr
  obtain ⟨⟨⟨hr1, hr2⟩, hr3⟩, hr4⟩ := hr
  have hr3 := Nat.eq_of_beq_eq_true hr3
  have hr4 : x.1.length + 1 ≤ 268435456 := Nat.le_of_ble_eq_true hr4
  obtain ⟨i, hi⟩ : ∃ i : Nat, x.2.1 = i := ⟨x.2.1.toNat, (Int.toNat_of_nonneg hr1).symm⟩
  rw [hi] at hr2 ⊢
  have hin : i ≤ x.1.length := by omega
  -- what comes in
  obtain ⟨vb, vo, vc, cv, hv, lv, sv, ov, hvB, hvc, rv⟩ : ∃ vb vo vc cv, v3 = .slice (some ⟨vb, vo, none⟩) 1 vc ∧ cv.length = t.size ∧ Seg w vb vo cv ∧ (∀ v ∈ cv, v.oneCell' = true) ∧ B vb ∧ 1 ≤ vc ∧ RdRow (ERd true w t) w vb t.size vo x.2.2.1 [] := by
    rcases k1 with ⟨e, _, _⟩ | ⟨vb, vo, vc, S', rfl, e2, e3, e4⟩
    · rw [e] at hr3; cases hr3
    · have h7 : RdRow (ERd true w t) w vb t.size vo x.2.2.1 S' := e4.imp fun _ _ _ h => ERd.of_flat t hf h
      have := h7.flat hf
      subst this
      obtain ⟨cv, l, s, o⟩ := h7.cells1
      exact ⟨vb, vo, vc, cv, by rw [(List.cons.inj e2).1, hr3], by rw [l, hr3, Nat.one_mul], s, o, k2 vb (by simp), by omega, h7⟩
  subst hv
  have hvw := hB vb hvB
  rcases own_flat hf h1 with ⟨e1, rfl, rfl⟩ | ⟨b, off, cap, rfl, rfl, hcap, hcells, hnf, hrow⟩
  · have hi0 : i = 0 := by rw [e1] at hin; simpa using hin
    subst hi0
    refine (h0 vb vo vc cv w lv hvw sv ov hvc).mono fun e w' ⟨b', off', cap', he, hb1, hb2, hcp, hk, hcl, hnf, hsg⟩ => ?_
    have hrow2 : RdRow (ERd true w' t) w' b' t.size off' x.2.2.1 [] := row_put hf rv (by rw [lv, hr3, Nat.one_mul]) sv hsg
    have own := flat_own (w := w') (cap := cap') (by rw [hr3]; omega) hcl hnf hrow2
    rw [hr3] at own
    refine ⟨[.slice (some ⟨b', off', none⟩) 1 cap'], B, [b'], [], he, ⟨hk.os, hk.tape, hk.output, hk.size, fun c hc hM => hk.block c hc fun e => hM (.inl e)⟩, fun _ h => h, fun _ h => .inl h, by simp, fun c hc => ?_, ?_, ?_⟩
    · have : c = b' := by simpa using hc
      subst this
      exact ⟨.inl hb1, hb2, fun h => by have := hB c h; omega⟩
    · refine ⟨_, _, [b'], [], rfl, ?_, rfl, rfl⟩
      simp only [if_true, OwnV, Bool.false_eq_true, if_false]
      refine ⟨?_, rfl⟩
      have : x.1.take (↑(0 : Nat) : Int).toNat ++ (x.2.2.1 ++ x.1.drop (↑(0 : Nat) : Int).toNat) = x.2.2.1 := by rw [e1]; simp
      rw [this]
      exact own
    · exact ⟨[[]], [], rfl, rfl, rfl⟩
  · have hb : b < w.heap.size ∧ ¬ B b := hbs b (by simp)
    have hxs : x.1 = x.1.take i ++ x.1.drop i := by simp
    have hrow' := hrow
    rw [hxs] at hrow'
    obtain ⟨Sa, Sb, e1, r1, r2⟩ := hrow'.split
    obtain ⟨rfl, rfl⟩ := List.append_eq_nil_iff.1 e1.symm
    have hlen : (x.1.take i).length = i := by simp; omega
    rw [hlen] at r2
    obtain ⟨c1, l1, s1, o1⟩ := r1.cells1
    obtain ⟨c2, l2, s2, o2⟩ := r2.cells1
    rw [hlen] at l1
    have l2' : c2.length = (x.1.length - i) * t.size := by rw [l2]; simp
    have hseg : Seg w b off (c1 ++ c2) := s1.append (by rw [l1]; exact s2)
    have hcall := h b off cap x.1.length i vb vo vc c1 c2 cv w hin hcap hr4 l1 l2' lv (fun e => hb.2 (by rw [← e]; exact hvB)) hb.1 hvw hseg sv (fun v hv => by
      rcases List.mem_append.1 hv with h | h
      · exact o1 v h
      · exact o2 v h) ov hcells hnf hvc
    refine hcall.mono fun e w' ⟨b', off', cap', he, hb1, hb2, hcp, hk, hcl, hnf', hsg⟩ => ?_
    have hlen2 : (x.1.take i ++ (x.2.2.1 ++ x.1.drop i)).length = x.1.length + 1 := by simp [hr3]; omega
    have hrow2 : RdRow (ERd true w' t) w' b' t.size off' (x.1.take i ++ (x.2.2.1 ++ x.1.drop i)) ([] ++ ([] ++ [])) := by
      refine RdRow.append (row_put hf r1 (by rw [l1, hlen]) s1 hsg.left) ?_
      have h3 := hsg.right
      rw [l1] at h3
      rw [hlen]
      refine RdRow.append (row_put hf rv (by rw [lv, hr3, Nat.one_mul]) sv h3.left) ?_
      have h4 := h3.right
      rw [lv] at h4
      rw [hr3, Nat.one_mul]
      exact row_put hf r2 l2 s2 h4
    have own := flat_own (w := w') (cap := cap') (by rw [hlen2]; omega) hcl hnf' hrow2
    rw [hlen2] at own
    refine ⟨[.slice (some ⟨b', off', none⟩) (x.1.length + 1) cap'], B, [b'], [], he, ⟨hk.os, hk.tape, hk.output, hk.size, fun c hc hM => hk.block c hc fun e => hM (e.imp (fun h => h) fun h => by rw [h]; simp)⟩, fun _ h => h, fun _ h => .inl h, by simp, fun c hc => ?_, ?_, ?_⟩
    · have : c = b' := by simpa using hc
      subst this
      rcases hb1 with rfl | h
      · exact ⟨.inr (by simp), hb2, hb.2⟩
      · exact ⟨.inl h, hb2, fun h' => by have := hB c h'; omega⟩
    · refine ⟨_, _, [b'], [], rfl, ?_, rfl, rfl⟩
      simp only [if_true, OwnV, Bool.false_eq_true, if_false, Int.toNat_natCast]
      exact ⟨own, rfl⟩
    · exact ⟨[[b]], [], rfl, rfl, rfl⟩

end
end Go.Proofs.Fw
