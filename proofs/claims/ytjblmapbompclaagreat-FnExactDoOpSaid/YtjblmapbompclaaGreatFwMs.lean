/- slices.SortFunc at rows of flat elements: the contract's form. -/
import Derived.Test.YtjblmapbompclaaGreatFwMa
import Derived.Sort.Defs
import Derived.Sort.Grow
import Derived.Shelf.GgSortFunc.RowK
import Derived.Shelf.SlSortCmp.WholeK
set_option linter.all false
namespace Go.Proofs.Fw
open Go Go.RowKit Go.Sort
set_option linter.all false
instance instTyDen (t : Ty) : Inhabited t.den := ⟨t.dflt⟩
def encT : (t : Ty) → t.den → List Value
  | .bool, x => [.bool x]
  | .int k, x => [.int k x]
  | .str, x => [.string ⟨x.toArray⟩]
  | .pair a b, x => encT a x.1 ++ encT b x.2
  | _, _ => []
def Ty.plain : Ty → Bool
  | .bool => true
  | .int _ => true
  | .str => true
  | .unit => true
  | .pair a b => Ty.plain a && Ty.plain b
  | _ => false
theorem encT_rd {w : World} : ∀ (t : Ty) {x : t.den} {S : List Nat} {cs : List Value}, Ty.plain t = true → Rd w t x S cs → cs = encT t x
  | .bool, _, _, _, _, h => by simp only [Rd] at h; exact h.2
  | .int _, _, _, _, _, h => by simp only [Rd] at h; exact h.2
  | .str, _, _, _, _, h => by simp only [Rd] at h; exact h.2
  | .unit, _, _, _, _, h => by simp only [Rd] at h; exact h.2
  | .pair a b, x, _, _, hp, h => by
    simp only [Ty.plain, Bool.and_eq_true] at hp
    simp only [Rd] at h
    obtain ⟨_, _, c1, c2, _, e, h1, h2⟩ := h
    rw [e, encT_rd a hp.1 h1, encT_rd b hp.2 h2]; rfl
  | .sl _, _, _, _, hp, _ => by cases hp
  | .err, _, _, _, hp, _ => by cases hp
theorem rd_encT {w : World} : ∀ (t : Ty) (x : t.den), Ty.plain t = true → Rd w t x [] (encT t x)
  | .bool, _, _ => by simp [Rd, encT]
  | .int _, _, _ => by simp [Rd, encT]
  | .str, _, _ => by simp [Rd, encT]
  | .unit, _, _ => by simp [Rd, encT]
  | .pair a b, x, hp => by
    simp only [Ty.plain, Bool.and_eq_true] at hp
    simp only [Rd, encT]
    exact ⟨[], [], _, _, rfl, rfl, rd_encT a x.1 hp.1, rd_encT b x.2 hp.2⟩
  | .sl _, _, hp => by cases hp
  | .err, _, hp => by cases hp
theorem encT_len (t : Ty) (x : t.den) (hp : Ty.plain t = true) (w : World) : (encT t x).length = t.size := Rd.length t (rd_encT (w := w) t x hp)
theorem Ty.plain.flat : ∀ {t : Ty}, Ty.plain t = true → t.flat = true
  | .bool, _ => rfl
  | .int _, _ => rfl
  | .str, _ => rfl
  | .unit, _ => rfl
  | .pair a b, h => by
    simp only [Ty.plain, Bool.and_eq_true] at h
    simp only [Ty.flat, Bool.and_eq_true]
    exact ⟨Ty.plain.flat h.1, Ty.plain.flat h.2⟩
  | .sl _, h => by cases h
  | .err, h => by cases h
theorem row_cells {w : World} {t : Ty} (hp : Ty.plain t = true) {b : Nat} : ∀ {xs : List t.den} {off : Nat} {S : List Nat}, RdRow (ERd true w t) w b t.size off xs S → ∀ (i c : Nat) (hi : i < xs.length) (hc : c < t.size), w.cell? ⟨b, off + i * t.size + c, none⟩ = some (encT t xs[i])[c]!
  | x :: xs, off, S, ⟨S1, S2, cs, e, hl, hs, hx, hr⟩, i, c, hi, hc => by
    cases i with
    | zero =>
      have := hs c (by omega)
      have e2 := encT_rd t hp hx.rd
      subst e2
      rw [Nat.zero_mul, Nat.add_zero, this]
      simp only [List.getElem_cons_zero]
      rw [getElem!_pos (encT t x) c (by omega)]
    | succ i =>
      have := row_cells hp hr i c (by simpa using hi) hc
      rw [show off + (i + 1) * t.size + c = off + t.size + i * t.size + c by rw [Nat.add_mul]; omega, this]
      simp
theorem cells_row {w : World} {t : Ty} (hp : Ty.plain t = true) {b : Nat} : ∀ (xs : List t.den) (off : Nat), (∀ (i c : Nat) (hi : i < xs.length) (hc : c < t.size), w.cell? ⟨b, off + i * t.size + c, none⟩ = some (encT t xs[i])[c]!) → RdRow (ERd true w t) w b t.size off xs []
  | [], _, _ => rfl
  | x :: xs, off, h => by
    have hl := encT_len t x hp w
    refine ⟨[], [], encT t x, rfl, hl, fun c hc => ?_, ERd.of_flat t (Ty.plain.flat hp) (rd_encT t x hp), cells_row hp xs _ fun i c hi hc => ?_⟩
    · have := h 0 c (by simp) (by omega)
      rw [Nat.zero_mul, Nat.add_zero] at this
      rw [this]
      simp only [List.getElem_cons_zero]
      rw [getElem!_pos (encT t x) c hc]
    · have := h (i + 1) c (by simpa using hi) hc
      rw [show off + t.size + i * t.size + c = off + (i + 1) * t.size + c by rw [Nat.add_mul]; omega, this]
      simp
def sortF {α : Type} [Inhabited α] (cf : α → α → Int) (xs : List α) : Option (Unit × (List α × Unit)) :=
  bif Nat.ble xs.length maxGrow then some ((), ((Sort.pdq (ltOf cf) xs.toArray 0 xs.length (Lib.bitLen xs.length) true true).toList, ())) else none

section
variable [GInv] {P : Program} {g : Nat}
def SortRaw (P : Program) (g gcl : Nat) (t : Ty) (cf : t.den → t.den → Int) : Prop := ∀ (blk off cap : Nat) (d : Array t.den) (w : World), HoldsK (encT t) t.size w blk off d → blk < w.heap.size → d.size < 4611686018427387904 →
  Calls P g #[.slice (some ⟨blk, off, none⟩) d.size cap, .func (.func gcl) #[] #[]] w fun e w' => e = .returned (.tuple #[]) ∧ ∃ n os, w' = sortWorldK (encT t) t.size w blk off n (Sort.pdq (ltOf cf) d 0 d.size (Lib.bitLen d.size) true true) os
theorem ok_sort (hc : Callable P g) {t : Ty} (hp : Ty.plain t = true) (hk : 0 < t.size) {gcl : Nat} {cf : t.den → t.den → Int} (hO : SWO (ltOf cf)) (h0 : ∀ w, Calls P g #[.slice none 0 0, .func (.func gcl) #[] #[]] w fun e w' => e = .returned (.tuple #[]) ∧ w' = w) (h : SortRaw P g gcl t cf) :
    Ok P g { ins := [.mut false (.sl t), .fn gcl []], outs := [], F := fun x => sortF cf x.1 } := by
  refine ⟨hc, fun w vs x y bs B hJw hS hargs hB nd hbs hy => ?_⟩
  obtain ⟨v, us, Ss, bs0, rfl, rfl, h1, cs, us2, rfl, g1, rfl, rfl⟩ := hargs
  have hcs : cs = [] := g1
  subst hcs
  simp only [OwnLV, Bool.false_eq_true, if_false, OwnL] at h1
  obtain ⟨S, rfl, h1⟩ := h1
  have hy : sortF cf x.1 = some y := hy
  unfold sortF at hy
  obtain ⟨hr, hy⟩ := cond_some hy
  have hr : x.1.length ≤ 268435456 := Nat.le_of_ble_eq_true hr
  have hy := Option.some.inj hy
  subst hy
  have hperm := pdq_sorts (ltOf cf) hO x.1.toArray 0 x.1.toArray.size (Lib.bitLen x.1.toArray.size) true true (Nat.zero_le _) (Nat.le_refl _) (Or.inl rfl)
  have hsz : (Sort.pdq (ltOf cf) x.1.toArray 0 x.1.length (Lib.bitLen x.1.length) true true).size = x.1.length := by simpa using hperm.1.1
  rcases own_flat (Ty.plain.flat hp) h1 with ⟨e1, rfl, rfl⟩ | ⟨b, off, cap, rfl, rfl, hcap, hcells, hnf, hrow⟩
  · refine (h0 w).mono fun e w' ⟨he, hw⟩ => ?_
    subst hw
    refine ⟨[], B, [], [[]], he, Kept.refl _ _, fun _ h => h, fun _ h => .inl h, by simp, fun c hc => (by simp at hc), ⟨rfl, rfl⟩, _, _, [[]], [[]], [], [], rfl, rfl, rfl, rfl, ?_, rfl⟩
    simp only [OwnLV, Bool.false_eq_true, if_false, OwnL]
    refine ⟨[], rfl, ?_⟩
    simp only [OwnRd]
    refine .inl ⟨?_, by simp, by simp⟩
    have : (Sort.pdq (ltOf cf) x.1.toArray 0 x.1.length (Lib.bitLen x.1.length) true true).toList.length = 0 := by rw [Array.length_toList, hsz, e1]; rfl
    exact List.length_eq_zero_iff.1 this
  · have hb : b < w.heap.size ∧ ¬ B b := hbs b (by simp)
    have hH : HoldsK (encT t) t.size w b off x.1.toArray := fun j hj => by
      have hj' : j < x.1.length * t.size := by simpa using hj
      have hi : j / t.size < x.1.length := (Nat.div_lt_iff_lt_mul hk).2 hj'
      have hcm : j % t.size < t.size := Nat.mod_lt _ hk
      have e : off + j = off + j / t.size * t.size + j % t.size := by have := Nat.div_add_mod' j t.size; omega
      refine ⟨?_, ?_⟩
      · rw [get_flatK _ _ _ _ (by simpa using hj'), e, row_cells hp hrow _ _ hi hcm]
        simp only [id_eq]
        rw [getElem!_pos x.1.toArray (j / t.size) (by simpa using hi)]
        rfl
      · exact hnf.1 j (by have := Nat.mul_le_mul_right t.size hcap; omega)
    have hcall := h b off cap x.1.toArray w hH hb.1 (by simp; omega)
    simp only [List.size_toArray] at hcall
    refine hcall.mono fun e w' ⟨he, n, os, hw⟩ => ?_
    generalize hq : Sort.pdq (ltOf cf) x.1.toArray 0 x.1.length (Lib.bitLen x.1.length) true true = q at hw hsz
    have hbW : b < (putRowK (encT t) t.size (Sort.ahead w n) b off q).heap.size := by simp [putRowK]; exact hb.1
    have hH2 : HoldsK (encT t) t.size w' b off q := by
      rw [hw]
      exact holdsK_grow _ _ _ _ _ _ _ hbW (holdsK_putRowK _ _ _ _ _ x.1.toArray _ (holdsK_ahead _ _ _ _ _ _ _ hH) (by simp [hsz]))
    have hold : ∀ c, c < w.heap.size → c ≠ b → w'.heap[c]? = w.heap[c]? := fun c hc hne => by
      rw [hw]
      unfold sortWorldK
      rw [Sort.heap_grow_old _ _ (by simp [putRowK]; exact hc)]
      simp only [putRowK, putRow, mapBlock, Sort.heap_ahead]
      rw [Array.getElem?_modify]
      simp [Ne.symm hne]
    have hfz : ∀ i, w'.frozen? ⟨b, i, none⟩ = w.frozen? ⟨b, i, none⟩ := fun i => by
      rw [hw]
      unfold sortWorldK
      rw [Sort.frozen?_grow _ _ _ hbW]
      simp [putRowK]
    have hcell : ∀ i, i < cap * t.size → (w'.cell? ⟨b, off + i, none⟩).isSome = true := fun i hi => by
      by_cases hin : i < x.1.length * t.size
      · rw [(hH2 i (by simpa [hsz] using hin)).1]; rfl
      · rw [hw]
        unfold sortWorldK
        rw [Sort.cell?_grow _ _ _ hbW]
        unfold putRowK
        rw [cell?_putRow_other _ _ _ _ _ _ (.inr (.inr (by simp [hsz]; omega)))]
        simpa using hcells i hi
    have hrow2 : RdRow (ERd true w' t) w' b t.size off q.toList [] := cells_row hp _ _ fun i c hi hc => by
      have hi' : i < q.size := by simpa using hi
      have := (hH2.cell (i := i) (c := c) hi' hc)
      rw [this.1]
      rw [getElem!_pos q i hi']
      simp
    have own := flat_own (w := w') (cap := cap) (by simp [hsz]; exact hcap) hcell (hnf.of hfz) hrow2
    have hlen : q.toList.length = x.1.length := by simp [hsz]
    rw [hlen] at own
    refine ⟨[], B, [], [[b]], he, ⟨by rw [hw]; rfl, by rw [hw]; rfl, by rw [hw]; rfl, by rw [hw]; simp [sortWorldK, putRowK], fun c hc hM => hold c hc fun e => hM (.inr (by rw [e]; simp))⟩, fun _ h => h, fun _ h => .inl h, by simp, fun c hc => ?_, ⟨rfl, rfl⟩, _, _, [[b]], [[b]], [], [], rfl, rfl, rfl, rfl, ?_, rfl⟩
    · have : c = b := by simpa using hc
      subst this
      refine ⟨.inr (by simp), ?_, hb.2⟩
      rw [hw]; simp [sortWorldK, putRowK]; omega
    · simp only [OwnLV, Bool.false_eq_true, if_false, OwnL]
      exact ⟨[b], rfl, own⟩

end
end Go.Proofs.Fw
