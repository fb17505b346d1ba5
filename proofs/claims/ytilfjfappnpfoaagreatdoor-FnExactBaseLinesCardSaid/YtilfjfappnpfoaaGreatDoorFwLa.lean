/- Library functions by the kit's shelf: the contracts' form here; strconv.Itoa and strings.Join. -/
import Derived.Test.YtilfjfappnpfoaaGreatDoorFwZi
import Derived.Below
import Derived.Sort.Grow
import Derived.Deep.Draws
import Derived.Lib.LaidTab
import Derived.Lib.ItoaNum
import Derived.Lib.Join
set_option linter.all false
namespace Go.Proofs.Fw
open Go Go.RowKit
set_option linter.all false

/-- a call that leaves what was there -/
theorem Kept.of_below {w w' : World} {M : Nat → Prop} (h : Below w.heap.size w w') : Kept (fun b => w.heap.size ≤ b ∨ M b) w w' :=
  ⟨h.os, h.tape, h.output, h.size, fun b hb _ => h.block b hb⟩

def itoaF (n : Int) : Option (((List UInt8) × Unit) × Unit) := bif decide (-9223372036854775808 ≤ n) && decide (n ≤ 9223372036854775807) then some ((Lib.itoa n, ()), ()) else none

theorem ok_itoa [GInv] {P : Program} {g : Nat} (hc : Callable P g) (hJ : ∀ w, GInv.J w → Lib.TabIs P w "internal/strconv.uint64pow10" .u64 Lib.pow10Tab)
    (h : ∀ (n : Int), -9223372036854775808 ≤ n → n ≤ 9223372036854775807 → ∀ w : World, Lib.TabIs P w "internal/strconv.uint64pow10" .u64 Lib.pow10Tab →
      Calls P g #[.int .i64 n] w fun e w' => e = .returned (.string ⟨(Lib.itoa n).toArray⟩) ∧ ∃ k os, w' = Go.Sort.grow (w.drewN k) os) :
    Ok P g { ins := [.val false (.int .i64)], outs := [⟨false, .str, false⟩], F := fun x => itoaF x.1 } := by
  refine ⟨hc, fun w vs x y bs B hJw hS hargs hB nd hbs hy => ?_⟩
  obtain ⟨v, us, S, rfl, h1, h2, h3⟩ := hargs
  obtain ⟨rfl, rfl⟩ := h3
  simp only [ValRd, Bool.false_eq_true, if_false, Rd] at h1
  obtain ⟨rfl, h1⟩ := h1
  have h1 : v = .int .i64 x.1 := (List.cons.inj h1).1
  subst h1
  have hy : itoaF x.1 = some y := hy
  unfold itoaF at hy
  cases hr : (decide (-9223372036854775808 ≤ x.1) && decide (x.1 ≤ 9223372036854775807)) with
  | false => rw [hr] at hy; cases hy
  | true =>
    rw [hr] at hy
    have hy : ((Lib.itoa x.1, ()), ()) = y := Option.some.inj hy
    subst hy
    simp only [Bool.and_eq_true, decide_eq_true_eq] at hr
    refine (h x.1 hr.1 hr.2 w (hJ w hJw)).mono fun e w' ⟨he, k, os, hw⟩ => ?_
    have hbel : Below w.heap.size w w' := by
      subst hw
      exact ⟨rfl, rfl, rfl, by simp [Go.Sort.grow, World.drewN], fun b hb => Go.Sort.heap_grow_old (w.drewN k) os hb⟩
    exact ⟨[.string ⟨(Lib.itoa x.1).toArray⟩], B, [], [], he, Kept.of_below hbel, fun _ h => h, fun _ h => .inl h, by simp, fun b hb => (by cases hb),
      ⟨_, _, [], [], rfl, by simp only [Bool.false_eq_true, if_false, ValRd, Rd]; exact ⟨⟨trivial, trivial⟩, fun _ h => (by cases h), trivial⟩, rfl, rfl⟩, rfl⟩

/-- the elements of a slice of strings, as they lie -/
theorem rdRow_strs {w : World} {b : Nat} : ∀ {xs : List (List UInt8)} {off : Nat} {S : List Nat}, RdRow (Rd w .str) w b 1 off xs S → S = [] ∧ ∀ (j : Nat) (x : List UInt8), xs[j]? = some x → w.cell? ⟨b, off + j, none⟩ = some (.string ⟨x.toArray⟩)
  | [], off, S, h => ⟨h, fun j x e => by simp at e⟩
  | x :: xs, off, S, ⟨S1, S2, cs, e, hl, hs, hx, hr⟩ => by
    obtain ⟨rfl, hx⟩ := hx
    obtain ⟨h1, h2⟩ := rdRow_strs hr
    subst h1
    subst hx
    refine ⟨e, fun j y hy => ?_⟩
    cases j with
    | zero =>
      simp only [List.getElem?_cons_zero, Option.some.injEq] at hy
      subst hy
      exact hs.head
    | succ j =>
      have := h2 j y (by simpa using hy)
      rw [show off + (j + 1) = off + 1 + j by omega]
      exact this

def joinF (xs : List (List UInt8)) (sep : List UInt8) : Option (((List UInt8) × Unit) × Unit) := bif Nat.ble xs.length maxGrow && Nat.ble (Lib.join xs sep).length maxGrow then some ((Lib.join xs sep, ()), ()) else none

theorem ok_join [GInv] {P : Program} {g : Nat} (hc : Callable P g)
    (h0 : ∀ (a : Option Addr) (c : Nat) (sep : ByteArray) (w : World), Calls P g #[.slice a 0 c, .string sep] w fun e w' => e = .returned (.string ⟨#[]⟩) ∧ w' = w)
    (h : ∀ (bk o c : Nat) (xs : List ByteArray) (sep : ByteArray) (w : World), (∀ (j : Nat) x, xs[j]? = some x → w.cell? ⟨bk, o + j, none⟩ = some (.string x)) → bk < w.heap.size → xs.length ≤ 140737488355328 → xs.length ≤ c →
      (Lib.join (xs.map (·.data.toList)) sep.data.toList).length ≤ 140737488355328 →
      Calls P g #[.slice (some ⟨bk, o, none⟩) xs.length c, .string sep] w fun e w' => e = .returned (.string ⟨(Lib.join (xs.map (·.data.toList)) sep.data.toList).toArray⟩) ∧ Below w.heap.size w w') :
    Ok P g { ins := [.val false (.sl .str), .val false .str], outs := [⟨false, .str, false⟩], F := fun x => joinF x.1 x.2.1 } := by
  refine ⟨hc, fun w vs x y bs B hJw hS hargs hB nd hbs hy => ?_⟩
  obtain ⟨v, us, S, rfl, h1, h2, v2, us2, S2, rfl, g1, g2, g3⟩ := hargs
  obtain ⟨rfl, rfl⟩ := g3
  simp only [ValRd, Bool.false_eq_true, if_false] at h1 g1
  obtain ⟨rfl, g1⟩ := g1
  have g1 : v2 = .string ⟨x.2.1.toArray⟩ := (List.cons.inj g1).1
  subst g1
  have hy : joinF x.1 x.2.1 = some y := hy
  unfold joinF at hy
  cases hr : (Nat.ble x.1.length maxGrow && Nat.ble (Lib.join x.1 x.2.1).length maxGrow) with
  | false => rw [hr] at hy; cases hy
  | true =>
    rw [hr] at hy
    have hy : ((Lib.join x.1 x.2.1, ()), ()) = y := Option.some.inj hy
    subst hy
    simp only [Bool.and_eq_true] at hr
    have l1 : x.1.length ≤ 268435456 := Nat.le_of_ble_eq_true hr.1
    have l2 : (Lib.join x.1 x.2.1).length ≤ 268435456 := Nat.le_of_ble_eq_true hr.2
    have fin : ∀ (e : Ending) (w' : World), e = .returned (.string ⟨(Lib.join x.1 x.2.1).toArray⟩) → Below w.heap.size w w' → ∃ us B' O bs', e = .returned (wrapV us) ∧ Kept (fun b => w.heap.size ≤ b ∨ b ∈ ([] : List (List Nat)).flatten) w w' ∧ (∀ b, B b → B' b) ∧ (∀ b, B' b → B b ∨ ((w.heap.size ≤ b ∨ b ∈ ([] : List (List Nat)).flatten) ∧ b < w'.heap.size)) ∧
        (O ++ bs'.flatten).Nodup ∧ (∀ b ∈ O ++ bs'.flatten, (w.heap.size ≤ b ∨ b ∈ ([] : List (List Nat)).flatten) ∧ b < w'.heap.size ∧ ¬ B' b) ∧ OutsRd w' B' [⟨false, .str, false⟩] us (Lib.join x.1 x.2.1, ()) O ∧ bs' = [] := fun e w' he hbel =>
      ⟨[.string ⟨(Lib.join x.1 x.2.1).toArray⟩], B, [], [], he, Kept.of_below hbel, fun _ h => h, fun _ h => .inl h, by simp, fun b hb => (by cases hb),
        ⟨_, _, [], [], rfl, by simp only [Bool.false_eq_true, if_false, ValRd, Rd]; exact ⟨⟨trivial, trivial⟩, fun _ h => (by cases h), trivial⟩, rfl, rfl⟩, rfl⟩
    unfold Rd at h1
    rcases h1 with ⟨hx, rfl, a, hv⟩ | ⟨b, off, cap, S', rfl, hv, hcap, hrow⟩
    · have hv : v = .slice a 0 0 := (List.cons.inj hv).1
      subst hv
      refine (h0 a 0 ⟨x.2.1.toArray⟩ w).mono fun e w' ⟨he, hw⟩ => fin e w' ?_ (by subst hw; exact Below.refl _ _)
      rw [he, hx]
      rfl
    · have hv : v = .slice (some ⟨b, off, none⟩) x.1.length cap := (List.cons.inj hv).1
      subst hv
      obtain ⟨_, hcells⟩ := rdRow_strs hrow
      have hmap : (x.1.map fun l : List UInt8 => (⟨l.toArray⟩ : ByteArray)).map (·.data.toList) = x.1 := by
        rw [List.map_map]
        conv => rhs; rw [← List.map_id x.1]
        rfl
      have hlen : (x.1.map fun l : List UInt8 => (⟨l.toArray⟩ : ByteArray)).length = x.1.length := by simp
      have := h b off cap (x.1.map fun l : List UInt8 => (⟨l.toArray⟩ : ByteArray)) ⟨x.2.1.toArray⟩ w (fun j s hs => by
        rw [List.getElem?_map] at hs
        cases e : x.1[j]? with
        | none => rw [e] at hs; cases hs
        | some l =>
          rw [e] at hs
          have hs : (⟨l.toArray⟩ : ByteArray) = s := Option.some.inj hs
          subst hs
          exact hcells j l e) (hB b (h2 b (by simp))) (by rw [hlen]; omega) (by rw [hlen]; exact hcap) (by rw [hmap]; exact Nat.le_trans l2 (by decide))
      rw [hlen, hmap] at this
      exact this.mono fun e w' ⟨he, hbel⟩ => fin e w' he hbel

/-- what a listed variable holds -/
theorem laidVars_mem {P : Program} {w : World} {n : String} {d : DataW Unit} : ∀ {l : List (String × DataW Unit)} {ps : List MemPlace}, DataW.LaidVars P w l ps → (n, d) ∈ l →
    ∃ g t cs fuel p, P.globalNamed n = some g ∧ (P.globals[g]?).map (·.type) = some t ∧ w.var? P n = some cs ∧ DataW.trod (fun _ => ()) P w 0 (fun _ => true) false fuel t cs.toList = some (d, p)
  | [], _, _, h => by cases h
  | (n', d') :: r, _, ⟨g, t, cs, fuel, p, q, h1, h2, h3, h4, h5, _⟩, h => by
    rcases List.mem_cons.1 h with e | h
    · cases e; exact ⟨g, t, cs, fuel, p, h1, h2, h3, h4⟩
    · exact laidVars_mem h5 h

theorem tabIs_laid {P : Program} {W : World} {name : String} {k : IntKind} {zs : List Int} {l : List (String × DataW Unit)} {i g : Nat} {t e : TypeId} {n : Nat}
    (hi : l[i]? = some (name, Lib.tabData k zs)) (hg : P.globalNamed name = some g) (hty : (P.globals[g]?).map (·.type) = some t) (ht : P.underlying t = some (.array n e)) (he : P.underlying e = some (.int k)) (hce : P.cellsOf e = 1) (hct : P.cellsOf t = n)
    (h : laidMet P l W) : Lib.TabIs P W name k zs := by
  obtain ⟨ps, hv, _⟩ := h
  obtain ⟨g', t', cs, fuel, p, hg', ht', hvar, hd⟩ := laidVars_mem hv (List.mem_of_getElem? hi)
  obtain rfl := Option.some.inj (hg.symm.trans hg')
  obtain rfl := Option.some.inj (hty.symm.trans ht')
  unfold Lib.TabIs
  rw [hvar, ← Lib.cells_of_tab ht he hce hct hd]

theorem tabIs_size {P : Program} {W : World} {name : String} {k : IntKind} {zs : List Int} {g : Nat} (h : Lib.TabIs P W name k zs) (hg : P.globalNamed name = some g) : g < W.heap.size := by
  unfold Lib.TabIs World.var? at h
  rw [hg] at h
  simp only [Option.bind_some] at h
  cases e : W.heap[g]? with
  | none => rw [e] at h; cases h
  | some o => exact (Array.getElem?_eq_some_iff.1 e).1

/-- the cells of a listed table -/
def tabCells : DataW Unit → Array Value
  | .agg l => (l.map fun d => match d with | .lit (.int k n) => Value.int k n | _ => .bool false).toArray
  | _ => #[]
/-- the settled world, some variables laid -/
def layVar (w : World) (g : Nat) (d : DataW Unit) : World := { w with heap := w.heap.modify g fun o => match o with | .cells _ t frozen => .cells (tabCells d) t frozen | o => o }

theorem all_params {p : TypeId → Bool} {ps : Array TypeId} (h : ps.toList.all (fun t => !(p t)) = true) (j : Nat) (t : TypeId) (ht : ps[j]? = some t) : p t = false := by
  have := List.all_eq_true.1 h t (by
    rw [Array.mem_toList_iff]
    exact Array.mem_of_getElem? ht)
  simpa using this
end Go.Proofs.Fw
