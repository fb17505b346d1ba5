/- How typed data lies in memory: 'Rd', with the list of the blocks that it takes; rows; what keeps a reading. -/
import Derived.Test.YtjblmapbompclaaGreatFwB
import Derived.Below
import Derived.WalkKit
import Derived.Laws.IdiomCopy
import Derived.Laws.StructEq
set_option linter.all false
namespace Go.Proofs.Fw
open Go
theorem cond_some {α : Type} {b : Bool} {x : Option α} {y : α} (h : (bif b then x else none) = some y) : b = true ∧ x = some y := by
  cases b <;> simp_all
def Seg (w : World) (b off : Nat) (cs : List Value) : Prop := ∀ i, (h : i < cs.length) → w.cell? ⟨b, off + i, none⟩ = some cs[i]
def RdRow {α : Type} (R : α → List Nat → List Value → Prop) (w : World) (b k : Nat) : Nat → List α → List Nat → Prop
  | _, [], S => S = []
  | off, x :: xs, S => ∃ S1 S2 cs, S = S1 ++ S2 ∧ cs.length = k ∧ Seg w b off cs ∧ R x S1 cs ∧ RdRow R w b k (off + k) xs S2
def Rd (w : World) : (t : Ty) → t.den → List Nat → List Value → Prop
  | .bool, x, S, cs => S = [] ∧ cs = [.bool x]
  | .int k, x, S, cs => S = [] ∧ cs = [.int k x]
  | .str, x, S, cs => S = [] ∧ cs = [.string ⟨x.toArray⟩]
  | .sl t, xs, S, cs => (xs = [] ∧ S = [] ∧ ∃ a, cs = [.slice a 0 0]) ∨
      ∃ b off cap S', S = b :: S' ∧ cs = [.slice (some ⟨b, off, none⟩) xs.length cap] ∧ xs.length ≤ cap ∧ RdRow (Rd w t) w b t.size off xs S'
  | .pair a b, x, S, cs => ∃ S1 S2 c1 c2, S = S1 ++ S2 ∧ cs = c1 ++ c2 ∧ Rd w a x.1 S1 c1 ∧ Rd w b x.2 S2 c2
  | .unit, _, S, cs => S = [] ∧ cs = []
  | .err, x, S, cs => S = [] ∧ ((x = true ∧ cs = [.nilIface]) ∨ (x = false ∧ ∃ t v, cs = [.iface t v]))
theorem Seg.mono {w w' : World} {b off : Nat} {cs : List Value} (h : Seg w b off cs) (hb : w'.heap[b]? = w.heap[b]?) : Seg w' b off cs :=
  fun i hi => (World.cell?_of_block (w := w) (a := ⟨b, off + i, none⟩) hb).trans (h i hi)
theorem Seg.head {w : World} {b off : Nat} {c : Value} {cs : List Value} (h : Seg w b off (c :: cs)) : w.cell? ⟨b, off, none⟩ = some c := h 0 (by simp)
theorem Seg.tail {w : World} {b off : Nat} {c : Value} {cs : List Value} (h : Seg w b off (c :: cs)) : Seg w b (off + 1) cs := fun i hi => by
  have := h (i + 1) (by simpa using hi)
  rw [show off + 1 + i = off + (i + 1) by omega]; simpa using this
theorem Seg.nil (w : World) (b off : Nat) : Seg w b off [] := fun i hi => by cases hi
theorem Seg.append {w : World} {b off : Nat} {cs ds : List Value} (h : Seg w b off cs) (h' : Seg w b (off + cs.length) ds) : Seg w b off (cs ++ ds) := fun i hi => by
  by_cases hc : i < cs.length
  · rw [h i hc, List.getElem_append_left hc]
  · have := h' (i - cs.length) (by simp at hi; omega)
    rw [show off + i = off + cs.length + (i - cs.length) by omega, this, List.getElem_append_right (by omega)]
theorem Seg.left {w : World} {b off : Nat} {cs ds : List Value} (h : Seg w b off (cs ++ ds)) : Seg w b off cs := fun i hi => by
  rw [h i (by simp; omega), List.getElem_append_left hi]
theorem Seg.right {w : World} {b off : Nat} {cs ds : List Value} (h : Seg w b off (cs ++ ds)) : Seg w b (off + cs.length) ds := fun i hi => by
  rw [show off + cs.length + i = off + (cs.length + i) by omega, h (cs.length + i) (by simp; omega), List.getElem_append_right (by omega)]; simp
theorem Seg.drop {w : World} {b off : Nat} {cs : List Value} (h : Seg w b off cs) (n : Nat) : Seg w b (off + n) (cs.drop n) := fun i hi => by
  rw [show off + n + i = off + (n + i) by omega, h (n + i) (by simp at hi; omega)]; simp
theorem Seg.take {w : World} {b off : Nat} {cs : List Value} (h : Seg w b off cs) (n : Nat) : Seg w b off (cs.take n) := fun i hi => by
  rw [h i (by simp at hi; omega)]; simp
theorem RdRow.mono {α : Type} {R R' : α → List Nat → List Value → Prop} {w w' : World} {b k : Nat} (hb : w'.heap[b]? = w.heap[b]?) :
    ∀ (xs : List α) (off : Nat) (S : List Nat), (∀ x S' cs, (∀ c ∈ S', c ∈ S) → R x S' cs → R' x S' cs) → RdRow R w b k off xs S → RdRow R' w' b k off xs S
  | [], _, _, _, h => h
  | x :: xs, off, S, hR, ⟨S1, S2, cs, e, hl, hs, hx, hr⟩ =>
    ⟨S1, S2, cs, e, hl, hs.mono hb, hR x S1 cs (fun c hc => by rw [e]; exact List.mem_append.2 (.inl hc)) hx,
      RdRow.mono hb xs _ S2 (fun x S' cs hS => hR x S' cs (fun c hc => by rw [e]; exact List.mem_append.2 (.inr (hS c hc)))) hr⟩
theorem Rd.mono {w w' : World} : ∀ (t : Ty) {x : t.den} {S : List Nat} {cs : List Value}, (∀ b ∈ S, w'.heap[b]? = w.heap[b]?) → Rd w t x S cs → Rd w' t x S cs
  | .bool, _, _, _, _, h => h
  | .int _, _, _, _, _, h => h
  | .str, _, _, _, _, h => h
  | .unit, _, _, _, _, h => h
  | .err, _, _, _, _, h => h
  | .pair a b, x, S, cs, hS, h => by
    simp only [Rd] at h ⊢
    obtain ⟨S1, S2, c1, c2, e1, e2, h1, h2⟩ := h
    exact ⟨S1, S2, c1, c2, e1, e2, Rd.mono a (fun c hc => hS c (by rw [e1]; exact List.mem_append.2 (.inl hc))) h1,
      Rd.mono b (fun c hc => hS c (by rw [e1]; exact List.mem_append.2 (.inr hc))) h2⟩
  | .sl t, xs, S, cs, hS, h => by
    simp only [Rd] at h ⊢
    rcases h with h | ⟨b, off, cap, S', e1, e2, e3, hr⟩
    · exact .inl h
    · refine .inr ⟨b, off, cap, S', e1, e2, e3, ?_⟩
      exact RdRow.mono (hS b (by rw [e1]; simp)) xs off S' (fun x S'' cs hs hx => Rd.mono t (fun c hc => hS c (by rw [e1]; exact List.mem_cons_of_mem _ (hs c hc))) hx) hr
theorem Rd.length {w : World} : ∀ (t : Ty) {x : t.den} {S : List Nat} {cs : List Value}, Rd w t x S cs → cs.length = t.size
  | .bool, _, _, _, h => by simp only [Rd] at h; simp [h.2, Ty.size]
  | .int _, _, _, _, h => by simp only [Rd] at h; simp [h.2, Ty.size]
  | .str, _, _, _, h => by simp only [Rd] at h; simp [h.2, Ty.size]
  | .unit, _, _, _, h => by simp only [Rd] at h; simp [h.2, Ty.size]
  | .err, _, _, _, h => by
    simp only [Rd] at h
    rcases h.2 with ⟨_, h⟩ | ⟨_, _, _, h⟩ <;> simp [h, Ty.size]
  | .sl _, _, _, _, h => by
    simp only [Rd] at h
    rcases h with ⟨_, _, _, h⟩ | ⟨_, _, _, _, _, h, _⟩
    · simp [h, Ty.size]
    · simp [h, Ty.size]
  | .pair a b, _, _, _, h => by
    simp only [Rd] at h
    obtain ⟨_, _, c1, c2, _, e2, h1, h2⟩ := h
    simp [e2, Ty.size, Rd.length a h1, Rd.length b h2]
theorem Rd.one {w : World} : ∀ (t : Ty) {x : t.den} {S : List Nat} {cs : List Value}, Rd w t x S cs → ∀ v ∈ cs, v.oneCell' = true
  | .bool, _, _, _, h => by simp only [Rd] at h; simp [h.2, Value.oneCell']
  | .int _, _, _, _, h => by simp only [Rd] at h; simp [h.2, Value.oneCell']
  | .str, _, _, _, h => by simp only [Rd] at h; simp [h.2, Value.oneCell']
  | .unit, _, _, _, h => by simp only [Rd] at h; simp [h.2]
  | .err, _, _, _, h => by
    simp only [Rd] at h
    rcases h.2 with ⟨_, h⟩ | ⟨_, _, _, h⟩ <;> simp [h, Value.oneCell']
  | .sl _, _, _, _, h => by
    simp only [Rd] at h
    rcases h with ⟨_, _, _, h⟩ | ⟨_, _, _, _, _, h, _⟩
    · simp [h, Value.oneCell']
    · simp [h, Value.oneCell']
  | .pair a b, _, _, _, h => by
    simp only [Rd] at h
    obtain ⟨_, _, c1, c2, _, e2, h1, h2⟩ := h
    intro v hv
    rw [e2] at hv
    rcases List.mem_append.1 hv with h | h
    · exact Rd.one a h1 v h
    · exact Rd.one b h2 v h
theorem Rd.flat {w : World} : ∀ (t : Ty) {x : t.den} {S : List Nat} {cs : List Value}, t.flat = true → Rd w t x S cs → S = []
  | .bool, _, _, _, _, h => by simp only [Rd] at h; exact h.1
  | .int _, _, _, _, _, h => by simp only [Rd] at h; exact h.1
  | .str, _, _, _, _, h => by simp only [Rd] at h; exact h.1
  | .unit, _, _, _, _, h => by simp only [Rd] at h; exact h.1
  | .err, _, _, _, _, h => by simp only [Rd] at h; exact h.1
  | .sl _, _, _, _, hf, _ => by simp [Ty.flat] at hf
  | .pair a b, _, _, _, hf, h => by
    simp only [Rd] at h
    simp only [Ty.flat, Bool.and_eq_true] at hf
    obtain ⟨_, _, c1, c2, e, e2, h1, h2⟩ := h
    rw [e, Rd.flat a hf.1 h1, Rd.flat b hf.2 h2]; rfl
def NF (w : World) (b off n : Nat) : Prop := ∀ i, i < n → w.frozen? ⟨b, off + i, none⟩ = false
theorem NF.heap {w w' : World} {b off n : Nat} (h : NF w b off n) (hb : w'.heap[b]? = w.heap[b]?) : NF w' b off n := fun i hi => (World.frozen?_of_block (w := w) (a := ⟨b, off + i, none⟩) hb).trans (h i hi)
def NFr (w : World) (b off cap k : Nat) : Prop := NF w b off (cap * k) ∧ (1 < k → (∀ i, w.frozen? ⟨b, i, none⟩ = false) ∧ cap ≤ 9223372036854775807)
theorem NFr.heap {w w' : World} {b off cap k : Nat} (h : NFr w b off cap k) (hb : w'.heap[b]? = w.heap[b]?) : NFr w' b off cap k :=
  ⟨h.1.heap hb, fun e => ⟨fun i => (World.frozen?_of_block (w := w) (a := ⟨b, i, none⟩) hb).trans ((h.2 e).1 i), (h.2 e).2⟩⟩
theorem NFr.of {w w' : World} {b off cap k : Nat} (h : NFr w b off cap k) (hf : ∀ i, w'.frozen? ⟨b, i, none⟩ = w.frozen? ⟨b, i, none⟩) : NFr w' b off cap k :=
  ⟨fun i hi => (hf _).trans (h.1 i hi), fun e => ⟨fun i => (hf i).trans ((h.2 e).1 i), (h.2 e).2⟩⟩
def OwnRd (w : World) : (t : Ty) → t.den → List Nat → List Value → Prop
  | .sl t, xs, S, cs => (xs = [] ∧ S = [] ∧ cs = [.slice none 0 0]) ∨
      ∃ b off cap S', S = b :: S' ∧ cs = [.slice (some ⟨b, off, none⟩) xs.length cap] ∧ xs.length ≤ cap ∧ (∀ i, i < cap * t.size → (w.cell? ⟨b, off + i, none⟩).isSome = true) ∧ NFr w b off cap t.size ∧ RdRow (OwnRd w t) w b t.size off xs S'
  | .pair a b, x, S, cs => ∃ S1 S2 c1 c2, S = S1 ++ S2 ∧ cs = c1 ++ c2 ∧ OwnRd w a x.1 S1 c1 ∧ OwnRd w b x.2 S2 c2
  | .unit, _, S, cs => S = [] ∧ cs = []
  | .bool, x, S, cs => S = [] ∧ Rd w .bool x [] cs
  | .int k, x, S, cs => S = [] ∧ Rd w (.int k) x [] cs
  | .str, x, S, cs => S = [] ∧ Rd w .str x [] cs
  | .err, x, S, cs => S = [] ∧ Rd w .err x [] cs
theorem RdRow.imp {α : Type} {R R' : α → List Nat → List Value → Prop} {w : World} {b k : Nat} (h : ∀ x S cs, R x S cs → R' x S cs) : ∀ {xs : List α} {off : Nat} {S : List Nat}, RdRow R w b k off xs S → RdRow R' w b k off xs S
  | [], _, _, e => e
  | _ :: _, _, _, ⟨S1, S2, cs, e, hl, hs, hx, hr⟩ => ⟨S1, S2, cs, e, hl, hs, h _ _ _ hx, RdRow.imp h hr⟩
theorem OwnRd.rd {w : World} : ∀ (t : Ty) {x : t.den} {S : List Nat} {cs : List Value}, OwnRd w t x S cs → Rd w t x S cs
  | .bool, _, _, _, h => by simp only [OwnRd] at h; rw [h.1]; exact h.2
  | .int _, _, _, _, h => by simp only [OwnRd] at h; rw [h.1]; exact h.2
  | .str, _, _, _, h => by simp only [OwnRd] at h; rw [h.1]; exact h.2
  | .err, _, _, _, h => by simp only [OwnRd] at h; rw [h.1]; exact h.2
  | .unit, _, _, _, h => by simp only [OwnRd] at h; simp only [Rd]; exact h
  | .pair a b, _, _, _, h => by
    simp only [OwnRd] at h
    obtain ⟨S1, S2, c1, c2, e1, e2, h1, h2⟩ := h
    simp only [Rd]
    exact ⟨S1, S2, c1, c2, e1, e2, OwnRd.rd a h1, OwnRd.rd b h2⟩
  | .sl t, _, _, _, h => by
    simp only [OwnRd] at h
    simp only [Rd]
    rcases h with ⟨h1, h2, h3⟩ | ⟨b, off, cap, S', e1, e2, e3, _, _, hr⟩
    · exact .inl ⟨h1, h2, none, h3⟩
    · exact .inr ⟨b, off, cap, S', e1, e2, e3, hr.imp fun _ _ _ h => OwnRd.rd t h⟩
theorem OwnRd.mono {w w' : World} : ∀ (t : Ty) {x : t.den} {S : List Nat} {cs : List Value}, (∀ b ∈ S, w'.heap[b]? = w.heap[b]?) → OwnRd w t x S cs → OwnRd w' t x S cs
  | .bool, _, _, _, _, h => h
  | .int _, _, _, _, _, h => h
  | .str, _, _, _, _, h => h
  | .unit, _, _, _, _, h => h
  | .err, _, _, _, _, h => h
  | .pair a b, x, S, cs, hS, h => by
    simp only [OwnRd] at h ⊢
    obtain ⟨S1, S2, c1, c2, e1, e2, h1, h2⟩ := h
    exact ⟨S1, S2, c1, c2, e1, e2, OwnRd.mono a (fun c hc => hS c (by rw [e1]; exact List.mem_append.2 (.inl hc))) h1,
      OwnRd.mono b (fun c hc => hS c (by rw [e1]; exact List.mem_append.2 (.inr hc))) h2⟩
  | .sl t, xs, S, cs, hS, h => by
    simp only [OwnRd] at h ⊢
    rcases h with h | ⟨b, off, cap, S', e1, e2, e3, e4, e5, hr⟩
    · exact .inl h
    · have hb := hS b (by rw [e1]; simp)
      refine .inr ⟨b, off, cap, S', e1, e2, e3, fun i hi => by rw [World.cell?_of_block (w := w) (a := ⟨b, off + i, none⟩) hb]; exact e4 i hi, e5.heap hb, ?_⟩
      exact RdRow.mono hb xs off S' (fun x S'' cs hs hx => OwnRd.mono t (fun c hc => hS c (by rw [e1]; exact List.mem_cons_of_mem _ (hs c hc))) hx) hr
theorem Rd.own {w : World} : ∀ (t : Ty) {x : t.den} {S : List Nat} {cs : List Value}, t.flat = true → Rd w t x S cs → OwnRd w t x S cs
  | .bool, _, _, _, hf, h => by have e := Rd.flat _ hf h; subst e; simp only [OwnRd]; exact ⟨trivial, h⟩
  | .int _, _, _, _, hf, h => by have e := Rd.flat _ hf h; subst e; simp only [OwnRd]; exact ⟨trivial, h⟩
  | .str, _, _, _, hf, h => by have e := Rd.flat _ hf h; subst e; simp only [OwnRd]; exact ⟨trivial, h⟩
  | .err, _, _, _, hf, h => by have e := Rd.flat _ hf h; subst e; simp only [OwnRd]; exact ⟨trivial, h⟩
  | .unit, _, _, _, _, h => by simp only [Rd] at h; simp only [OwnRd]; exact h
  | .sl _, _, _, _, hf, _ => by simp [Ty.flat] at hf
  | .pair a b, _, _, _, hf, h => by
    simp only [Rd] at h
    simp only [Ty.flat, Bool.and_eq_true] at hf
    obtain ⟨S1, S2, c1, c2, e1, e2, h1, h2⟩ := h
    simp only [OwnRd]
    exact ⟨S1, S2, c1, c2, e1, e2, Rd.own a hf.1 h1, Rd.own b hf.2 h2⟩
def ERd : Bool → World → (t : Ty) → t.den → List Nat → List Value → Prop
  | true, w, t => OwnRd w t
  | false, w, t => Rd w t
theorem ERd.rd {w : World} {d : Bool} (t : Ty) {x : t.den} {S : List Nat} {cs : List Value} (h : ERd d w t x S cs) : Rd w t x S cs := by
  cases d with
  | true => exact OwnRd.rd t h
  | false => exact h
theorem ERd.mono {w w' : World} {d : Bool} (t : Ty) {x : t.den} {S : List Nat} {cs : List Value} (hS : ∀ b ∈ S, w'.heap[b]? = w.heap[b]?) (h : ERd d w t x S cs) : ERd d w' t x S cs := by
  cases d with
  | true => exact OwnRd.mono t hS h
  | false => exact Rd.mono t hS h
theorem ERd.of_flat {w : World} {d : Bool} (t : Ty) {x : t.den} {S : List Nat} {cs : List Value} (hf : t.flat = true) (h : Rd w t x S cs) : ERd d w t x S cs := by
  cases d with
  | true => exact Rd.own t hf h
  | false => exact h
theorem ERd.weak {w : World} {d d' : Bool} (t : Ty) {x : t.den} {S : List Nat} {cs : List Value} (hd : d' = true → d = true ∨ t.flat = true) (h : ERd d w t x S cs) : ERd d' w t x S cs := by
  cases d' with
  | false => exact h.rd
  | true =>
    rcases hd rfl with e | e
    · subst e; exact h
    · exact ERd.of_flat t e h.rd
theorem ERd.sl {w : World} {d : Bool} {t : Ty} {xs : List t.den} {S : List Nat} {cs : List Value} (h : ERd d w (.sl t) xs S cs) : (xs = [] ∧ S = [] ∧ ∃ a, cs = [.slice a 0 0]) ∨
      ∃ b off cap S', S = b :: S' ∧ cs = [.slice (some ⟨b, off, none⟩) xs.length cap] ∧ xs.length ≤ cap ∧ RdRow (ERd d w t) w b t.size off xs S' := by
  cases d with
  | false => simp only [ERd, Rd] at h; exact h
  | true =>
    simp only [ERd, OwnRd] at h
    rcases h with ⟨h1, h2, h3⟩ | ⟨b, off, cap, S', e1, e2, e3, _, _, hr⟩
    · exact .inl ⟨h1, h2, none, h3⟩
    · exact .inr ⟨b, off, cap, S', e1, e2, e3, hr⟩

section rows
variable {α : Type} {R : α → List Nat → List Value → Prop} {w : World} {b k : Nat}
theorem RdRow.get : ∀ {xs : List α} {off : Nat} {S : List Nat}, RdRow R w b k off xs S → ∀ (i : Nat) (hi : i < xs.length),
    ∃ S' cs, (∀ c ∈ S', c ∈ S) ∧ cs.length = k ∧ Seg w b (off + i * k) cs ∧ R xs[i] S' cs
  | x :: xs, off, S, ⟨S1, S2, cs, e, hl, hs, hx, hr⟩, 0, _ => ⟨S1, cs, fun c hc => by rw [e]; exact List.mem_append.2 (.inl hc), hl, by simpa using hs, hx⟩
  | x :: xs, off, S, ⟨S1, S2, cs, e, hl, hs, hx, hr⟩, i + 1, hi => by
    obtain ⟨S', ds, h1, h2, h3, h4⟩ := RdRow.get hr i (by simpa using hi)
    exact ⟨S', ds, fun c hc => by rw [e]; exact List.mem_append.2 (.inr (h1 c hc)), h2, by rw [show off + (i + 1) * k = off + k + i * k by rw [Nat.add_mul]; omega]; exact h3, by simpa using h4⟩
theorem RdRow.append : ∀ {xs ys : List α} {off : Nat} {S S' : List Nat}, RdRow R w b k off xs S → RdRow R w b k (off + xs.length * k) ys S' → RdRow R w b k off (xs ++ ys) (S ++ S')
  | [], ys, off, S, S', h, h' => by
    simp only [RdRow] at h; subst h; simpa using h'
  | x :: xs, ys, off, S, S', ⟨S1, S2, cs, e, hl, hs, hx, hr⟩, h' => by
    refine ⟨S1, S2 ++ S', cs, by rw [e, List.append_assoc], hl, hs, hx, RdRow.append hr ?_⟩
    rw [show off + k + xs.length * k = off + (x :: xs).length * k by simp [Nat.add_mul]; omega]; exact h'
theorem RdRow.split : ∀ {xs ys : List α} {off : Nat} {S : List Nat}, RdRow R w b k off (xs ++ ys) S → ∃ S1 S2, S = S1 ++ S2 ∧ RdRow R w b k off xs S1 ∧ RdRow R w b k (off + xs.length * k) ys S2
  | [], ys, off, S, h => ⟨[], S, rfl, rfl, by simpa using h⟩
  | x :: xs, ys, off, S, ⟨S1, S2, cs, e, hl, hs, hx, hr⟩ => by
    obtain ⟨T1, T2, e', h1, h2⟩ := RdRow.split hr
    refine ⟨S1 ++ T1, T2, by rw [e, e', List.append_assoc], ⟨S1, T1, cs, rfl, hl, hs, hx, h1⟩, ?_⟩
    rw [show off + (x :: xs).length * k = off + k + xs.length * k by simp [Nat.add_mul]; omega]; exact h2
theorem RdRow.cells : ∀ {xs : List α} {off : Nat} {S : List Nat}, RdRow R w b k off xs S → ∃ cs, cs.length = xs.length * k ∧ Seg w b off cs
  | [], off, _, _ => ⟨[], by simp, Seg.nil _ _ _⟩
  | x :: xs, off, S, ⟨S1, S2, cs, e, hl, hs, hx, hr⟩ => by
    obtain ⟨ds, h1, h2⟩ := RdRow.cells hr
    exact ⟨cs ++ ds, by simp [hl, h1, Nat.add_mul]; omega, hs.append (by rw [hl]; exact h2)⟩
theorem RdRow.move {R' : α → List Nat → List Value → Prop} {w' : World} {b' : Nat} : ∀ {xs : List α} {off off' : Nat} {S : List Nat} (cs : List Value), cs.length = xs.length * k → Seg w b off cs → Seg w' b' off' cs →
    (∀ x S' cs, (∀ c ∈ S', c ∈ S) → R x S' cs → R' x S' cs) → RdRow R w b k off xs S → RdRow R' w' b' k off' xs S
  | [], _, _, _, _, _, _, _, _, h => h
  | x :: xs, off, off', S, cs, hl, hs, hs', hR, ⟨S1, S2, ds, e, hd, hsd, hx, hr⟩ => by
    have hk : k ≤ cs.length := by rw [hl]; simp [Nat.add_mul]
    have e1 : ds = cs.take k := by
      apply List.ext_getElem (by simp [hd]; omega)
      intro i h1 h2
      have a1 := hsd i h1
      have a2 := hs i (by simp at h2; omega)
      rw [a1] at a2
      simpa using a2
    refine ⟨S1, S2, ds, e, hd, by rw [e1]; exact hs'.take k, hR x S1 ds (fun c hc => by rw [e]; exact List.mem_append.2 (.inl hc)) hx, ?_⟩
    exact RdRow.move (cs.drop k) (by simp [hl, Nat.add_mul]) (hs.drop k) (hs'.drop k) (fun x S' cs hS => hR x S' cs (fun c hc => by rw [e]; exact List.mem_append.2 (.inr (hS c hc)))) hr
end rows

end Go.Proofs.Fw
