/- From a law's contract to the row that says it: the join. -/
import Derived.Test.YtjblmapbompclaaGreatFwZh
import Derived.Below
import Derived.ChangeSame
set_option linter.all false
namespace Go.Proofs.Fw
open Go Go.ChangeShapes Go.WideShapes Go.ChangeAt Go.RowKit Go.WideElems

section
variable [GInv] {H : Type} {enc : TypeId × Value → H} {P : Program}
theorem post_below {f : Func} {s : ChangeSpec} {apart fresh handsOn again : Bool} {W W' : World} {args : Array Value} {v : Value} {ds gs : List (DataW H)} {before pa pv : List MemPlace}
    (hW : DataW.Whole enc P f.params.toList s.vars apart W args.toList ds gs before)
    (hres : ∀ (b : Nat) (sp : Nat → Bool) (hd : Bool), DataW.TrodAll enc P W' b sp hd f.resultTypes.toList (v.resultList f.resultTypes.size) (s.fn H (ds ++ gs)).results [])
    (hargs : ∀ sp : Nat → Bool, (∀ p ∈ before, sp p.block = true) → DataW.TrodAll enc P W' 0 sp true f.params.toList args.toList (s.fn H (ds ++ gs)).args pa)
    (hvars : ∀ sp : Nat → Bool, (∀ p ∈ before, sp p.block = true) → DataW.TrodVars enc P W' sp s.vars (s.fn H (ds ++ gs)).vars pv)
    (hps : before = pa ++ pv) (hb : Below W.heap.size W W')
    (hok : ∀ (j : Nat) (t : TypeId) (r : Value), f.resultTypes[j]? = some t → (v.resultList f.resultTypes.size)[j]? = some r → Value.okWide P W' .any 0 t r) :
    s.post enc P f apart fresh handsOn again W args v W' := by
  have hlt : ∀ p ∈ before, p.block < W.heap.size := fun p hp => hW.lt p hp
  have hold : ∀ p ∈ before, (fun b => decide (b < W.heap.size)) p.block = true := fun p hp => by simpa using hlt p hp
  refine ⟨ds, gs, before, [], pa, pv, hW, hres _ _ _, hargs _ hold, hvars _ hold, World.keptBut_mono (fun p hp => ⟨hp, ?_⟩) (hb.frame (· ∈ before)), fun _ => ?_⟩
  · rw [hps, List.mem_append] at hp
    exact .inr hp
  · obtain ⟨_, _, _, _, _, hz, hn⟩ := hW
    refine ⟨hok, _, _, ([] ++ pa) ++ pv, ⟨[] ++ pa, pv, trodAll_append (hargs _ (fun _ _ => rfl)) (hres _ _ _), hvars _ (fun _ _ => rfl), rfl, ?_, ?_⟩, ?_⟩
    · intro b off hp
      have hin : MemPlace.cell b off ∈ before := by rw [hps]; simpa using hp
      rw [hb.frozen (hlt _ hin)]
      exact hz b off hin
    · intro ha
      have := hn ha
      rw [hps] at this
      simpa using this
    · intro p hp _
      rw [hps]
      simpa using hp
def insIs (P : Program) (n : Nat) : List TypeId → List PK → Bool
  | [], [] => true
  | T :: ts, .val ag t :: r => (ag == isStruct P T) && tyIs P n T t && P.readableRec T && decide (T < P.types.size) && insIs P n ts r
  | _, _ => false
def WfIns : (ins : List PK) → (insTy ins).den → Prop
  | [], _ => True
  | .val _ t :: r, x => WfD t x.1 ∧ WfIns r x.2
  | .ptr t :: r, x => WfD t x.1 ∧ WfIns r x.2
  | .mut _ t :: r, x => WfD t x.1 ∧ WfIns r x.2
  | .take _ t :: r, x => WfD t x.1 ∧ WfIns r x.2
  | .fn _ _ :: r, x => WfIns r x.2
theorem val_rd {w : World} {n base : Nat} {T : TypeId} {t : Ty} {v : Value} {d : DataW H} {ps : List MemPlace} (h : tyIs P n T t = true) (hk : Value.okWide P w .any base T v)
    (hd : DataW.Trod enc P w 0 (fun _ => true) true T v d ps) : ∃ x S, ValRd w (isStruct P T) t x S v ∧ (∀ b ∈ S, ∃ off, MemPlace.cell b off ∈ ps) ∧ WfD t x := by
  obtain ⟨fuel, hd⟩ := hd
  obtain ⟨x, S, h1, h2, h3⟩ := trod_rd n fuel T t _ d ps h hd
  refine ⟨x, S, ?_, h2, h3⟩
  cases n with
  | zero => simp [tyIs] at h
  | succ n =>
    unfold tyIs at h
    cases hu : P.underlying T with
    | none => rw [hu] at h; simp at h
    | some u =>
      rw [hu] at h
      unfold ValRd isStruct
      rw [hu]
      cases u with
      | bool => obtain ⟨b, rfl⟩ := okWide_bool hu hk; simpa [Value.cells] using h1
      | int k => obtain ⟨b, rfl⟩ := okWide_int hu hk; simpa [Value.cells] using h1
      | string => obtain ⟨b, rfl⟩ := okWide_string hu hk; simpa [Value.cells] using h1
      | slice e => obtain ⟨a, l, c, rfl⟩ := okWide_slice hu hk; simpa [Value.cells] using h1
      | struct fs =>
        obtain ⟨cs, rfl, _⟩ := okWide_struct hu hk
        exact ⟨cs.toList, rfl, h1⟩
      | _ => cases t <;> simp at h
theorem args_rd {w : World} {n base : Nat} {W' : World} : ∀ (ts : List TypeId) (ins : List PK) (vs : List Value) (ds : List (DataW H)) (ps : List MemPlace), insIs P n ts ins = true →
    (∀ (j : Nat) t v, ts[j]? = some t → vs[j]? = some v → Value.okWide P w .any base t v) → DataW.TrodAll enc P w 0 (fun _ => true) true ts vs ds ps → (∀ p ∈ ps, p.block < w.heap.size) →
    ∃ x, ArgsRd w (fun b => b < w.heap.size) ins vs x [] ∧ WfIns ins x
  | [], ins, vs, ds, ps, h, hk, hd, hl => by
    cases ins with
    | cons _ _ => simp [insIs] at h
    | nil =>
      cases vs with
      | nil => exact ⟨(), ⟨rfl, rfl⟩, trivial⟩
      | cons _ _ => cases ds <;> simp [DataW.TrodAll] at hd
  | T :: ts, ins, vs, ds, ps, h, hk, hd, hl => by
    cases ins with
    | nil => simp [insIs] at h
    | cons p r =>
      cases p with
      | val ag t =>
        simp only [insIs, Bool.and_eq_true, beq_iff_eq, decide_eq_true_eq] at h
        obtain ⟨⟨⟨⟨h1, h2⟩, _⟩, _⟩, h3⟩ := h
        cases vs with
        | nil => cases ds <;> simp [DataW.TrodAll] at hd
        | cons v vs =>
          cases ds with
          | nil => simp [DataW.TrodAll] at hd
          | cons d ds =>
            obtain ⟨p1, p2, g1, g2, rfl⟩ := hd
            obtain ⟨x, S, q1, q2, q3⟩ := val_rd h2 (hk 0 T v rfl rfl) g1
            obtain ⟨y, q4, q5⟩ := args_rd (W' := W') ts r vs ds p2 h3 (fun j t v ht hv => hk (j + 1) t v (by simpa using ht) (by simpa using hv)) g2 (fun p hp => hl p (List.mem_append_right _ hp))
            refine ⟨(x, y), ⟨v, vs, S, rfl, by rw [h1]; exact q1, fun b hb => ?_, q4⟩, q3, q5⟩
            obtain ⟨off, ho⟩ := q2 b hb
            exact hl _ (List.mem_append_left _ ho)
      | _ => simp [insIs] at h
theorem args_stay {w W' : World} {n : Nat} (hlo : laidOutB P = true) {sp : Nat → Bool} : ∀ (ts : List TypeId) (ins : List PK) (vs : List Value) (ds : List (DataW H)) (ps : List MemPlace), insIs P n ts ins = true →
    DataW.TrodAll enc P w 0 (fun _ => true) true ts vs ds ps → (∀ p ∈ ps, w.sameAt W' p) → (∀ p ∈ ps, sp p.block = true) → DataW.TrodAll enc P W' 0 sp true ts vs ds ps
  | [], ins, vs, ds, ps, h, hd, hs, hp => by
    cases vs <;> cases ds <;> first | exact hd | simp [DataW.TrodAll] at hd
  | T :: ts, ins, vs, ds, ps, h, hd, hs, hp => by
    cases ins with
    | nil => simp [insIs] at h
    | cons p r =>
      cases p with
      | val ag t =>
        simp only [insIs, Bool.and_eq_true, beq_iff_eq, decide_eq_true_eq] at h
        obtain ⟨⟨⟨⟨h1, h2⟩, hr⟩, hro⟩, h3⟩ := h
        cases vs with
        | nil => cases ds <;> simp [DataW.TrodAll] at hd
        | cons v vs =>
          cases ds with
          | nil => simp [DataW.TrodAll] at hd
          | cons d ds =>
            obtain ⟨p1, p2, g1, g2, rfl⟩ := hd
            exact ⟨p1, p2, Trod_stays hlo hr hro g1 (fun p hp => hs p (List.mem_append_left _ hp)) (fun p hp' => hp p (List.mem_append_left _ hp')),
              args_stay hlo ts r vs ds p2 h3 g2 (fun p hp => hs p (List.mem_append_right _ hp)) (fun p hp' => hp p (List.mem_append_right _ hp')), rfl⟩
      | _ => simp [insIs] at h
theorem law_contract {g n : Nat} {fn : Func} {s : ChangeSpec} {apart fresh handsOn again ow : Bool} {T : TypeId} {ins : List PK} {F : (insTy ins).den → Option ((outsTy [⟨false, .bool, ow⟩]).den × (ptrTy ins).den)}
    (hlo : laidOutB P = true) (hT : P.underlying T = some .bool) (hrt : fn.resultTypes = #[T]) (hins : insIs P n fn.params.toList ins = true)
    (hv : s.vars = []) (hs : ∀ ds : List (DataW H), ds.length = fn.params.size → s.fn H ds = { results := [.lit (.bool true)], args := ds })
    (ok : Ok P g ⟨ins, [⟨false, .bool, ow⟩], F⟩) (hF : ∀ x, WfIns ins x → ∃ p, F x = some ((true, ()), p))
    (W : World) (base : Nat) (args : Array Value) (ds gs : List (DataW H)) (before : List MemPlace)
    (hval : ∀ (j : Nat) t v, fn.params[j]? = some t → args[j]? = some v → Value.okWide P W .any base t v)
    (hW : DataW.Whole enc P fn.params.toList s.vars apart W args.toList ds gs before) (hJ : GInv.J W ∧ ∀ b, GInv.S b → b < W.heap.size) :
    Calls P g args W fun e W' => ∃ v, e = .returned v ∧ s.post enc P fn apart fresh handsOn again W args v W' := by
  have hW' := hW
  obtain ⟨p, q, hA, hV, hpq, hfz, hnd⟩ := hW
  rw [hv] at hV
  obtain ⟨rfl, rfl⟩ := trodVars_none hV
  rw [List.append_nil] at hpq
  subst hpq
  obtain ⟨x, hx1, hx2⟩ := args_rd (W' := W) fn.params.toList ins args.toList ds before hins (fun j t v ht hv => hval j t v (by simpa using ht) (by simpa using hv)) hA (fun p hp => hW'.lt p hp)
  obtain ⟨pp, hFx⟩ := hF x hx2
  have hc := ok.2 W args.toList x _ [] (fun b => b < W.heap.size) hJ.1 hJ.2 hx1 (fun _ h => h) (by simp) (by simp) hFx
  rw [Array.toArray_toList] at hc
  refine hc.mono fun e W' ⟨us, B', O, bs', he, hk, _, _, _, _, hO, _⟩ => ?_
  obtain ⟨u, us', S, O', rfl, h1, h2⟩ := hO
  obtain ⟨rfl, _⟩ := h2
  have hu : u = .bool true := by
    cases ow
    · simp only [Bool.false_eq_true, if_false, ValRd] at h1
      obtain ⟨h1, _⟩ := h1
      unfold Rd at h1
      exact (List.cons.inj h1.2).1
    · simp only [if_true, OwnV, Bool.false_eq_true, if_false] at h1
      obtain ⟨h1, _⟩ := h1
      unfold OwnRd at h1
      have h1 := h1.2
      unfold Rd at h1
      exact (List.cons.inj h1.2).1
  subst hu
  refine ⟨.bool true, he, ?_⟩
  have hb : Below W.heap.size W W' := ⟨hk.os, hk.tape, hk.output, hk.size, fun k hk' => hk.block k hk' (by simp; omega)⟩
  have hlen : ds.length = fn.params.size := by
    have : ∀ (ts : List TypeId) (vs : List Value) (ds : List (DataW H)) (ps : List MemPlace), DataW.TrodAll enc P W 0 (fun _ => true) true ts vs ds ps → ds.length = ts.length := by
      intro ts
      induction ts with
      | nil => intro vs ds ps h; cases vs <;> cases ds <;> first | rfl | simp [DataW.TrodAll] at h
      | cons T ts ih =>
        intro vs ds ps h
        cases vs <;> cases ds <;> first | (simp [DataW.TrodAll] at h; done) | skip
        obtain ⟨_, _, _, h, _⟩ := h
        simp [ih _ _ _ h]
    simpa using this _ _ _ _ hA
  have hsn := hs ds hlen
  refine post_below (pa := before) (pv := []) hW' ?_ ?_ ?_ (by simp) hb ?_
  · intro b sp hd
    rw [List.append_nil, hsn, hrt]
    exact ⟨[], [], ⟨1, by simp [DataW.trod, hT, Value.cells]⟩, rfl, rfl⟩
  · intro sp hsp
    rw [List.append_nil, hsn]
    exact args_stay hlo fn.params.toList ins args.toList ds before hins hA (fun p hp => hb.same (hW'.lt p hp)) hsp
  · intro sp hsp
    rw [List.append_nil, hsn, hv]
    rfl
  · intro j t r ht hr
    rw [hrt] at ht hr
    match j, ht, hr with
    | 0, ht, hr =>
      obtain rfl : T = t := by simpa using ht
      have hr : some (Value.bool true) = some r := hr
      obtain rfl := Option.some.inj hr
      exact okWide_bool_mk hT true
    | j + 1, ht, hr => simp at ht
end
end Go.Proofs.Fw
