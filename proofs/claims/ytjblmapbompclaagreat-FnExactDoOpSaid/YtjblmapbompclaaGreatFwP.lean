/- make; conversions. -/
import Derived.Test.YtjblmapbompclaaGreatFwO
import Derived.Lib.ConvBytes
import Derived.Laws.BytesArg
set_option linter.all false
namespace Go.Proofs.Fw
open Go

section
variable [GInv] {R : Type} {P : Program} {c : Cfg} {X : Ctx} {st : St} {a : Act} {w : World} {A : Nat → Prop} {W : Wit} {V : Nat → Value} {o : Oper} {k : St → Option R} {r : R} {Q : Exit → Act → World → Prop}
theorem replicate_row {t : Ty} {zs : List Value} {b : Nat} (hz : OwnRd w t t.dflt [] zs) : ∀ (m off : Nat), (∀ j, j < m → Seg w b (off + j * t.size) zs) → RdRow (ERd true w t) w b t.size off (List.replicate m t.dflt) []
  | 0, _, _ => rfl
  | m + 1, off, h => by
    rw [List.replicate_succ]
    refine ⟨[], [], zs, rfl, (OwnRd.rd t hz).length, by simpa using h 0 (by omega), hz, replicate_row hz m (off + t.size) (fun j hj => ?_)⟩
    have := h (j + 1) (by omega)
    rwa [show off + (j + 1) * t.size = off + t.size + j * t.size by rw [Nat.add_mul]; omega] at this
theorem makeSlice_core (hc : chkAll P c.tab = true) {T e by_ : Nat} {t : Ty} {l m : Operand} (hd : ∀ d : Nat, o.dst = some d → d < X.f.n) (ho : o.op = .makeSlice T l m) (hi : Inv X st a w A W V)
    (ha : assoc T c.tab = some (.slice e t by_)) {n n' : Int} (hl : RepAV A W w (.d (.int .i64) n) (a.eval l)) (hm : RepAV A W w (.d (.int .i64) n') (a.eval m)) (h1 : 0 ≤ n) (h2 : n ≤ n') (h3 : n' ≤ 268435456)
    (hk : k ((st.newLoc (.row t (List.replicate n.toNat t.dflt) true)).put X.f o.dst (.row st.nl)) = some r) : o.wp P a w (Post X k r) Q := by
  obtain ⟨_, _, ie, ze, _, hu, hie, _, _, _, _, hsz, hby, hze, hzc, hpos⟩ := chk_slice (assoc_chk hc ha)
  have hzr := zCells_own hzc
  have hzlen : ze.cells.size = t.size := by simpa using (OwnRd.rd t (hzr w)).length
  have w1 : IntKind.i64.wrap n = n := by simp only [IntKind.wrap, IntKind.signed, IntKind.bits]; simp; omega
  have w2 : IntKind.i64.wrap n' = n' := by simp only [IntKind.wrap, IntKind.signed, IntKind.bits]; simp; omega
  let arr : Array Value := (Array.range (n'.toNat * ie.size)).map (fun i => (if n'.toNat * ie.size = 0 then #[] else ze.cells)[i % (if n'.toNat * ie.size = 0 then #[] else ze.cells).size]!)
  have run : (Instr.makeSlice T (a.eval l) (a.eval m)).run P w = .ok (.slice (some ⟨w.heap.size, 0, none⟩) n.toNat n'.toNat) (mkW w (.cells arr e)) := by
    rw [hl.int, hm.int]
    have hb : ¬ ((n' < 0) ∨ ((ie.bytes : Int) * n' > 2 ^ 48)) := by
      have : (ie.bytes : Int) * n' ≤ 65536 * 268435456 := Int.mul_le_mul (by omega) h3 (by omega) (by omega)
      omega
    simp only [Instr.makeSlice, Sem.run_bind, run_underlying' hu, Result.andThen_ok, asInt, asIntOf, Sem.run_pure, run_typeInfo' hie, w1, w2, Sem.run_ite]
    rw [if_neg (by simp only [Bool.or_eq_true, decide_eq_true_eq]; omega)]
    simp only [Sem.run_bind, run_askRoom, Result.andThen_ok, run_sizeOf' hie]
    by_cases h0 : n'.toNat * ie.size = 0
    · simp only [h0, if_true, Sem.run_pure, Result.andThen_ok, newRow, Sem.run_bind, run_newObj]
      simp [arr, h0, mkW]
    · simp only [h0, if_false, Sem.run_pure, Sem.run_bind, run_zeroValue' hie hze, Result.andThen_ok, newRow, run_newObj]
      simp [arr, h0, mkW]
  have hseg : ∀ j, j < n.toNat → Seg (mkW w (.cells arr e)) w.heap.size (0 + j * t.size) ze.cells.toList := fun j hj i hi' => by
    rw [mkW_cell]
    have hi2 : i < t.size := by rw [← hzlen]; simpa using hi'
    have hlt : 0 + j * t.size + i < n'.toNat * ie.size := by
      rw [hsz]
      have : j + 1 ≤ n'.toNat := by omega
      have := Nat.mul_le_mul_right t.size this
      rw [Nat.add_mul] at this
      omega
    have h0 : n'.toNat * ie.size ≠ 0 := by omega
    rw [Array.getElem?_eq_getElem (by simpa [arr] using hlt)]
    simp only [arr, Array.getElem_map, Array.getElem_range, if_neg h0, hzlen]
    have hmod : (0 + j * t.size + i) % t.size = i := by
      rw [Nat.zero_add, Nat.mul_comm, Nat.mul_add_mod, Nat.mod_eq_of_lt hi2]
    rw [hmod]
    rw [getElem!_pos ze.cells i (by omega)]
    simp
  obtain ⟨W', p1, p2⟩ := hi.newRow (t := t) (xs := List.replicate n.toNat t.dflt) (dp := true) (cells := arr) (T := e) (fz := (0, 0)) (cap := n'.toNat) (S := []) (by simpa using Free.nil) (by simp; omega)
    (by simp [arr, hsz]) (.inr rfl) (fun _ => ⟨rfl, by omega⟩) (fun h => by cases h) (by simp) (replicate_row (hzr _) _ _ hseg)
  rw [List.length_replicate] at p2
  refine wp_value hd ?_ p1 p2 hk
  simp only [execOp, ho, Sem.run_bind, run, Result.andThen_ok, Sem.run_pure]
theorem op_makeSlice (hc : chkAll P c.tab = true) {T : Nat} {l m : Operand} (hd : ∀ d : Nat, o.dst = some d → d < X.f.n) (ho : o.op = .makeSlice T l m) (hi : Inv X st a w A W V)
    (hk : (match assoc T c.tab, opnd X.f st l, opnd X.f st m with
    | some (.slice _ t _), .d (.int .i64) n, .d (.int .i64) n' =>
      bif (decide (0 ≤ n) && decide (n ≤ n') && decide (n' ≤ (maxGrow : Int))) then
        k ((st.newLoc (.row t (List.replicate n.toNat t.dflt) true)).put X.f o.dst (.row st.nl))
      else none
    | _, _, _ => none) = some r) : o.wp P a w (Post X k r) Q := by
  have hl := hi.opnd l
  have hm := hi.opnd m
  split at hk
  · rename_i e t by_ n n' ha e1 e2
    rw [e1] at hl
    rw [e2] at hm
    obtain ⟨h1, hk⟩ := cond_some hk
    simp only [Bool.and_eq_true, decide_eq_true_eq] at h1
    obtain ⟨⟨h1, h2⟩, h3⟩ := h1
    exact makeSlice_core hc hd ho hi ha hl hm h1 h2 h3 hk
  · cases hk
theorem tyOf_under (hc : chkAll P c.tab = true) {T : Nat} {ag : Bool} {t : Ty} (h : tyOf c T = some (ag, t)) : ∃ d, P.underlying T = some d := by
  unfold tyOf at h
  cases ha : assoc T c.tab with
  | none => rw [ha] at h; simp at h
  | some i =>
    have hk := assoc_chk hc ha
    cases i with
    | leaf t' => obtain ⟨_, d, _, _, hd, _⟩ := chk_leaf hk; exact ⟨d, hd⟩
    | slice e t' b => obtain ⟨_, _, _, _, _, hd, _⟩ := chk_slice hk; exact ⟨_, hd⟩
    | struct t' fs => obtain ⟨_, _, _, _, hd, _⟩ := chk_struct hk; exact ⟨_, hd⟩
    | one => rw [ha] at h; simp [TyI.ty] at h
    | map _ => rw [ha] at h; simp [TyI.ty] at h
theorem bytes_row : ∀ (s : List UInt8) (b off : Nat), (∀ j, j < s.length → w.cell? ⟨b, off + j, none⟩ = some (.int .u8 (s.getD j 0).toNat)) → RdRow (Rd w (.int .u8)) w b 1 off (bytesIn s) []
  | [], _, _, _ => rfl
  | x :: s, b, off, h => by
    refine ⟨[], [], [.int .u8 x.toNat], rfl, rfl, fun i hi => ?_, by simp [Rd], bytes_row s b (off + 1) (fun j hj => ?_)⟩
    · have : i = 0 := by simpa using hi
      subst this
      simpa using h 0 (by simp)
    · have := h (j + 1) (by simpa using hj)
      rw [show off + 1 + j = off + (j + 1) by omega, this]; simp
theorem row_bytes : ∀ {xs : List Int} {b off : Nat} {S : List Nat}, RdRow (Rd w (.int .u8)) w b 1 off xs S → ∀ j, j < xs.length → w.cell? ⟨b, off + j, none⟩ = some (.int .u8 (xs.getD j 0))
  | x :: xs, b, off, S, ⟨S1, S2, cs, _, hl, hs, hx, hr⟩, 0, _ => by
    simp only [Rd] at hx
    obtain ⟨_, rfl⟩ := hx
    simpa using hs.head
  | x :: xs, b, off, S, ⟨S1, S2, cs, _, hl, hs, hx, hr⟩, j + 1, hj => by
    have := row_bytes hr j (by simpa using hj)
    rw [show off + (j + 1) = off + 1 + j by omega, this]; simp
theorem op_convert (hc : chkAll P c.tab = true) {S D : Nat} {x : Operand} (hd : ∀ d : Nat, o.dst = some d → d < X.f.n) (ho : o.op = .convert S D x) (hi : Inv X st a w A W V)
    (hk : convK c S D (opnd X.f st x) st (fun v st => k (st.put X.f o.dst v)) = some r) : o.wp P a w (Post X k r) Q := by
  have hx := hi.opnd x
  unfold convK at hk
  split at hk
  · cases hk
  · rename_i ag ts hs
    obtain ⟨ds, hds⟩ := tyOf_under hc hs
    split at hk
    · rename_i j j' n hD e
      rw [e] at hx
      obtain ⟨h1, hk⟩ := cond_some hk
      have hu := leaf_int hc h1
      refine wp_value hd (v := .int j (j.wrap n)) ?_ hi (RepAV.mkInt _ _) hk
      simp [execOp, ho, hx.int, convert, run_underlying' hds, run_underlying' hu, Conv.intToInt]
    · rename_i s hD e
      rw [e] at hx
      obtain ⟨h1, hk⟩ := cond_some hk
      have hu := leaf_str hc h1
      refine wp_value hd (v := .string ⟨s.toArray⟩) ?_ hi (RepAV.mkStr _) hk
      simp [execOp, ho, hx.str, convert, run_underlying' hds, run_underlying' hu]
    · rename_i s hD e
      rw [e] at hx
      obtain ⟨h1, hk⟩ := cond_some hk
      simp only [Bool.and_eq_true] at h1
      obtain ⟨el, ie, ze, hu, hel, _⟩ := elemAt_get hc h1.1
      have he := leaf_int hc h1.2
      rw [hel] at he
      let s' : ByteArray := ⟨s.toArray⟩
      have hsz : s'.size = s.length := by simp [s', ByteArray.size]
      have hcap : s.length ≤ grownCap w s'.size 0 el := by
        rw [hsz]; unfold grownCap Question.cut; simp only; omega
      have run := Lib.run_convert_string_bytes (P := P) w S D el s' hds hu he
      have hold := Lib.bytesWorld_at_old w el s'
      have hnew := Lib.bytesWorld_at_new w el s'
      have hwsz := Lib.bytesWorld_size w el s'
      have kept : Kept X.M w (Lib.bytesWorld w el s') := ⟨rfl, rfl, rfl, by rw [hwsz]; omega, fun b hb _ => hold b hb⟩
      have hcs : (Lib.bytesCells w el s').size = grownCap w s'.size 0 el := by
        simp [Lib.bytesCells]
        have : s'.data.size = s.length := by simp [s']
        omega
      obtain ⟨W', p1, p2⟩ := hi.newRowAt (t := .int .u8) (xs := bytesIn s) (dp := true) (cap := grownCap w s'.size 0 el) (S := []) hwsz hold hnew kept (by simpa using Free.nil)
        (by simpa [bytesIn] using hcap) (by simp [Ty.size, hcs]) (.inl (by simp [Ty.size, hcs])) (fun h => absurd h (by simp [Ty.size])) (fun h => by cases h) (by simp)
        ((bytes_row s _ 0 (fun j hj => by
          have := Lib.bytesWorld_cell w el s' j (by rw [hsz]; exact hj)
          simpa [s'] using this)).imp fun _ _ _ h => ERd.of_flat _ rfl h)
      have hbl : (bytesIn s).length = s'.size := by rw [hsz]; simp [bytesIn]
      rw [hbl] at p2
      refine wp_value hd ?_ p1 p2 hk
      simp only [execOp, ho, hx.str, Sem.run_bind]
      rw [run]; rfl
    · rename_i v hD hv
      obtain ⟨h1, hk⟩ := cond_some hk
      simp only [Bool.and_eq_true] at h1
      obtain ⟨⟨h1, h2⟩, h3⟩ := h1
      obtain ⟨el, ie, ze, hu, hel, _⟩ := elemAt_get hc h1
      have he := leaf_int hc h2
      rw [hel] at he
      have hdst := leaf_str hc h3
      split at hk
      · rename_i l hp
        obtain ⟨Ss, d1, _, _⟩ := dataL_rep hi.rep [opnd X.f st x] [a.eval x] (by simp only [RepL]; exact ⟨_, [], rfl, hx, rfl⟩)
        have hr := packAll_rep d1 hp
        have hout : Go.strOfNums l = ⟨(bytesOut l).toArray⟩ := rfl
        refine wp_value hd (v := .string ⟨(bytesOut l).toArray⟩) ?_ hi (RepAV.mkStr _) hk
        simp only [Rd, List.cons.injEq, and_true] at hr
        rcases hr with ⟨rfl, _, ad, e1⟩ | ⟨b, off, cap, S', _, e1, _, hrow⟩
        · cases ad with
          | none =>
            simp only [execOp, ho, e1, Sem.run_bind, run_convert_bytes_nil (P := P) (w := w) S el hu he 0 0 D hdst, Result.andThen_ok, Sem.run_pure]
            rfl
          | some ad =>
            obtain ⟨b, off, sp⟩ := ad
            have hl : (Go.loadCells ⟨b, off, sp⟩ 0).run P w = .ok #[] w := by
              have := run_loadCells_list (P := P) w ⟨b, off, sp⟩ [] (fun j v hj => by simp at hj)
              simpa using this
            have : (convert S D (.slice (some ⟨b, off, sp⟩) 0 0)).run P w = .ok (.string ⟨(bytesOut []).toArray⟩) w := by
              rw [run_convert_bytes_string w S D el _ 0 0 hu he hdst]
              simp [Conv.bytesToString, hl, bytesOut]
              rfl
            simp only [execOp, ho, e1, Sem.run_bind, this, Result.andThen_ok, Sem.run_pure]
        · have := run_convert_bytes_arg (P := P) w S el hu he b off l.length cap l rfl (row_bytes hrow) D hdst
          simp only [execOp, ho, e1, Sem.run_bind, this, Result.andThen_ok, Sem.run_pure]
          rfl
      · cases hk
    · cases hk

end
end Go.Proofs.Fw
