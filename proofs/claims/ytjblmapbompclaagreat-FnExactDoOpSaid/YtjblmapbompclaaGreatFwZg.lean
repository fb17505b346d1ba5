/- The executor over code that was made ready beforehand: regions' orders told once, loops numbered. It comes to what the executor of FwB comes to. -/
import Derived.Test.YtjblmapbompclaaGreatFwZf
set_option linter.all false
namespace Go.Proofs.Fw
open Go
def strip (o : Oper) : Oper := { o with pos := "", after := #[], guard := none }
def guardOf (ops : Array Oper) (o : Oper) : Option (Option Nat × Bool) := match o.guard with
  | none => none
  | some (j, want) => some ((ops[j]?).bind (·.dst), want)
inductive Plan where
  | done | bad
  | pure (g : Option (Option Nat × Bool)) (o : Oper) (n : Plan)
  | act (g : Option (Option Nat × Bool)) (o : Oper) (n : Plan)
  | alt (a b : Plan)
  | rel (a : Plan)
def altsOf (f : Nat → Plan) : List Nat → Plan
  | [] => .bad
  | [i] => f i
  | i :: r => .alt (f i) (altsOf f r)
def planOf (ops : Array Oper) : Nat → Array Bool → Plan
  | 0, listed => match Region.ready .any ops listed with
    | [] => .done
    | _ => .bad
  | n + 1, listed => match Region.ready .any ops listed with
    | [] => .done
    | i :: r => match firstPure ops (i :: r) with
      | some j => match ops[j]? with
        | some o => bif Region.free .any ops listed j then .pure (guardOf ops o) (strip o) (planOf ops n (listed.setIfInBounds j true)) else .bad
        | none => .bad
      | none => altsOf (fun j => match ops[j]? with
        | some o => bif closer ops j then .rel (.act (guardOf ops o) (strip o) (planOf ops n (listed.setIfInBounds j true))) else .act (guardOf ops o) (strip o) (planOf ops n (listed.setIfInBounds j true))
        | none => .bad) (i :: r)

inductive PCode where
  | skip | ret | bad
  | exit (i : Nat)
  | ops (l : List (Option (Option Nat × Bool) × Oper))
  | draw (ok : Bool) (id : Nat) (tg : List Nat) (p : Plan)
  | seq (a b : PCode)
  | cond (x : Operand) (a b : PCode)
  | block (i : Nat) (b : PCode)
  | loop (li : Nat) (b : PCode)
def compile : Code → Nat → PCode
  | .skip, _ => .skip
  | .ret, _ => .ret
  | .exit i, _ => .exit i
  | .region _ ops false, _ => .ops (ops.toList.map fun o => (guardOf ops o, strip o))
  | .region id ops true, _ => .draw (Region.noSelect ops) id (storeTgts ops.toList ops.toList) (planOf ops ops.size (Array.replicate ops.size false))
  | .seq a b, li => .seq (compile a li) (compile b (li + nloops a))
  | .cond x a b, li => .cond x (compile a li) (compile b (li + nloops a))
  | .block i b, li => .block i (compile b li)
  | .loop b, li => .loop li (compile b (li + 1))
  | _, _ => .bad

section
variable {R : Type} (c : Cfg)
def guardP (base : Fm) (g : Option (Option Nat × Bool)) (st : St) (no yes : St → Option R) : Option R :=
  match g with
  | none => yes st
  | some (none, _) => none
  | some (some e, want) => match st.at base e with
      | .d .bool b => match want with
        | true => bif b then yes (st.ev (.slot (base.b + e) (.d .bool true))) else no (st.ev (.slot (base.b + e) (.d .bool false)))
        | false => bif b then no (st.ev (.slot (base.b + e) (.d .bool true))) else yes (st.ev (.slot (base.b + e) (.d .bool false)))
      | .tup [] => no st
      | _ => none
theorem guardP_eq (base : Fm) (ops : Array Oper) (o : Oper) (st : St) (no yes : St → Option R) : guardP base (guardOf ops o) st no yes = guardK base ops o st no yes := by
  unfold guardP guardOf guardK
  cases o.guard with
  | none => rfl
  | some p =>
    obtain ⟨j, want⟩ := p
    simp only
    cases (ops[j]?).bind (·.dst) <;> rfl
noncomputable def runOp (h : CallH R) (base : Fm) (g : Option (Option Nat × Bool)) (o : Oper) (st : St) (k : St → Option R) : Option R :=
  bif dstOK base o then guardP base g st (fun st => k (st.put base o.dst (.tup []))) (fun st => opK c h base o st k) else none
noncomputable def runPure (base : Fm) (g : Option (Option Nat × Bool)) (o : Oper) (st : St) (k : St → Option R) : Option R :=
  bif dstOK base o then guardP base g st (fun st => k (st.put base o.dst (.tup []))) (fun st => pureK c base o st fun v => k (st.put base o.dst v)) else none
noncomputable def runPlan (h : CallH R) (base : Fm) (kb0 : Lk) : Plan → St → (St → Option R) → Option R
  | .done, st, k => k st
  | .bad, _, _ => none
  | .pure g o n, st, k => runPure c base g o st fun st => runPlan h base kb0 n st k
  | .act g o n, st, k => runOp c h base g o st fun st => runPlan h base kb0 n st k
  | .alt a b, st, k => Fw.alt (runPlan h base kb0 a st k) (runPlan h base kb0 b st k)
  | .rel a, st, k => runPlan h base kb0 a (st.keep kb0) k
noncomputable def runOps (h : CallH R) (base : Fm) : List (Option (Option Nat × Bool) × Oper) → St → (St → Option R) → Option R
  | [], st, k => k st
  | x :: r, st, k => runOp c h base x.1 x.2 st fun st => runOps h base r st k
theorem opK_strip (h : CallH R) (base : Fm) (o : Oper) (st : St) (k : St → Option R) : opK c h base (strip o) st k = opK c h base o st k := by
  cases o; rfl
theorem pureK_strip (base : Fm) (o : Oper) (st : St) (k : AV → Option R) : pureK c base (strip o) st k = pureK c base o st k := by
  cases o; rfl
theorem runOp_eq (h : CallH R) (base : Fm) (ops : Array Oper) (o : Oper) (st : St) (k : St → Option R) : runOp c h base (guardOf ops o) (strip o) st k = operK c h base ops o st k := by
  unfold runOp operK
  rw [guardP_eq]
  simp only [opK_strip]
  cases o; rfl
theorem runPure_eq (base : Fm) (ops : Array Oper) (o : Oper) (st : St) (k : St → Option R) : runPure c base (guardOf ops o) (strip o) st k = operP c base ops o st k := by
  unfold runPure operP
  rw [guardP_eq]
  simp only [pureK_strip]
  cases o; rfl
theorem runOps_eq (h : CallH R) (base : Fm) (ops : Array Oper) : ∀ (l : List Oper) (st : St) (k : St → Option R), runOps c h base (l.map fun o => (guardOf ops o, strip o)) st k = opsK c h base ops l st k
  | [], _, _ => rfl
  | o :: r, st, k => by
    simp only [List.map, runOps, opsK, runOp_eq]
    congr 1
    funext st
    exact runOps_eq h base ops r st k
theorem runAlts (h : CallH R) (base : Fm) (kb0 : Lk) (f : Nat → Plan) (st : St) (k : St → Option R) : ∀ l : List Nat, runPlan c h base kb0 (altsOf f l) st k = altAll (fun i => runPlan c h base kb0 (f i) st k) l
  | [] => rfl
  | [i] => rfl
  | i :: j :: r => by
    simp only [altsOf, runPlan, altAll]
    rw [runAlts h base kb0 f st k (j :: r)]
theorem runPlan_eq (h : CallH R) (base : Fm) (kb0 : Lk) (ops : Array Oper) : ∀ (n : Nat) (listed : Array Bool) (st : St) (k : St → Option R), runPlan c h base kb0 (planOf ops n listed) st k = drawK c h base kb0 ops n listed st k
  | 0, listed, st, k => by
    unfold planOf drawK
    cases Region.ready .any ops listed <;> rfl
  | n + 1, listed, st, k => by
    unfold planOf drawK
    cases Region.ready .any ops listed with
    | nil => rfl
    | cons i r =>
      simp only
      cases firstPure ops (i :: r) with
      | some j =>
        simp only
        cases ops[j]? with
        | some o =>
          simp only
          cases Region.free .any ops listed j with
          | false => rfl
          | true =>
            simp only [cond, runPlan, runPure_eq]
            congr 1
            funext st
            exact runPlan_eq h base kb0 ops n _ st k
        | none => rfl
      | none =>
        simp only
        rw [runAlts]
        congr 1
        funext j
        cases ops[j]? with
        | some o =>
          cases closer ops j <;> simp only [cond, runPlan, runOp_eq] <;> congr 1 <;> funext st <;> exact runPlan_eq h base kb0 ops n _ st k
        | none => rfl
noncomputable def codeP (h : (R : Type) → CallH R) (base : Fm) {R : Type} : PCode → St → (Ex → St → Option R) → Option R
  | .skip, st, k => k .normal st
  | .ret, st, k => k .ret st
  | .exit i, st, k => k (.exit i) st
  | .ops l, st, k => runOps c (h R) base l st (k .normal)
  | .draw ok id tg p, st, k => bif ok && Nat.ble st.kb.n base.l0 then
        match findJoin base id c.jo with
        | none => runPlan c (h R) base st.kb p (st.keep ⟨st.nl, freeOf base st tg⟩) fun st' => k .normal (st'.keep st.kb)
        | some s => obind (runPlan c (h s.ty.den) base st.kb p (st.keep ⟨st.nl, freeOf base st tg⟩) fun st' => s.fit base (st'.keep st.kb)) fun p => k .normal (s.build p)
      else none
  | .seq a b, st, k => codeP h base a st fun e st => match e with
    | .normal => codeP h base b st k
    | e => k e st
  | .cond x a b, st, k => match opnd base st x with
    | .d .bool t => bif t then codeP h base a st k else codeP h base b st k
    | _ => none
  | .block i b, st, k => codeP h base b st fun e st => match e with
    | .exit j => match Nat.beq j i with | true => k .normal st | false => k (.exit j) st
    | e => k e st
  | .loop li _, st, k => match findLoop base li c.lo with
    | none => none
    | some s => match s.head.fit base st with
      | none => none
      | some p => obind (s.L c.K p) fun r => match r with
        | .inl q => k (.exit s.ex) (s.post.build q)
        | .inr q => k .ret (s.retn.build q)
  | .bad, _, _ => none
theorem codeP_eq (h : (R : Type) → CallH R) (base : Fm) {R : Type} : ∀ (b : Code) (li : Nat) (st : St) (k : Ex → St → Option R), codeP c h base (compile b li) st k = codeK c h base b li st k
  | .skip, _, _, _ => by simp only [compile, codeP, codeK]
  | .ret, _, _, _ => by simp only [compile, codeP, codeK]
  | .exit i, _, _, _ => by simp only [compile, codeP, codeK]
  | .region _ ops false, _, st, k => by
    simp only [compile, codeP, codeK]
    exact runOps_eq c (h R) base ops _ st _
  | .region id ops true, _, st, k => by
    simp only [compile, codeP, codeK]
    cases findJoin base id c.jo with
    | none => simp only [runPlan_eq]
    | some s => simp only [runPlan_eq]
  | .seq a b, li, st, k => by
    simp only [compile, codeP, codeK]
    rw [codeP_eq h base a li]
    congr 1
    funext e st
    cases e with
    | normal => exact codeP_eq h base b _ st k
    | _ => rfl
  | .cond x a b, li, st, k => by
    simp only [compile, codeP, codeK]
    rw [codeP_eq h base a li st k, codeP_eq h base b _ st k]
    rfl
  | .block i b, li, st, k => by
    simp only [compile, codeP, codeK]
    rw [codeP_eq h base b li]
    congr 1
  | .loop b, li, st, k => by
    simp only [compile, codeP, codeK]
    rfl
  | .rangeFunc _ _ _ _, _, _, _ => by simp only [compile, codeP, codeK]
  | .scope _, _, _, _ => by simp only [compile, codeP, codeK]
  | .label _, _, _, _ => by simp only [compile, codeP, codeK]
  | .goto _, _, _, _ => by simp only [compile, codeP, codeK]
  | .refuse _, _, _, _ => by simp only [compile, codeP, codeK]
noncomputable def roundP (h : (R : Type) → CallH R) (base : Fm) (b : PCode) (s : LSpec)
    (again : s.head.ty.den → Option (s.post.ty.den ⊕ s.retn.ty.den)) (p : s.head.ty.den) : Option (s.post.ty.den ⊕ s.retn.ty.den) :=
  codeP c h base b (s.head.build p) fun e st => match e with
    | .normal => match s.head.fit base st with | some p => again p | none => none
    | .ret => match s.retn.fit base st with | some q => some (.inr q) | none => none
    | .exit i => match Nat.beq i s.ex with
      | true => match s.post.fit base st with | some q => some (.inl q) | none => none
      | false => none
theorem roundP_eq (h : (R : Type) → CallH R) (base : Fm) (b : Code) (li : Nat) (s : LSpec) (again : s.head.ty.den → Option (s.post.ty.den ⊕ s.retn.ty.den)) (p : s.head.ty.den) :
    roundP c h base (compile b (li + 1)) s again p = roundK c h base b li s again p := by
  unfold roundP roundK
  exact codeP_eq c h base b (li + 1) _ _
structure PFn where
  ntmps : Nat
  results : List ResultVar
  code : PCode
def PFn.of (fn : Func) : Option PFn := match fn.body with
  | some b => some ⟨fn.ntmps, fn.results.toList, compile b 0⟩
  | none => none
def PFn.get (fn : Func) : PFn := match fn.body with
  | some b => ⟨fn.ntmps, fn.results.toList, compile b 0⟩
  | none => ⟨0, [], .bad⟩
theorem PFn.of_get {fn : Func} (h : fn.body.isNone = false) : PFn.of fn = some (PFn.get fn) := by
  unfold PFn.of PFn.get
  cases e : fn.body with
  | none => rw [e] at h; cases h
  | some b => rfl
noncomputable def inlineP (h : (R : Type) → CallH R) (g lv : Nat) (p : PFn) (vs : List AV) (st : St) (k : AV → St → Option R) : Option R :=
    bif Nat.ble vs.length p.ntmps then
      codeP c h ⟨st.nb, p.ntmps, g, lv, st.nl⟩ p.code { putArgs st.nb 0 vs st with nb := st.nb + p.ntmps } fun e st' => match e with
        | .exit _ => none
        | _ => match resultAVs c ⟨st.nb, p.ntmps, g, lv, st.nl⟩ st' p.results with
          | some vs => k (wrapTup vs) st'
          | none => none
    else none
theorem inlineP_eq (h : (R : Type) → CallH R) (g lv : Nat) (fn : Func) (p : PFn) (hp : PFn.of fn = some p) (vs : List AV) (st : St) (k : AV → St → Option R) : inlineP c h g lv p vs st k = inlineK c h g lv fn vs st k := by
  unfold PFn.of at hp
  unfold inlineP inlineK
  cases e : fn.body with
  | none => rw [e] at hp; cases hp
  | some b =>
    rw [e] at hp
    simp only [Option.some.injEq] at hp
    subst hp
    simp only
    congr 1
    exact codeP_eq c h _ b 0 _ _
noncomputable def handlerP (pi : List (Nat × PFn)) : Nat → (R : Type) → CallH R
  | 0, _, g, vs, st, k => match findSig g vs c.sig with
    | some s => contract s vs st k
    | none => none
  | n + 1, _, g, vs, st, k => match findSig g vs c.sig with
    | some s => contract s vs st k
    | none => match assoc g pi with
      | some p => inlineP c (handlerP pi n) g n p vs st k
      | none => none
def InlRel : List (Nat × Func) → List (Nat × PFn) → Prop
  | [], [] => True
  | q :: r, p :: s => (q.1 = p.1 ∧ PFn.of q.2 = some p.2) ∧ InlRel r s
  | _, _ => False
theorem InlRel.get {g : Nat} : ∀ {l : List (Nat × Func)} {m : List (Nat × PFn)}, InlRel l m → (assoc g l = none ∧ assoc g m = none) ∨ ∃ fn p, assoc g l = some fn ∧ assoc g m = some p ∧ PFn.of fn = some p
  | [], [], _ => .inl ⟨rfl, rfl⟩
  | (j, fn) :: r, (j', p) :: s, ⟨⟨h1, h2⟩, h3⟩ => by
    simp only at h1 h2
    subst h1
    simp only [assoc]
    cases e : Nat.beq j g
    · exact InlRel.get h3
    · exact .inr ⟨fn, p, rfl, rfl, h2⟩
  | [], _ :: _, h => h.elim
  | _ :: _, [], h => h.elim
theorem handlerP_eq {pi : List (Nat × PFn)} (hi : InlRel c.inl pi) : ∀ n : Nat, handlerP c pi n = handler c n
  | 0 => by
    funext R g vs st k
    simp only [handlerP, handler]
    cases findSig g vs c.sig <;> rfl
  | n + 1 => by
    funext R g vs st k
    simp only [handlerP, handler]
    cases findSig g vs c.sig with
    | some s => rfl
    | none =>
      rcases InlRel.get (g := g) hi with ⟨h1, h2⟩ | ⟨fn, p, h1, h2, h3⟩
      · simp only [h1, h2]
      · simp only [h1, h2]
        rw [handlerP_eq hi n]
        exact inlineP_eq c (handler c n) g n fn p h3 vs st k
def finP (ins : List PK) (outs : List OutK) (f : Fm) (rs : List ResultVar) (st : St) : Option ((outsTy outs).den × (ptrTy ins).den) :=
  match resultAVs c f st rs with
  | some vs => match distinct (ownIds outs vs ++ mutOut st ins 0) with
    | true => match packOuts st (ownIds outs vs ++ mutOut st ins 0) outs vs with
      | some x => match packPtrs st (ownIds outs vs ++ mutOut st ins 0) ins 0 0 with
        | some y => some (x, y)
        | none => none
      | none => none
    | false => none
  | none => none
noncomputable def funP (pi : List (Nat × PFn)) (depth g : Nat) (p : PFn) (ins : List PK) (outs : List OutK) (x : (insTy ins).den) : Option ((outsTy outs).den × (ptrTy ins).den) :=
  bif Nat.ble ins.length p.ntmps then
    codeP c (handlerP c pi depth) ⟨nMut ins, p.ntmps, g, depth, nIds ins⟩ p.code (startK ins x (nMut ins) 0 { log := [], nl := 0, nb := nMut ins + p.ntmps }) fun e st => match e with
      | .exit _ => none
      | _ => finP c ins outs ⟨nMut ins, p.ntmps, g, depth, nIds ins⟩ p.results st
  else none
theorem funP_eq {pi : List (Nat × PFn)} (hi : InlRel c.inl pi) {fn : Func} {p : PFn} (hp : PFn.of fn = some p) (depth g : Nat) (ins : List PK) (outs : List OutK) (x : (insTy ins).den) :
    funP c pi depth g p ins outs x = funK c depth g fn ins outs x := by
  unfold funP funK runF
  unfold PFn.of at hp
  cases e : fn.body with
  | none => rw [e] at hp; cases hp
  | some b =>
    rw [e] at hp
    simp only [Option.some.injEq] at hp
    subst hp
    simp only
    congr 1
    rw [handlerP_eq c hi depth]
    exact codeP_eq c (handler c depth) _ b 0 _ _
def PCode.loopAt : PCode → Nat → Option PCode
  | .seq a b, j => match a.loopAt j with | some x => some x | none => b.loopAt j
  | .cond _ a b, j => match a.loopAt j with | some x => some x | none => b.loopAt j
  | .block _ b, j => b.loopAt j
  | .loop li b, j => bif Nat.beq li j then some b else b.loopAt j
  | _, _ => none
theorem loopAt_small : ∀ (b : Code) (n j : Nat), (j < n ∨ n + nloops b ≤ j) → (compile b n).loopAt j = none
  | .skip, _, _, _ => rfl
  | .ret, _, _, _ => rfl
  | .exit _, _, _, _ => rfl
  | .region _ _ false, _, _, _ => rfl
  | .region _ _ true, _, _, _ => rfl
  | .seq a b, n, j, h => by
    simp only [nloops] at h
    simp only [compile, PCode.loopAt]
    rw [loopAt_small a n j (by omega)]
    exact loopAt_small b _ j (by omega)
  | .cond _ a b, n, j, h => by
    simp only [nloops] at h
    simp only [compile, PCode.loopAt]
    rw [loopAt_small a n j (by omega)]
    exact loopAt_small b _ j (by omega)
  | .block _ b, n, j, h => by
    simp only [nloops] at h
    simp only [compile, PCode.loopAt]
    exact loopAt_small b _ j h
  | .loop b, n, j, h => by
    simp only [nloops] at h
    simp only [compile, PCode.loopAt]
    have : Nat.beq n j = false := by
      cases e : Nat.beq n j
      · rfl
      · have := Nat.eq_of_beq_eq_true e; omega
    rw [this]
    exact loopAt_small b _ j (by omega)
  | .rangeFunc _ _ _ _, _, _, _ => rfl
  | .scope _, _, _, _ => rfl
  | .label _, _, _, _ => rfl
  | .goto _, _, _, _ => rfl
  | .refuse _, _, _, _ => rfl
theorem loopAt_le : ∀ (b : Code) (j : Nat) (x : Code), Fw.loopAt b j = some x → j < nloops b
  | .seq a b, j, x, h => by
    simp only [Fw.loopAt] at h
    simp only [nloops]
    cases e : Nat.blt j (nloops a)
    · rw [e] at h
      have := loopAt_le b _ x (by simpa using h)
      have : ¬ j < nloops a := fun h' => by rw [← Nat.blt_eq, e] at h'; cases h'
      omega
    · have := (Nat.blt_eq ▸ e : j < nloops a); omega
  | .cond _ a b, j, x, h => by
    simp only [Fw.loopAt] at h
    simp only [nloops]
    cases e : Nat.blt j (nloops a)
    · rw [e] at h
      have := loopAt_le b _ x (by simpa using h)
      have : ¬ j < nloops a := fun h' => by rw [← Nat.blt_eq, e] at h'; cases h'
      omega
    · have := (Nat.blt_eq ▸ e : j < nloops a); omega
  | .block _ b, j, x, h => by
    simp only [Fw.loopAt] at h
    simp only [nloops]
    exact loopAt_le b j x h
  | .loop b, 0, x, h => by simp only [nloops]; omega
  | .loop b, j + 1, x, h => by
    simp only [Fw.loopAt] at h
    have := loopAt_le b j x h
    simp only [nloops]; omega
  | .skip, _, _, h | .ret, _, _, h | .exit _, _, _, h | .region _ _ _, _, _, h | .rangeFunc _ _ _ _, _, _, h | .scope _, _, _, h | .label _, _, _, h | .goto _, _, _, h | .refuse _, _, _, h => by simp [Fw.loopAt] at h
theorem loopAt_compile : ∀ (b : Code) (n j : Nat) (x : Code), Fw.loopAt b j = some x → (compile b n).loopAt (n + j) = some (compile x (n + j + 1))
  | .seq a b, n, j, x, h => by
    simp only [Fw.loopAt] at h
    simp only [compile, PCode.loopAt]
    cases e : Nat.blt j (nloops a)
    · rw [e] at h
      have hj : ¬ j < nloops a := fun h' => by rw [← Nat.blt_eq, e] at h'; cases h'
      rw [loopAt_small a n (n + j) (by omega)]
      have := loopAt_compile b (n + nloops a) (j - nloops a) x (by simpa using h)
      rw [show n + nloops a + (j - nloops a) = n + j by omega] at this
      exact this
    · rw [e] at h
      rw [loopAt_compile a n j x (by simpa using h)]
  | .cond _ a b, n, j, x, h => by
    simp only [Fw.loopAt] at h
    simp only [compile, PCode.loopAt]
    cases e : Nat.blt j (nloops a)
    · rw [e] at h
      have hj : ¬ j < nloops a := fun h' => by rw [← Nat.blt_eq, e] at h'; cases h'
      rw [loopAt_small a n (n + j) (by omega)]
      have := loopAt_compile b (n + nloops a) (j - nloops a) x (by simpa using h)
      rw [show n + nloops a + (j - nloops a) = n + j by omega] at this
      exact this
    · rw [e] at h
      rw [loopAt_compile a n j x (by simpa using h)]
  | .block _ b, n, j, x, h => by
    simp only [Fw.loopAt] at h
    simp only [compile, PCode.loopAt]
    exact loopAt_compile b n j x h
  | .loop b, n, 0, x, h => by
    simp only [Fw.loopAt, Option.some.injEq] at h
    subst h
    simp only [compile, PCode.loopAt, Nat.add_zero]
    have : Nat.beq n n = true := by simp
    rw [this]; rfl
  | .loop b, n, j + 1, x, h => by
    simp only [Fw.loopAt] at h
    simp only [compile, PCode.loopAt]
    have : Nat.beq n (n + (j + 1)) = false := by
      cases e : Nat.beq n (n + (j + 1))
      · rfl
      · have := Nat.eq_of_beq_eq_true e; omega
    rw [this]
    have := loopAt_compile b (n + 1) j x h
    rw [show n + 1 + j = n + (j + 1) by omega] at this
    exact this
  | .skip, _, _, _, h | .ret, _, _, _, h | .exit _, _, _, _, h | .region _ _ _, _, _, _, h | .rangeFunc _ _ _ _, _, _, _, h | .scope _, _, _, _, h | .label _, _, _, _, h | .goto _, _, _, _, h | .refuse _, _, _, _, h => by simp [Fw.loopAt] at h
def PFn.loop (p : PFn) (j : Nat) : PCode := match p.code.loopAt j with | some x => x | none => .bad
def LoopP (pi : List (Nat × PFn)) (p : PFn) (s : LSpec) : Prop :=
  (∀ q, s.L 0 q = none) ∧ ∀ n q, s.L (n + 1) q = roundP c (handlerP c pi s.lv) ⟨s.b, p.ntmps, s.g, s.lv, s.l0⟩ (p.loop s.li) s (s.L n) q
def LoAllP (pi : List (Nat × PFn)) (g0 : Nat) (p0 : PFn) : List LSpec → Prop
  | [] => True
  | s :: r => (∃ p, (bif Nat.beq s.g g0 then some p0 else assoc s.g pi) = some p ∧ LoopP c pi p s) ∧ LoAllP pi g0 p0 r
theorem LoAllP.get {pi : List (Nat × PFn)} {g0 : Nat} {p0 : PFn} : ∀ {l : List LSpec}, LoAllP c pi g0 p0 l → ∀ s ∈ l, ∃ p, (bif Nat.beq s.g g0 then some p0 else assoc s.g pi) = some p ∧ LoopP c pi p s
  | [], _, s, h => by cases h
  | x :: r, ⟨h1, h2⟩, s, h => by
    rcases List.mem_cons.1 h with rfl | h
    · exact h1
    · exact LoAllP.get h2 s h
end

variable [GInv]
theorem cfgP_ok {P : Program} {c : Cfg} {g0 : Nat} {fn0 : Func} {pi : List (Nat × PFn)} {p0 : PFn} (h1 : chkAll P c.tab = true) (h2 : eqFacts P c.tab c.eqs = true) (h3 : P.follows .mixedOrders = true) (h4 : SigAll P c.sig) (h5 : InlAll P c.inl)
    (hr : InlRel c.inl pi) (hp : PFn.of fn0 = some p0) (h6 : LoAllP c pi g0 p0 c.lo) (h7 : (assoc g0 c.inl).isNone = true) : CfgOK P c g0 fn0 where
  tab := h1
  eqs := h2
  mix := h3
  sig := fun _ _ h => h4.get h
  inl := fun _ _ h => h5.get h
  lo := fun s hs fn whole hf hw body hb => by
    obtain ⟨p, e1, e2⟩ := LoAllP.get c h6 s hs
    have hfp : PFn.of fn = some p := by
      cases e : Nat.beq s.g g0 with
      | true =>
        have := Nat.eq_of_beq_eq_true e
        rw [e] at e1
        simp at e1
        rcases hf with hf | ⟨_, hf⟩
        · rw [this] at hf; rw [hf] at h7; cases h7
        · rw [hf, ← e1]; exact hp
      | false =>
        rw [e] at e1
        rcases hf with hf | ⟨hf, _⟩
        · rcases InlRel.get (g := s.g) hr with ⟨q1, _⟩ | ⟨fn', p', q1, q2, q3⟩
          · rw [hf] at q1; cases q1
          · rw [hf] at q1
            simp only [cond, q2, Option.some.injEq] at q1 e1
            rw [q1, ← e1]; exact q3
        · exact absurd hf (Nat.ne_of_beq_eq_false e)
    unfold PFn.of at hfp
    rw [hw] at hfp
    simp only [Option.some.injEq] at hfp
    subst hfp
    refine ⟨e2.1, fun n q => ?_⟩
    rw [e2.2 n q]
    have hl : PFn.loop ⟨fn.ntmps, fn.results.toList, compile whole 0⟩ s.li = compile body (s.li + 1) := by
      have := loopAt_compile whole 0 s.li body hb
      rw [Nat.zero_add] at this
      unfold PFn.loop
      simp only [this]
    rw [hl, roundP_eq, handlerP_eq c hr]
theorem funP_ok {P : Program} {c : Cfg} {g : Nat} {fn : Func} {s : Sig} {depth : Nat} {pi : List (Nat × PFn)} {p : PFn} (hc : CfgOK P c g fn) (hr : InlRel c.inl pi) (hp : PFn.of fn = some p) (hg : P.funcs[g]? = some fn) (hcl : Callable P g)
    (hF : ∀ x, funP c pi depth g p s.ins s.outs x = s.F x) : Ok P g s :=
  fun_ok (depth := depth) hc hg hcl fun x y h => by rw [← funP_eq c hr hp, hF]; exact h

end Go.Proofs.Fw
