/- The abstract executor: operations, regions, code, calls. Definitions only. -/
import Derived.Test.YtjblmapbompclaaGreatFwA
import Derived.Orders
set_option linter.all false
namespace Go.Proofs.Fw
open Go

section
variable {R : Type} (c : Cfg)
def zeroMat (t : Ty) (st : St) : List AV × St := match t.mat t.zeros st with | (cs, _, st) => (cs, st)
def matAV (T : Nat) (v : AV) (st : St) : AV × St :=
  match v with
  | .nils => match tyOf c T with
    | some (_, .sl t) => (.row st.nl, st.newLoc (.row t [] true))
    | _ => (.any, st)
  | v => (v, st)
def matCells (t : Ty) (v : AV) (st : St) : List AV × St := match t.mat v.cells st with | (cs, _, st) => (cs, st)
def fieldOf (T f : Nat) : Option (Nat × Nat) :=
  match assoc T c.tab with
  | some (.struct _ fs) => fs[f]?
  | _ => none
def fillAll (T : Nat) (base : Fm) : List (Nat × Operand) → List AV → St → Option (List AV × St)
  | [], cs, st => some (cs, st)
  | (i, x) :: r, cs, st => match fieldOf c T i with
    | some (off, FT) => match tyOf c FT with
      | some (_, t) => bif okCells (opnd base st x).cells && Nat.beq (opnd base st x).cells.length t.size && Nat.ble (off + t.size) cs.length then
          match matCells t (opnd base st x) st with
          | (vs, st) => fillAll T base r (setN off vs cs) st
        else none
      | none => none
    | none => none
def fillRaw (T : Nat) (base : Fm) (st : St) : List (Nat × Operand) → List AV → Option (List AV)
  | [], cs => some cs
  | (i, x) :: r, cs => match fieldOf c T i with
    | some (off, FT) => match tyOf c FT with
      | some (_, t) => bif okCells (opnd base st x).cells && Nat.beq (opnd base st x).cells.length t.size && Nat.ble (off + t.size) cs.length then
          fillRaw T base st r (setN off (opnd base st x).cells cs)
        else none
      | none => none
    | none => none
def litRow (t : Ty) (base : Fm) : List (Nat × Operand) → Nat → St → Option (List t.den × St)
  | [], _, st => some ([], st)
  | (j, x) :: r, i, st =>
    bif Nat.beq j i && okCells (opnd base st x).cells && Nat.beq (opnd base st x).cells.length t.size && moveOK st (opnd base st x).cells then
      match t.packAll (st.dataL (opnd base st x).cells) with
      | some y => match litRow t base r (i + 1) (st.killAll (rowIds (opnd base st x).cells)) with
        | some (ys, st) => some (y :: ys, st)
        | none => none
      | none => none
    else none
def litDeep (base : Fm) (st : St) : List (Nat × Operand) → Bool
  | [] => true
  | (_, x) :: r => moveOK st (opnd base st x).cells && litDeep base st r
def litSh (t : Ty) (base : Fm) (st : St) : List (Nat × Operand) → Nat → Option (List t.den)
  | [], _ => some []
  | (j, x) :: r, i =>
    bif Nat.beq j i && okCells (opnd base st x).cells && Nat.beq (opnd base st x).cells.length t.size then
      match t.packAll (opnd base st x).cells with
      | some y => match litSh t base st r (i + 1) with
        | some ys => some (y :: ys)
        | none => none
      | none => none
    else none
def litIds (base : Fm) (st : St) : List (Nat × Operand) → List Nat
  | [] => []
  | (_, x) :: r => rowIds (opnd base st x).cells ++ litIds base st r
def appendRow (t : Ty) (id : Nat) (xs ys : List t.den) (deep : Bool) (base : Fm) (dst : Option Nat) (st : St) (k : St → Option R) : Option R :=
  bif Nat.ble (xs.length + ys.length) maxGrow then
    k (((st.ev (.kill id)).ev (.loc id (.row t (xs ++ ys) deep))).put base dst (.row id))
  else none
def srcOf (st : St) (t : Ty) (v : AV) : Option (List t.den) := (Ty.sl t).packAll (st.dataL [v])
def appendAll (t : Ty) (id : Nat) (b : AV) (base : Fm) (dst : Option Nat) (st : St) (k : St → Option R) : Option R :=
  match st.loc id with
  | some (.row t' xs dp) => match castTy (.sl t') (.sl t) xs with
    | none => none
    | some xs => match srcOf st t b with
      | none => none
      | some ys => match t.flat with
        | true => appendRow t id xs ys true base dst st k
        | false => match dp && deepOK st [b] && distinct (id :: rowIds [b]) with
          | true => appendRow t id xs ys true base dst (st.killAll (rowIds [b])) k
          | false => bif notMem id (rowIds [b]) then appendRow t id xs ys false base dst ((st.freezeAll (rowIds [b])).shareRow id) k else none
  | _ => none
def simple : Ty → Bool
  | .bool | .int _ | .str => true
  | _ => false
def leafAt (T : Nat) (t : Ty) : Bool := match tyOf c T with | some (false, u) => decide (u = t) | _ => false
def eqOK : Ty → Nat → List (Nat × Nat) → Bool
  | .pair a b, off, (o, FT) :: f :: r => Nat.beq o off && leafAt c FT a && simple a && eqOK b (off + 1) (f :: r)
  | t, off, [(o, FT)] => Nat.beq o off && leafAt c FT t && simple t
  | _, _, _ => false
def mem (n : Nat) : List Nat → Bool
  | [] => false
  | x :: r => bif Nat.beq x n then true else mem n r
def structEq (T : Nat) (xs ys : List AV) : Option Bool :=
  match assoc T c.tab with
  | some (.struct t fs) => bif mem T c.eqs && eqOK c t 0 fs then
      match t.packAll xs with
      | some x => match t.packAll ys with
        | some y => eqD t x y
        | none => none
      | none => none
    else none
  | _ => none
noncomputable def alt {α : Type} (x y : Option α) : Option α := @ite _ (x = y) (Classical.propDecidable _) x none
def isSl (T : Nat) : Bool := match assoc T c.tab with | some (.slice _ _ _) => true | _ => false
noncomputable def nilK (ne e : Bool) (k : AV → Option R) : Option R := bif e then alt (k (.d .bool (!ne))) (k (.d .bool ne)) else k (.d .bool ne)
def nilOp : BinOp → Option Bool
  | .eql => some false
  | .neq => some true
  | _ => none
def isNilsB : AV → Bool
  | .nils => true
  | _ => false
def isConst : Operand → Bool
  | .const _ => true
  | _ => false
noncomputable def binK (T : Nat) (op : BinOp) (cy : Bool) (a b : AV) (k : AV → Option R) : Option R :=
  match op, a, b with
  | .add, .d .str x, .d .str y => bif Nat.ble (x.length + y.length) maxGrow then k (.d .str (x ++ y)) else none
  | .quo, .d (.int j) x, .d (.int j') y => bif (!(@BEq.beq Int _ y 0) && decide (j = j')) then k (.d (.int j) (j.wrap (Int.tdiv x y))) else none
  | .rem, .d (.int j) x, .d (.int j') y => bif (!(@BEq.beq Int _ y 0) && decide (j = j')) then k (.d (.int j) (Int.tmod x y)) else none
  | .shl, .d (.int j) x, .d (.int _) y => bif decide (@LE.le Int _ 0 y) then k (.d (.int j) (shlOf j x (min (Int.toNat y) j.bits))) else none
  | .shr, .d (.int j) x, .d (.int _) y => bif decide (@LE.le Int _ 0 y) then k (.d (.int j) (shrOf x (min (Int.toNat y) j.bits))) else none
  | .eql, .d .bool x, .d .bool y => bif leafAt c T .bool then k (.d .bool (x == y)) else none
  | .neq, .d .bool x, .d .bool y => bif leafAt c T .bool then k (.d .bool (!(x == y))) else none
  | .eql, .d .err x, .d .err true => bif cy && leafAt c T .err then k (.d .bool x) else none
  | .neq, .d .err x, .d .err true => bif cy && leafAt c T .err then k (.d .bool (!x)) else none
  | .eql, .agg xs, .agg ys => match structEq c T xs ys with | some v => k (.d .bool v) | none => none
  | .neq, .agg xs, .agg ys => match structEq c T xs ys with | some v => k (.d .bool (!v)) | none => none
  | op, .d (.sl _) xs, .nils => match nilOp op with | some ne => bif isSl c T then nilK ne xs.isEmpty k else none | none => none
  | op, .nils, .nils => match nilOp op with | some ne => bif isSl c T then k (.d .bool (!ne)) else none | none => none
  | op, a, b => match binAV op a b with | some v => k v | none => none
noncomputable def rowNilK (T : Nat) (op : BinOp) (id : Nat) (y : AV) (st : St) (k : AV → Option R) : Option R :=
  match nilOp op, st.loc id with
  | some ne, some (.row _ xs _) => bif isSl c T && isNilsB y then nilK ne xs.isEmpty k else none
  | _, _ => none
def rowOf : AV → Option Nat
  | .row id => some id
  | _ => none
def unK (op : UnOp) (x : AV) (k : AV → Option R) : Option R :=
  match op, x with
  | .not, .d .bool b => k (.d .bool (!b))
  | .neg, .d (.int j) n => k (.d (.int j) (j.wrap (0 - n)))
  | _, _ => none
def isOne (T : Nat) : Bool := match assoc T c.tab with | some .one => true | _ => false
def elemAt (T : Nat) (t : Ty) : Bool := match assoc T c.tab with | some (.slice _ u _) => decide (u = t) | _ => false
def elemId (T : Nat) : Nat := match assoc T c.tab with | some (.slice e _ _) => e | _ => 0
def idxK (i : Int) (n : Nat) (k : Nat → Option R) : Option R :=
  bif (decide (0 ≤ i) && decide (i < (n : Int))) then k i.toNat else none
def boundK (x : Option AV) (d y : Nat) (k : Nat → Option R) : Option R :=
  match x with
  | none => k d
  | some (.d (.int _) i) => bif (decide (0 ≤ i) && decide (i ≤ (y : Int))) then k i.toNat else none
  | some _ => none
def bytesIn (s : List UInt8) : List Int := s.map fun b => (b.toNat : Int)
def bytesOut (l : List Int) : List UInt8 := l.map fun n => UInt8.ofNat n.toNat
def tupNth (n : Nat) : AV → AV
  | .tup vs => nth n vs
  | _ => .any
def isFunc : Fn → Option Nat
  | .func f => some f
  | _ => none
def lenK (T : Nat) (a : AV) (st : St) (k : AV → Option R) : Option R :=
  match a with
  | .d .str x => bif leafAt c T .str then k (.d i64 (x.length : Int)) else none
  | .d (.sl _) x => bif isSl c T then k (.d i64 (x.length : Int)) else none
  | .nils => bif isSl c T then k (.d i64 (0 : Int)) else none
  | .row id => bif isSl c T then match st.loc id with
    | some (.row _ xs _) => k (.d i64 (xs.length : Int))
    | _ => none
    else none
  | _ => none
def minK (mx : Bool) (l : List AV) (k : AV → Option R) : Option R :=
  match l with
  | [.d (.int j) x, .d (.int j') y] => bif decide (j = j') then (match mx with
    | true => k (.d (.int j) (bif decide (@LT.lt Int _ x y) then y else x))
    | false => k (.d (.int j) (bif decide (@LT.lt Int _ y x) then y else x))) else none
  | _ => none
def callK (h : CallH R) (base : Fm) (o : Oper) (cl : Call) (st : St) (k : St → Option R) : Option R :=
  match cl.callee with
  | .builtin .len => match cl.argTypes.toList, cl.args.toList.map (opnd base st) with
    | [T], [a] => lenK c T a st fun v => k (st.put base o.dst v)
    | _, _ => none
  | .builtin .append => match cl.argTypes.toList, cl.args.toList.map (opnd base st) with
    | [T, T2], [a, b] => match assoc T c.tab with
      | some (.slice _ t _) => bif elemAt c T2 t then match a with
        | .row id => appendAll t id b base o.dst st k
        | .nils => appendAll t st.nl b base o.dst (st.newLoc (.row t [] true)) k
        | _ => none
        else none
      | _ => none
    | _, _ => none
  | .builtin .min => minK false (cl.args.toList.map (opnd base st)) fun v => k (st.put base o.dst v)
  | .builtin .max => minK true (cl.args.toList.map (opnd base st)) fun v => k (st.put base o.dst v)
  | .value f => match opnd base st f with
    | .fn g caps => h g ((cl.args.toList.map (opnd base st)) ++ caps) st fun v st => k (st.put base o.dst v)
    | _ => none
  | _ => none
def storeK (op : Bool) (T : Nat) (a v : AV) (st : St) (k : St → Option R) : Option R :=
  match tyOf c T with
  | none => none
  | some (_, t) => bif okCells v.cells && Nat.beq v.cells.length t.size then match a with
    | .ref id off => bif !(st.kb.has id) then match matCells t v st with
      | (vs, st) => match st.loc id with
        | some (.box cs) => bif Nat.ble (off + t.size) cs.length then k (st.ev (.loc id (.box (setN off vs cs)))) else none
        | _ => none
      else none
    | .eref id i off => match st.loc id with
      | some (.row t' xs dp) => bif Nat.ble (off + t.size) t'.size && notMem id (rowIds v.cells) then
        match op && dp with
        | true => (match t'.ownCells (xs.getD i t'.dflt) (st.ev (.loc id (.opn t' xs i (List.replicate t'.size .any)))) with
          | (cells, st) => k ((st.ev (.loc id (.opn t' xs i cells))).ev (.loc id (.opn t' xs i (setN off v.cells cells)))))
        | false => match t'.packAll (setN off (st.dataL v.cells) (t'.unpack (xs.getD i t'.dflt))) with
          | some y => match t'.flat with
            | true => k (st.ev (.loc id (.row t' (xs.set i y) true)))
            | false => match dp && moveOK st v.cells with
              | true => k ((st.killAll (rowIds v.cells)).ev (.loc id (.row t' (xs.set i y) true)))
              | false => k (((st.freezeAll (rowIds v.cells)).shareRow id).ev (.loc id (.row t' (xs.set i y) false)))
          | none => none
        else none
      | some (.opn t' xs i' cells) => bif Nat.ble (off + t.size) t'.size && Nat.beq i i' then k (st.ev (.loc id (.opn t' xs i' (setN off v.cells cells)))) else none
      | _ => none
    | _ => none
    else none
def mapPutK (T : Nat) (m kx v : AV) (st : St) (k : St → Option R) : Option R := match assoc T c.tab with
  | some (.map e) => match tyOf c e with
    | some (ag, t) => match m, kx with
      | .row id, .d .str s => match st.loc id with
        | some (.mp ag' t' es) => match argCells ag' v with
          | some cs => match t'.packAll (st.dataL cs) with
            | some y => bif ag == ag' && decide (t = t') then k (st.ev (.loc id (.mp ag' t' (putM es s y)))) else none
            | none => none
          | none => none
        | _ => none
      | _, _ => none
    | none => none
  | _ => none
def mapGetK (T : Nat) (co : Bool) (m kx : AV) (st : St) (k : AV → Option R) : Option R := match assoc T c.tab with
  | some (.map e) => match tyOf c e with
    | some (ag, t) => match m, kx with
      | .row id, .d .str s => match st.loc id with
        | some (.mp ag' t' es) => bif ag == ag' && decide (t = t') then (match co with
            | true => k (.tup [mkAV ag' (t'.unpack (getM t'.dflt es s)), .d .bool (hasM es s)])
            | false => k (mkAV ag' (t'.unpack (getM t'.dflt es s)))) else none
        | _ => none
      | _, _ => none
    | none => none
  | _ => none
def openK (ag : Bool) (n : Nat) (id i off : Nat) (t' : Ty) (xs : List t'.den) (st : St) (k : AV → St → Option R) : Option R :=
  match t'.ownCells (xs.getD i t'.dflt) (st.ev (.loc id (.opn t' xs i (List.replicate t'.size .any)))) with
  | (cells, st) => match subN n off cells with
    | some cs => k (mkAV ag cs) (st.ev (.loc id (.opn t' xs i cells)))
    | none => none
def loadK (op : Bool) (T : Nat) (a : AV) (st : St) (k : AV → St → Option R) : Option R :=
  match tyOf c T with
  | none => none
  | some (ag, t) => match a with
    | .eref id i off => match st.loc id with
      | some (.row t' xs dp) => match subN t.size off (t'.unpack (xs.getD i t'.dflt)) with
        | some cs => bif allFlat cs || !dp then k (mkAV ag cs) st else bif op then openK ag t.size id i off t' xs st k else k (mkAV ag cs) (St.shareRow st id)
        | none => none
      | some (.opn t' xs i' cells) => bif Nat.beq i i' then match subN t.size off cells with
          | some cs => k (mkAV ag cs) st
          | none => none
        else none
      | _ => none
    | a => match loadCells st t.size a with
      | some cs => k (mkAV ag cs) st
      | none => none
def sliceK (T : Nat) (base : Fm) (o : Oper) (x : AV) (lo hi : Option AV) (st : St) (k : St → Option R) : Option R :=
  match x with
  | .d .str s => bif leafAt c T .str then boundK hi s.length s.length fun h => boundK lo 0 h fun l => k (st.put base o.dst (.d .str ((s.take h).drop l))) else none
  | .d (.sl t) s => bif elemAt c T t then boundK hi s.length s.length fun h => boundK lo 0 h fun l => k (st.put base o.dst (.d (.sl t) ((s.take h).drop l))) else none
  | .row id => match st.loc id with
    | some (.row t xs dp) => bif elemAt c T t then match lo, hi with
      | lo, none => boundK lo 0 xs.length fun l => k (((st.ev (.kill id)).ev (.loc id (.row t (xs.drop l) dp))).put base o.dst (.row id))
      | none, some hi => boundK (some hi) 0 xs.length fun h => k (((st.ev (.kill id)).ev (.loc id (.row t (xs.take h) dp))).put base o.dst (.row id))
      | _, _ => none
      else none
    | _ => none
  | _ => none
def convK (S D : Nat) (x : AV) (st : St) (k : AV → St → Option R) : Option R :=
  match tyOf c S with
  | none => none
  | some (_, ts) => match tyOf c D, x with
    | some (false, .int j), .d (.int _) n => bif leafAt c D (.int j) then k (.d (.int j) (j.wrap n)) st else none
    | some (false, .str), .d .str s => bif leafAt c D .str then k (.d .str s) st else none
    | some (false, .sl (.int .u8)), .d .str s => bif elemAt c D (.int .u8) && leafAt c (elemId c D) (.int .u8) then k (.row st.nl) (st.newLoc (.row (.int .u8) (bytesIn s) true)) else none
    | some (false, .str), v => bif elemAt c S (.int .u8) && leafAt c (elemId c S) (.int .u8) && leafAt c D .str then
        match (Ty.sl (.int .u8)).packAll (st.dataL [v]) with
        | some l => k (.d .str (bytesOut l)) st
        | none => none
        else none
    | _, _ => none
noncomputable def opK (h : CallH R) (base : Fm) (o : Oper) (st : St) (k : St → Option R) : Option R :=
  match o.op with
  | .move x => match matAV c o.type (opnd base st x) st with | (v, st) => k (st.put base o.dst v)
  | .assign x => match matAV c o.type (opnd base st x) st with | (v, st) => k (st.put base o.dst v)
  | .pick x a b => match opnd base st x with
    | .d .bool t => bif t then k (st.put base o.dst (opnd base st a)) else k (st.put base o.dst (opnd base st b))
    | _ => none
  | .alloc T => match tyOf c T with
    | some (_, t) => match zeroMat t st with | (cs, st) => k ((st.newLoc (.box cs)).put base o.dst (.ref st.nl 0))
    | none => none
  | .box T x => match tyOf c T with
    | some (_, t) => bif okCells (opnd base st x).cells && Nat.beq (opnd base st x).cells.length t.size then
        match matCells t (opnd base st x) st with | (cs, st) => k ((st.newLoc (.box cs)).put base o.dst (.ref st.nl 0))
      else none
    | none => match opnd base st x with
      | .fn g cs => k ((st.newLoc (.box [.fn g cs])).put base o.dst (.ref st.nl 0))
      | _ => none
  | .build T parts => match assoc T c.tab with
    | some (.struct t _) => match zeroMat t st with
      | (cs, st) => match fillAll c T base parts.toList cs st with
        | some (cs, st) => k (st.put base o.dst (.agg cs))
        | none => none
    | _ => none
  | .buildSlice T n parts => match assoc T c.tab with
    | some (.slice _ t _) => bif Nat.beq parts.toList.length n && Nat.ble (n * t.size) 16777216 then
      match litDeep base st parts.toList with
      | true => match litRow t base parts.toList 0 st with
        | some (xs, st) => k ((st.newLoc (.row t xs true)).put base o.dst (.row st.nl))
        | none => none
      | false => match litSh t base (st.freezeAll (litIds base st parts.toList)) parts.toList 0 with
        | some xs => k (((st.freezeAll (litIds base st parts.toList)).newLoc (.row t xs false)).put base o.dst (.row st.nl))
        | none => none
      else none
    | _ => none
  | .load T a => match opnd base st a with
    | .ref id off => match tyOf c T with
      | none => bif isOne c T then match st.loc id with
        | some (.box cs) => match nth off cs with
          | .fn g cs => k (st.put base o.dst (.fn g cs))
          | .ref i n => k (st.put base o.dst (.ref i n))
          | _ => none
        | _ => none
        else none
      | some _ => loadK c (mem base.g c.opn) T (.ref id off) st fun v st => k (st.put base o.dst v)
    | a => loadK c (mem base.g c.opn) T a st fun v st => k (st.put base o.dst v)
  | .store T a v => match o.dst with
    | none => storeK c (mem base.g c.opn) T (opnd base st a) (opnd base st v) st k
    | some _ => none
  | .nilCheck x => match opnd base st x with
    | .ref id off => k (st.put base o.dst (.ref id off))
    | .eref id i off => k (st.put base o.dst (.eref id i off))
    | .dref t x off => k (st.put base o.dst (.dref t x off))
    | .fn g cs => k (st.put base o.dst (.fn g cs))
    | _ => none
  | .binOp op T x y _ => match rowOf (opnd base st x) with
    | some id => rowNilK c T op id (opnd base st y) st fun v => k (st.put base o.dst v)
    | none => binK c T op (isConst y) (opnd base st x) (opnd base st y) fun v => k (st.put base o.dst v)
  | .unOp op _ x => unK op (opnd base st x) fun v => k (st.put base o.dst v)
  | .convert S D x => convK c S D (opnd base st x) st fun v st => k (st.put base o.dst v)
  | .makeFunc fn first caps => match isFunc fn, first.toList with
    | some g, [] => k (st.put base o.dst (.fn g (caps.toList.map (opnd base st))))
    | _, _ => none
  | .makeSlice T l m => match assoc T c.tab, opnd base st l, opnd base st m with
    | some (.slice _ t _), .d (.int .i64) n, .d (.int .i64) n' =>
      bif (decide (0 ≤ n) && decide (n ≤ n') && decide (n' ≤ (maxGrow : Int))) then
        k ((st.newLoc (.row t (List.replicate n.toNat t.dflt) true)).put base o.dst (.row st.nl))
      else none
    | _, _, _ => none
  | .makeMap T none => match assoc T c.tab with
    | some (.map e) => match tyOf c e with
      | some (ag, t) => bif t.flat then k ((st.newLoc (.mp ag t [])).put base o.dst (.row st.nl)) else none
      | none => none
    | _ => none
  | .mapUpdate T m x v => match o.dst with
    | none => mapPutK c T (opnd base st m) (opnd base st x) (opnd base st v) st k
    | some _ => none
  | .lookup T m x co => mapGetK c T co (opnd base st m) (opnd base st x) st fun v => k (st.put base o.dst v)
  | .slice T x lo hi none => sliceK c T base o (opnd base st x) (lo.map (opnd base st)) (hi.map (opnd base st)) st k
  | .fieldAddr T x f => match fieldOf c T f with
    | some (off, _) => match opnd base st x with
      | .ref id n => k (st.put base o.dst (.ref id (n + off)))
      | .eref id i n => k (st.put base o.dst (.eref id i (n + off)))
      | .dref t x n => k (st.put base o.dst (.dref t x (n + off)))
      | _ => none
    | none => none
  | .field T x f => match fieldOf c T f with
    | some (off, FT) => match tyOf c FT, opnd base st x with
      | some (ag, t), .agg cs => match subN t.size off cs with
        | some cs => k (st.put base o.dst (mkAV ag cs))
        | none => none
      | _, _ => none
    | none => none
  | .indexAddr T x ix => match opnd base st x, opnd base st ix with
    | .d (.sl t) xs, .d (.int _) i => bif elemAt c T t then idxK i xs.length fun n => k (st.put base o.dst (.dref t (xs.getD n t.dflt) 0)) else none
    | .row id, .d (.int _) i => match st.loc id with
      | some (.row t xs _) => bif elemAt c T t then idxK i xs.length fun n => k (st.put base o.dst (.eref id n 0)) else none
      | some (.opn t xs _ _) => bif elemAt c T t then idxK i xs.length fun n => k (st.put base o.dst (.eref id n 0)) else none
      | _ => none
    | _, _ => none
  | .index T x ix => match opnd base st x, opnd base st ix with
    | .d .str s, .d (.int _) i => bif leafAt c T .str then idxK i s.length fun n => k (st.put base o.dst (.d (.int .u8) ((s.getD n 0).toNat : Int))) else none
    | _, _ => none
  | .extract x i => match tupNth i (opnd base st x) with
    | .any => none
    | v => k (st.put base o.dst v)
  | .call cl => callK c h base o cl st k
  | _ => none
def isPure : Op → Bool
  | .move _ => true
  | .assign _ => true
  | .pick _ _ _ => true
  | .fieldAddr _ _ _ => true
  | .load _ _ => true
  | .nilCheck _ => true
  | .unOp _ _ _ => true
  | .binOp _ _ _ _ _ => true
  | .convert S D _ => !(Nat.beq S 9 || Nat.beq D 9)
  | .build _ _ => true
  | .slice _ _ _ _ _ => true
  | .field _ _ _ => true
  | .index _ _ _ => true
  | .indexAddr _ _ _ => true
  | .extract _ _ => true
  | .call cl => match cl.callee with | .builtin .len => true | _ => false
  | _ => false
noncomputable def pureK (base : Fm) (o : Oper) (st : St) (k : AV → Option R) : Option R :=
  match o.op with
  | .move x => k (opnd base st x)
  | .assign x => k (opnd base st x)
  | .pick x a b => match opnd base st x with
    | .d .bool t => bif t then k (opnd base st a) else k (opnd base st b)
    | _ => none
  | .fieldAddr T x f => match fieldOf c T f with
    | some (off, _) => match opnd base st x with
      | .ref id n => k (.ref id (n + off))
      | .eref id i n => k (.eref id i (n + off))
      | .dref t x n => k (.dref t x (n + off))
      | _ => none
    | none => none
  | .load T a => match opnd base st a with
    | .ref id off => bif st.kb.has id then match tyOf c T with
      | none => bif isOne c T then match st.loc id with
        | some (.box cs) => match nth off cs with
          | .fn g cs => k (.fn g cs)
          | .ref i n => k (.ref i n)
          | _ => none
        | _ => none
        else none
      | some (ag, t) => match loadCells st t.size (.ref id off) with
        | some cs => k (mkAV ag cs)
        | none => none
      else none
    | .dref t x off => match tyOf c T with
      | none => none
      | some (ag, t') => match loadCells st t'.size (.dref t x off) with
        | some cs => k (mkAV ag cs)
        | none => none
    | _ => none
  | .nilCheck x => match opnd base st x with
    | .ref id off => k (.ref id off)
    | .eref id i off => k (.eref id i off)
    | .dref t x off => k (.dref t x off)
    | .fn g cs => k (.fn g cs)
    | _ => none
  | .binOp op T x y _ => match rowOf (opnd base st x) with
    | some id => rowNilK c T op id (opnd base st y) st k
    | none => binK c T op (isConst y) (opnd base st x) (opnd base st y) k
  | .unOp op _ x => unK op (opnd base st x) k
  | .convert S D x => match tyOf c S, tyOf c D, opnd base st x with
    | some _, some (false, .int j), .d (.int _) n => bif leafAt c D (.int j) then k (.d (.int j) (j.wrap n)) else none
    | _, _, _ => none
  | .field T x f => match fieldOf c T f with
    | some (off, FT) => match tyOf c FT, opnd base st x with
      | some (ag, t), .agg cs => match subN t.size off cs with
        | some cs => k (mkAV ag cs)
        | none => none
      | _, _ => none
    | none => none
  | .indexAddr T x ix => match opnd base st x, opnd base st ix with
    | .d (.sl t) xs, .d (.int _) i => bif elemAt c T t then idxK i xs.length fun n => k (.dref t (xs.getD n t.dflt) 0) else none
    | .row id, .d (.int _) i => match st.loc id with
      | some (.row t xs _) => bif elemAt c T t then idxK i xs.length fun n => k (.eref id n 0) else none
      | _ => none
    | _, _ => none
  | .index T x ix => match opnd base st x, opnd base st ix with
    | .d .str s, .d (.int _) i => bif leafAt c T .str then idxK i s.length fun n => k (.d (.int .u8) ((s.getD n 0).toNat : Int)) else none
    | _, _ => none
  | .extract x i => match tupNth i (opnd base st x) with
    | .any => none
    | v => k v
  | .call cl => match cl.callee, cl.argTypes.toList, cl.args.toList.map (opnd base st) with
    | .builtin .len, [T], [a] => lenK c T a st k
    | _, _, _ => none
  | .slice T x lo hi none => match opnd base st x with
    | .d .str s => bif leafAt c T .str then boundK (hi.map (opnd base st)) s.length s.length fun h => boundK (lo.map (opnd base st)) 0 h fun l => k (.d .str ((s.take h).drop l)) else none
    | .d (.sl t) s => bif elemAt c T t then boundK (hi.map (opnd base st)) s.length s.length fun h => boundK (lo.map (opnd base st)) 0 h fun l => k (.d (.sl t) ((s.take h).drop l)) else none
    | _ => none
  | .build T parts => match assoc T c.tab with
    | some (.struct t _) => match fillRaw c T base st parts.toList t.zeros with
      | some cs => k (.agg cs)
      | none => none
    | _ => none
  | _ => none
def guardK (base : Fm) (ops : Array Oper) (o : Oper) (st : St) (no yes : St → Option R) : Option R :=
  match o.guard with
  | none => yes st
  | some (j, want) => match (ops[j]?).bind (·.dst) with
    | none => none
    | some e => match st.at base e with
      | .d .bool b => match want with
        | true => bif b then yes (st.ev (.slot (base.b + e) (.d .bool true))) else no (st.ev (.slot (base.b + e) (.d .bool false)))
        | false => bif b then no (st.ev (.slot (base.b + e) (.d .bool true))) else yes (st.ev (.slot (base.b + e) (.d .bool false)))
      | .tup [] => no st
      | _ => none
def dstOK (base : Fm) (o : Oper) : Bool := match o.dst with | some d => Nat.blt d base.n | none => true
noncomputable def operK (h : CallH R) (base : Fm) (ops : Array Oper) (o : Oper) (st : St) (k : St → Option R) : Option R :=
  bif dstOK base o then guardK base ops o st (fun st => k (st.put base o.dst (.tup []))) (fun st => opK c h base o st k) else none
noncomputable def operP (base : Fm) (ops : Array Oper) (o : Oper) (st : St) (k : St → Option R) : Option R :=
  bif dstOK base o then guardK base ops o st (fun st => k (st.put base o.dst (.tup []))) (fun st => pureK c base o st fun v => k (st.put base o.dst v)) else none
noncomputable def opsK (h : CallH R) (base : Fm) (ops : Array Oper) : List Oper → St → (St → Option R) → Option R
  | [], st, k => k st
  | o :: r, st, k => operK c h base ops o st fun st => opsK h base ops r st k
def pureAt (ops : Array Oper) (i : Nat) : Bool := match ops[i]? with | some o => isPure o.op | none => false
def firstPure (ops : Array Oper) : List Nat → Option Nat
  | [] => none
  | i :: r => bif pureAt ops i then some i else firstPure ops r
noncomputable def altAll (f : Nat → Option R) : List Nat → Option R
  | [] => none
  | [i] => f i
  | i :: r => alt (f i) (altAll f r)
def closer (ops : Array Oper) (j : Nat) : Bool := match ops[j]? with
  | some o => !(isPure o.op) && (List.range ops.size).all fun i => !(pureAt ops i) || (o.after.toList.any fun e => Region.binds .any e && Nat.beq e.on i) ||
      (o.after.toList.any fun e => Region.binds .any e && match ops[e.on]? with
        | some m => m.after.toList.any fun e => Region.binds .any e && Nat.beq e.on i
        | none => false)
  | none => false
def St.keep (st : St) (n : Lk) : St := { st with kb := n }
noncomputable def drawK (h : CallH R) (base : Fm) (kb0 : Lk) (ops : Array Oper) : Nat → Array Bool → St → (St → Option R) → Option R
  | 0, listed, st, k => match Region.ready .any ops listed with
    | [] => k st
    | _ => none
  | n + 1, listed, st, k => match Region.ready .any ops listed with
    | [] => k st
    | i :: r => match firstPure ops (i :: r) with
      | some j => match ops[j]? with
        | some o => bif Region.free .any ops listed j then operP c base ops o st fun st => drawK h base kb0 ops n (listed.setIfInBounds j true) st k else none
        | none => none
      | none => altAll (fun j => match ops[j]? with
        | some o => operK c h base ops o (bif closer ops j then st.keep kb0 else st) fun st => drawK h base kb0 ops n (listed.setIfInBounds j true) st k
        | none => none) (i :: r)
def readsTmp (t : Nat) (o : Oper) : Bool := isPure o.op && o.op.operands.toList.any fun x => match x with | .tmp u => Nat.beq u t | _ => false
def isMove : Op → Bool
  | .move _ => true
  | _ => false
def srcTmp (t : Nat) : List Oper → Nat
  | [] => t
  | o :: r => match o.dst, o.op with
    | some d, .move (.tmp u) => bif Nat.beq d t then u else srcTmp t r
    | _, _ => srcTmp t r
def storeTgts (all : List Oper) : List Oper → List Nat
  | [] => []
  | o :: r => match o.op with
    | .store _ (.tmp t) _ => bif all.any (fun o => readsTmp t o || (match o.dst with | some d => Nat.beq d t | none => false)) then storeTgts all r else t :: storeTgts all r
    | .call cl => (match cl.callee with
      | .value (.func _) => cl.args.toList.filterMap fun x => match x with
        | .tmp t => bif all.any (fun o => (readsTmp (srcTmp t all) o && !(isMove o.op)) || (match o.dst with | some d => Nat.beq d (srcTmp t all) | none => false)) then none else some (srcTmp t all)
        | _ => none
      | _ => []) ++ storeTgts all r
    | _ => storeTgts all r
def freeOf (base : Fm) (st : St) : List Nat → List Nat
  | [] => []
  | t :: r => match st.at base t with
    | .ref id _ => bif Nat.ble st.kb.n id then id :: freeOf base st r else freeOf base st r
    | _ => freeOf base st r
def nloops : Code → Nat
  | .seq a b => nloops a + nloops b
  | .cond _ a b => nloops a + nloops b
  | .block _ b => nloops b
  | .loop b => nloops b + 1
  | _ => 0
def loopAt : Code → Nat → Option Code
  | .seq a b, j => bif Nat.blt j (nloops a) then loopAt a j else loopAt b (j - nloops a)
  | .cond _ a b, j => bif Nat.blt j (nloops a) then loopAt a j else loopAt b (j - nloops a)
  | .block _ b, j => loopAt b j
  | .loop b, j => match j with | 0 => some b | j + 1 => loopAt b j
  | _, _ => none
def findLoop (f : Fm) (li : Nat) : List LSpec → Option LSpec
  | [] => none
  | s :: r => bif Nat.beq s.b f.b && Nat.beq s.li li && Nat.beq s.g f.g && Nat.beq s.lv f.lv && Nat.beq s.l0 f.l0 then some s else findLoop f li r
noncomputable def codeK (h : (R : Type) → CallH R) (base : Fm) {R : Type} : Code → Nat → St → (Ex → St → Option R) → Option R
  | .skip, _, st, k => k .normal st
  | .ret, _, st, k => k .ret st
  | .exit i, _, st, k => k (.exit i) st
  | .region id ops draw, _, st, k => match draw with
    | false => opsK c (h R) base ops ops.toList st (k .normal)
    | true => bif Region.noSelect ops && Nat.ble st.kb.n base.l0 then
        match findJoin base id c.jo with
        | none => drawK c (h R) base st.kb ops ops.size (Array.replicate ops.size false) (st.keep ⟨st.nl, freeOf base st (storeTgts ops.toList ops.toList)⟩) fun st' => k .normal (st'.keep st.kb)
        | some s => obind (drawK c (h s.ty.den) base st.kb ops ops.size (Array.replicate ops.size false) (st.keep ⟨st.nl, freeOf base st (storeTgts ops.toList ops.toList)⟩) fun st' => s.fit base (st'.keep st.kb)) fun p => k .normal (s.build p)
      else none
  | .seq a b, li, st, k => codeK h base a li st fun e st => match e with
    | .normal => codeK h base b (li + nloops a) st k
    | e => k e st
  | .cond x a b, li, st, k => match opnd base st x with
    | .d .bool t => bif t then codeK h base a li st k else codeK h base b (li + nloops a) st k
    | _ => none
  | .block i b, li, st, k => codeK h base b li st fun e st => match e with
    | .exit j => match Nat.beq j i with | true => k .normal st | false => k (.exit j) st
    | e => k e st
  | .loop _, li, st, k => match findLoop base li c.lo with
    | none => none
    | some s => match s.head.fit base st with
      | none => none
      | some p => obind (s.L c.K p) fun r => match r with
        | .inl q => k (.exit s.ex) (s.post.build q)
        | .inr q => k .ret (s.retn.build q)
  | _, _, _, _ => none
noncomputable def roundK (h : (R : Type) → CallH R) (base : Fm) (b : Code) (li : Nat) (s : LSpec)
    (again : s.head.ty.den → Option (s.post.ty.den ⊕ s.retn.ty.den)) (p : s.head.ty.den) : Option (s.post.ty.den ⊕ s.retn.ty.den) :=
  codeK c h base b (li + 1) (s.head.build p) fun e st => match e with
    | .normal => match s.head.fit base st with | some p => again p | none => none
    | .ret => match s.retn.fit base st with | some q => some (.inr q) | none => none
    | .exit i => match Nat.beq i s.ex with
      | true => match s.post.fit base st with | some q => some (.inl q) | none => none
      | false => none
def resultAV (base : Fm) (st : St) : ResultVar → Option AV
  | .tmp t => some (st.at base t)
  | .cell a T => match tyOf c T with
    | some (ag, t) => match loadCells st t.size (st.at base a) with
      | some cs => some (mkAV ag cs)
      | none => none
    | none => none
def resultAVs (base : Fm) (st : St) : List ResultVar → Option (List AV)
  | [] => some []
  | r :: rs => match resultAV c base st r with
    | some v => match resultAVs base st rs with
      | some vs => some (v :: vs)
      | none => none
    | none => none
def putArgs (base : Nat) : Nat → List AV → St → St
  | _, [], st => st
  | i, v :: vs, st => putArgs base (i + 1) vs (st.ev (.slot (base + i) v))
noncomputable def inlineK (h : (R : Type) → CallH R) (g lv : Nat) (fn : Func) (vs : List AV) (st : St) (k : AV → St → Option R) : Option R :=
  match fn.body with
  | none => none
  | some b =>
    bif Nat.ble vs.length fn.ntmps then
      codeK c h ⟨st.nb, fn.ntmps, g, lv, st.nl⟩ b 0 { putArgs st.nb 0 vs st with nb := st.nb + fn.ntmps } fun e st' => match e with
        | .exit _ => none
        | _ => match resultAVs c ⟨st.nb, fn.ntmps, g, lv, st.nl⟩ st' fn.results.toList with
          | some vs => k (wrapTup vs) st'
          | none => none
    else none
noncomputable def handler : Nat → (R : Type) → CallH R
  | 0, _, g, vs, st, k => match findSig g vs c.sig with
    | some s => contract s vs st k
    | none => none
  | n + 1, _, g, vs, st, k => match findSig g vs c.sig with
    | some s => contract s vs st k
    | none => match assoc g c.inl with
      | some fn => inlineK c (handler n) g n fn vs st k
      | none => none
def capAVs : (ts : List Ty) → (tysTy ts).den → List AV
  | [], _ => []
  | t :: r, x => .dref t x.1 0 :: capAVs r x.2
def startK : (ins : List PK) → (insTy ins).den → Nat → Nat → St → St
  | [], _, _, _, st => st
  | .val ag t :: r, x, i, j, st => startK r x.2 (i + 1) j (st.ev (.slot i (mkAV ag (t.unpack x.1))))
  | .fn g ts :: r, x, i, j, st => startK r x.2 (i + 1) j (st.ev (.slot i (.fn g (capAVs ts x.1))))
  | .ptr t :: r, x, i, j, st => startK r x.2 (i + 1) j ((st.newLoc (.box (t.unpack x.1))).ev (.slot i (.ref st.nl 0)))
  | .take _ _ :: r, x, i, j, st => startK r x.2 (i + 1) j st
  | .mut ag t :: r, x, i, j, st => match t.ownCells x.1 st with
    | (cs, st) => startK r x.2 (i + 1) (j + 1) ((st.ev (.slot i (mkAV ag cs))).ev (.slot j (mkAV ag cs)))
def nMut : List PK → Nat
  | [] => 0
  | .mut _ _ :: r => nMut r + 1
  | _ :: r => nMut r
def nIds : List PK → Nat
  | [] => 0
  | .ptr _ :: r => nIds r + 1
  | .mut _ t :: r => nIds r + nSl t
  | _ :: r => nIds r
def mutOut (st : St) : List PK → Nat → List Nat
  | [], _ => []
  | .mut _ _ :: r, j => rowIds (st.get j).cells ++ mutOut st r (j + 1)
  | _ :: r, j => mutOut st r j
def ownIds : List OutK → List AV → List Nat
  | o :: r, v :: vs => bif o.own then rowIds v.cells ++ ownIds r vs else ownIds r vs
  | _, _ => []
def packOuts (st : St) (own : List Nat) : (outs : List OutK) → List AV → Option ((outsTy outs).den)
  | [], [] => some ()
  | o :: r, v :: vs => match argCells o.agg v with
    | some cs => match (bif o.own then deepOK st cs else disj (rowIds cs) own) with
      | true => match o.t.packAll (st.dataL cs) with
        | some x => match packOuts st own r vs with
          | some y => some (x, y)
          | none => none
        | none => none
      | false => none
    | none => none
  | _, _ => none
def packPtrs (st : St) (own : List Nat) : (ins : List PK) → Nat → Nat → Option ((ptrTy ins).den)
  | [], _, _ => some ()
  | .val _ _ :: r, id, j => packPtrs st own r id j
  | .fn _ _ :: r, id, j => packPtrs st own r id j
  | .ptr t :: r, id, j => match st.loc id with
    | some (.box cs) => match disj (rowIds cs) own with
      | true => match t.packAll (st.dataL cs) with
        | some x => match packPtrs st own r (id + 1) j with
          | some y => some (x, y)
          | none => none
        | none => none
      | false => none
    | _ => none
  | .take _ _ :: r, id, j => packPtrs st own r id j
  | .mut ag t :: r, id, j => match argCells ag (st.get j) with
    | some cs => match deepOK st cs with
      | true => match t.packAll (st.dataL cs) with
        | some x => match packPtrs st own r (id + nSl t) (j + 1) with
          | some y => some (x, y)
          | none => none
        | none => none
      | false => none
    | none => none
noncomputable def runF (depth g b0 l0 : Nat) (fn : Func) (st : St) (fin : St → Option R) : Option R :=
  match fn.body with
  | none => none
  | some b => codeK c (handler c depth) ⟨b0, fn.ntmps, g, depth, l0⟩ b 0 st fun e st => match e with
    | .exit _ => none
    | _ => fin st
end
def finK (ins : List PK) (outs : List OutK) (c : Cfg) (f : Fm) (fn : Func) (st : St) : Option ((outsTy outs).den × (ptrTy ins).den) :=
  match resultAVs c f st fn.results.toList with
  | some vs => match distinct (ownIds outs vs ++ mutOut st ins 0) with
    | true => match packOuts st (ownIds outs vs ++ mutOut st ins 0) outs vs with
      | some x => match packPtrs st (ownIds outs vs ++ mutOut st ins 0) ins 0 0 with
        | some y => some (x, y)
        | none => none
      | none => none
    | false => none
  | none => none
noncomputable def funK (c : Cfg) (depth g : Nat) (fn : Func) (ins : List PK) (outs : List OutK) (x : (insTy ins).den) : Option ((outsTy outs).den × (ptrTy ins).den) :=
  bif Nat.ble ins.length fn.ntmps then
    runF c depth g (nMut ins) (nIds ins) fn (startK ins x (nMut ins) 0 { log := [], nl := 0, nb := nMut ins + fn.ntmps }) (finK ins outs c ⟨nMut ins, fn.ntmps, g, depth, nIds ins⟩ fn)
  else none

end Go.Proofs.Fw
