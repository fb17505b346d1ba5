/- The abstract executor: typed data, local boxes and rows, one step an operation. Definitions only. -/
import Derived.Calls
set_option linter.all false
namespace Go.Proofs.Fw
open Go

inductive Ty where
  | bool | int (k : IntKind) | str | sl (t : Ty) | pair (a b : Ty) | unit | err
  deriving DecidableEq, Inhabited

@[reducible] def Ty.den : Ty → Type
  | .bool => Bool
  | .int _ => Int
  | .str => List UInt8
  | .sl t => List t.den
  | .pair a b => a.den × b.den
  | .unit => Unit
  | .err => Bool
def Ty.dflt : (t : Ty) → t.den
  | .bool => false
  | .int _ => (0 : Int)
  | .str => []
  | .sl _ => []
  | .pair a b => (a.dflt, b.dflt)
  | .unit => ()
  | .err => true
def Ty.size : Ty → Nat
  | .pair a b => a.size + b.size
  | .unit => 0
  | _ => 1
def Ty.flat : Ty → Bool
  | .sl _ => false
  | .pair a b => a.flat && b.flat
  | _ => true
def castTy (a b : Ty) (x : a.den) : Option b.den := if h : a = b then some (h ▸ x) else none

inductive AV where
  | d (t : Ty) (x : t.den)
  | nils
  | agg (cs : List AV)
  | tup (vs : List AV)
  | ref (id off : Nat)
  | row (id : Nat)
  | eref (id i off : Nat)
  | dref (t : Ty) (x : t.den) (off : Nat)
  | fn (g : Nat) (caps : List AV)
  | any

inductive Loc where
  | box (cells : List AV)
  | row (t : Ty) (xs : List t.den) (deep : Bool)
  | opn (t : Ty) (xs : List t.den) (i : Nat) (cells : List AV)
  | mp (ag : Bool) (t : Ty) (es : List (List UInt8 × t.den))

inductive Ev where
  | slot (k : Nat) (v : AV)
  | loc (id : Nat) (l : Loc)
  | kill (id : Nat)
  | frz (id : Nat) (t : Ty) (xs : List t.den)
def notMem (n : Nat) : List Nat → Bool
  | [] => true
  | x :: r => !(Nat.beq x n) && notMem n r
structure Lk where
  n : Nat
  fr : List Nat
def Lk.has (k : Lk) (id : Nat) : Bool := Nat.blt id k.n && notMem id k.fr
def sameL : List Nat → List Nat → Bool
  | [], [] => true
  | x :: r, y :: s => Nat.beq x y && sameL r s
  | _, _ => false
def Lk.same (k l : Lk) : Bool := Nat.beq k.n l.n && sameL k.fr l.fr
structure St where
  log : List Ev
  nl : Nat
  nb : Nat
  kb : Lk := ⟨0, []⟩
def findEv (id : Nat) : List Ev → Option Ev
  | [] => none
  | .kill j :: r => bif Nat.beq j id then some (.kill j) else findEv id r
  | .frz j t xs :: r => bif Nat.beq j id then some (.frz j t xs) else findEv id r
  | _ :: r => findEv id r

mutual
def resolve (ks : List Ev) : AV → AV
  | .row id => match findEv id ks with
    | none => .row id
    | some (.frz _ t xs) => .d (.sl t) xs
    | some _ => .any
  | .eref id i off => match findEv id ks with
    | none => .eref id i off
    | some _ => .any
  | .agg cs => .agg (resolveL ks cs)
  | .tup cs => .tup (resolveL ks cs)
  | .fn g cs => .fn g (resolveL ks cs)
  | v => v
def resolveL (ks : List Ev) : List AV → List AV
  | [] => []
  | v :: r => resolve ks v :: resolveL ks r
end
def res (ks : List Ev) (v : AV) : AV := match ks with | [] => v | _ => resolve ks v
def resL (ks : List Ev) (v : List AV) : List AV := match ks with | [] => v | _ => resolveL ks v
def look (k : Nat) : List Ev → List Ev → AV
  | [], _ => .any
  | .slot j v :: r, ks => bif Nat.beq j k then res ks v else look k r ks
  | .loc _ _ :: r, ks => look k r ks
  | e :: r, ks => look k r (e :: ks)
def lookLoc (id : Nat) : List Ev → List Ev → Option Loc
  | [], _ => none
  | .slot _ _ :: r, ks => lookLoc id r ks
  | .loc j l :: r, ks => bif Nat.beq j id then (match l with | .box cs => some (.box (resL ks cs)) | .opn t xs i cs => some (.opn t xs i (resL ks cs)) | l => some l) else lookLoc id r ks
  | .kill j :: r, ks => lookLoc id r (.kill j :: ks)
  | .frz j t xs :: r, ks => bif Nat.beq j id then none else lookLoc id r (.frz j t xs :: ks)
def St.get (st : St) (k : Nat) : AV := look k st.log []
def St.loc (st : St) (id : Nat) : Option Loc := lookLoc id st.log []
def St.ev (st : St) (e : Ev) : St := { st with log := e :: st.log }
structure Fm where
  b : Nat
  n : Nat
  g : Nat
  lv : Nat
  l0 : Nat
def St.put (st : St) (base : Fm) (dst : Option Nat) (v : AV) : St :=
  match dst with | some d => st.ev (.slot (base.b + d) v) | none => st
def St.at (st : St) (base : Fm) (t : Nat) : AV := bif Nat.blt t base.n then st.get (base.b + t) else .any
def St.newLoc (st : St) (l : Loc) : St := { st with log := .loc st.nl l :: st.log, nl := st.nl + 1 }
inductive TyI where
  | leaf (t : Ty)
  | slice (e : Nat) (t : Ty) (bytes : Nat)
  | struct (t : Ty) (fields : List (Nat × Nat))
  | one
  | map (e : Nat)
  deriving Inhabited
def TyI.ty : TyI → Option (Bool × Ty)
  | .leaf t => some (false, t)
  | .slice _ t _ => some (false, .sl t)
  | .struct t _ => some (true, t)
  | .one => none
  | .map _ => none
def assoc {α : Type} (k : Nat) : List (Nat × α) → Option α
  | [] => none
  | (j, x) :: r => bif Nat.beq j k then some x else assoc k r
def Ty.zeros : Ty → List AV
  | .pair a b => a.zeros ++ b.zeros
  | .unit => []
  | .sl _ => [.nils]
  | .bool => [.d .bool false]
  | .int k => [.d (.int k) (0 : Int)]
  | .str => [.d .str []]
  | .err => [.d .err true]
def Ty.unpack : (t : Ty) → t.den → List AV
  | .pair a b, x => a.unpack x.1 ++ b.unpack x.2
  | .unit, _ => []
  | .bool, x => [.d .bool x]
  | .int k, x => [.d (.int k) x]
  | .str, x => [.d .str x]
  | .sl t, x => [.d (.sl t) x]
  | .err, x => [.d .err x]
def leafOf (t : Ty) : List AV → Option (t.den × List AV)
  | .d t' x :: r => match castTy t' t x with | some y => some (y, r) | none => none
  | _ => none
def Ty.pack : (t : Ty) → List AV → Option (t.den × List AV)
  | .pair a b, cs => match a.pack cs with
    | some (x, r) => match b.pack r with
      | some (y, r') => some ((x, y), r')
      | none => none
    | none => none
  | .unit, cs => some ((), cs)
  | .sl t, .nils :: r => some ([], r)
  | .sl t, cs => leafOf (.sl t) cs
  | .bool, cs => leafOf .bool cs
  | .int k, cs => leafOf (.int k) cs
  | .str, cs => leafOf .str cs
  | .err, cs => leafOf .err cs
def Ty.packAll (t : Ty) (cs : List AV) : Option t.den :=
  match t.pack cs with | some (x, []) => some x | _ => none
def St.data1 (st : St) : AV → AV
  | .row id => match st.loc id with | some (.row t xs _) => .d (.sl t) xs | _ => .any
  | v => v
def St.dataL (st : St) : List AV → List AV
  | [] => []
  | v :: r => st.data1 v :: st.dataL r
def AV.cells : AV → List AV
  | .agg cs => cs
  | v => [v]
def rowIds : List AV → List Nat
  | [] => []
  | .row id :: r => id :: rowIds r
  | _ :: r => rowIds r
def St.killAll (st : St) : List Nat → St
  | [] => st
  | id :: r => (st.ev (.kill id)).killAll r
def St.freeze1 (st : St) (id : Nat) : St :=
  match st.loc id with | some (.row t xs _) => st.ev (.frz id t xs) | _ => st
def St.freezeAll (st : St) : List Nat → St
  | [] => st
  | id :: r => (st.freeze1 id).freezeAll r
def distinct : List Nat → Bool
  | [] => true
  | x :: r => !(r.any (Nat.beq x)) && distinct r
def deepOK (st : St) : List AV → Bool
  | [] => true
  | .row id :: r => (match st.loc id with | some (.row _ _ true) => true | _ => false) && deepOK st r
  | .d t _ :: r => t.flat && deepOK st r
  | .nils :: r => deepOK st r
  | _ :: _ => false
def moveOK (st : St) (cs : List AV) : Bool := deepOK st cs && distinct (rowIds cs)
def hasOpn : List Ev → Bool
  | [] => false
  | .loc _ (.opn _ _ _ _) :: _ => true
  | _ :: r => hasOpn r
def slotKeys : List Ev → List Nat
  | [] => []
  | .slot k _ :: r => k :: slotKeys r
  | _ :: r => slotKeys r
def St.settle1 (st : St) (id : Nat) : St := match st.loc id with
  | some (.opn t xs i cs) => match moveOK st cs && notMem id (rowIds cs) with
    | true => match t.packAll (st.dataL cs) with
      | some y => (st.killAll (rowIds cs)).ev (.loc id (.row t (xs.set i y) true))
      | none => st
    | false => st
  | _ => st
def St.settleK (st : St) (k : Nat) : St := match st.get k with
  | .row id => st.settle1 id
  | _ => st
def St.settleAll (st : St) : List Nat → St
  | [] => st
  | k :: r => (st.settleK k).settleAll r
def St.settle (st : St) : St := bif hasOpn st.log then st.settleAll (slotKeys st.log) else st
def getM {α : Type} (d : α) : List (List UInt8 × α) → List UInt8 → α
  | [], _ => d
  | e :: r, s => bif @BEq.beq (List UInt8) _ s e.1 then e.2 else getM d r s
def hasM {α : Type} : List (List UInt8 × α) → List UInt8 → Bool
  | [], _ => false
  | e :: r, s => bif @BEq.beq (List UInt8) _ s e.1 then true else hasM r s
def putM {α : Type} : List (List UInt8 × α) → List UInt8 → α → List (List UInt8 × α)
  | [], s, y => [(s, y)]
  | e :: r, s, y => bif @BEq.beq (List UInt8) _ s e.1 then (s, y) :: r else e :: putM r s y
def Ty.mat : (t : Ty) → List AV → St → List AV × List AV × St
  | .pair a b, cs, st => match a.mat cs st with
    | (xs, r, st) => match b.mat r st with
      | (ys, r, st) => (xs ++ ys, r, st)
  | .unit, cs, st => ([], cs, st)
  | .sl t, .nils :: r, st => ([.row st.nl], r, st.newLoc (.row t [] true))
  | _, v :: r, st => ([v], r, st)
  | _, [], st => ([.any], [], st)
def okCells : List AV → Bool
  | [] => true
  | .agg _ :: _ => false
  | .tup _ :: _ => false
  | .any :: _ => false
  | _ :: r => okCells r
def unc (s : ByteArray) : List UInt8 := s.data.toList
def constAV : Value → AV
  | .bool b => .d .bool b
  | .int k n => .d (.int k) n
  | .string s => .d .str (unc s)
  | .slice none 0 0 => .nils
  | .nilIface => .d .err true
  | _ => .any
def opnd (base : Fm) (st : St) : Operand → AV
  | .tmp t => st.at base t
  | .const v => constAV v
  | .global _ => .any
  | .func f => .fn f []
def obind {α β : Type} (x : Option α) (f : α → Option β) : Option β := match x with | some a => f a | none => none
abbrev W64 : Int → Int := IntKind.i64.wrap
def i64 : Ty := .int .i64
def bitsOf (op : BinOp) (k : IntKind) (x y : Int) : Int :=
  let a := BitVec.ofInt k.bits x
  let b := BitVec.ofInt k.bits y
  match op with
  | .and => k.wrap (a &&& b).toNat
  | .or => k.wrap (a ||| b).toNat
  | .xor => k.wrap (a ^^^ b).toNat
  | _ => k.wrap (a &&& ~~~b).toNat
def shrOf (x : Int) (n : Nat) : Int := x.fdiv (2 ^ n)
def shlOf (k : IntKind) (x : Int) (n : Nat) : Int := k.wrap (x * 2 ^ n)
abbrev sless : List UInt8 → List UInt8 → Bool := Op.bytesLess
def eqD : (t : Ty) → t.den → t.den → Option Bool
  | .bool, x, y => some (x == y)
  | .int _, x, y => some (@BEq.beq Int _ x y)
  | .str, x, y => some (@BEq.beq (List UInt8) _ x y)
  | .pair a b, x, y => match eqD a x.1 y.1 with
    | some p => match eqD b x.2 y.2 with
      | some q => some (p && q)
      | none => none
    | none => none
  | _, _, _ => none
def binAV (op : BinOp) (a b : AV) : Option AV :=
  match a, b with
  | .d (.int k) x, .d (.int k') y =>
    if k = k' then
      match op with
      | .add => some (.d (.int k) (k.wrap (x + y)))
      | .sub => some (.d (.int k) (k.wrap (x - y)))
      | .mul => some (.d (.int k) (k.wrap (x * y)))
      | .and => some (.d (.int k) (bitsOf .and k x y))
      | .or => some (.d (.int k) (bitsOf .or k x y))
      | .xor => some (.d (.int k) (bitsOf .xor k x y))
      | .andNot => some (.d (.int k) (bitsOf .andNot k x y))
      | .eql => some (.d .bool (x == y))
      | .neq => some (.d .bool (x != y))
      | .lss => some (.d .bool (decide (x < y)))
      | .leq => some (.d .bool (decide (x ≤ y)))
      | .gtr => some (.d .bool (decide (x > y)))
      | .geq => some (.d .bool (decide (x ≥ y)))
      | _ => none
    else none
  | .d .str x, .d .str y =>
    match op with
    | .eql => some (.d .bool (x == y))
    | .neq => some (.d .bool (!(x == y)))
    | .lss => some (.d .bool (sless x y))
    | .leq => some (.d .bool (sless x y || x == y))
    | .gtr => some (.d .bool (!(sless x y || x == y)))
    | .geq => some (.d .bool (!sless x y))
    | _ => none
  | _, _ => none
def maxGrow : Nat := 268435456

structure OutK where
  agg : Bool
  t : Ty
  own : Bool

inductive PK where
  | val (agg : Bool) (t : Ty)
  | ptr (t : Ty)
  | fn (g : Nat) (ts : List Ty)
  | mut (agg : Bool) (t : Ty)
  | take (agg : Bool) (t : Ty)
def tysTy : List Ty → Ty
  | [] => .unit
  | t :: r => .pair t (tysTy r)
def insTy : List PK → Ty
  | [] => .unit
  | .val _ t :: r => .pair t (insTy r)
  | .ptr t :: r => .pair t (insTy r)
  | .fn _ ts :: r => .pair (tysTy ts) (insTy r)
  | .mut _ t :: r => .pair t (insTy r)
  | .take _ t :: r => .pair t (insTy r)
def ptrTy : List PK → Ty
  | [] => .unit
  | .val _ _ :: r => ptrTy r
  | .ptr t :: r => .pair t (ptrTy r)
  | .fn _ _ :: r => ptrTy r
  | .mut _ t :: r => .pair t (ptrTy r)
  | .take _ _ :: r => ptrTy r
def outsTy : List OutK → Ty
  | [] => .unit
  | o :: r => .pair o.t (outsTy r)

structure Sig where
  ins : List PK
  outs : List OutK
  F : (insTy ins).den → Option ((outsTy outs).den × (ptrTy ins).den)
inductive Sh where
  | d (t : Ty) | nils | agg (cs : List Sh) | tup (cs : List Sh) | ref (id off : Nat) | row (id : Nat) | eref (id off : Nat)
  | dref (t : Ty) (off : Nat) | fn (g : Nat) (cs : List Sh) | any

inductive LSh where
  | box (cs : List Sh) | row (t : Ty) (deep : Bool) | mp (ag : Bool) (t : Ty)

structure StSh where
  slots : List (Nat × Sh)
  locs : List (Nat × LSh)
  nl : Nat
  nb : Nat
  kb : Lk := ⟨0, []⟩

mutual
def Sh.ty : Sh → Ty → Ty
  | .d t, r => .pair t r
  | .agg cs, r => shTyL cs r
  | .tup cs, r => shTyL cs r
  | .fn _ cs, r => shTyL cs r
  | .eref _ _, r => .pair i64 r
  | .dref t _, r => .pair t r
  | _, r => r
def shTyL : List Sh → Ty → Ty
  | [], r => r
  | s :: ss, r => s.ty (shTyL ss r)
end
def LSh.ty : LSh → Ty → Ty
  | .box cs, r => shTyL cs r
  | .row t _, r => .pair (.sl t) r
  | .mp _ t, r => .pair (.sl (.pair .str t)) r
def slotsTy : List (Nat × Sh) → Ty → Ty
  | [], r => r
  | s :: ss, r => s.2.ty (slotsTy ss r)
def locsTy : List (Nat × LSh) → Ty
  | [] => .unit
  | s :: ss => s.2.ty (locsTy ss)
def StSh.ty (s : StSh) : Ty := slotsTy s.slots (locsTy s.locs)

mutual
def Sh.build : (s : Sh) → (r : Ty) → (s.ty r).den → AV × r.den
  | .d t, _, p => (.d t p.1, p.2)
  | .nils, _, p => (.nils, p)
  | .agg cs, r, p => match buildL cs r p with | (vs, q) => (.agg vs, q)
  | .tup cs, r, p => match buildL cs r p with | (vs, q) => (.tup vs, q)
  | .fn g cs, r, p => match buildL cs r p with | (vs, q) => (.fn g vs, q)
  | .ref id off, _, p => (.ref id off, p)
  | .row id, _, p => (.row id, p)
  | .eref id off, _, p => (.eref id (Int.toNat p.1) off, p.2)
  | .dref t off, _, p => (.dref t p.1 off, p.2)
  | .any, _, p => (.any, p)
def buildL : (ss : List Sh) → (r : Ty) → (shTyL ss r).den → List AV × r.den
  | [], _, p => ([], p)
  | s :: ss, r, p => match s.build (shTyL ss r) p with
    | (v, q) => match buildL ss r q with | (vs, q) => (v :: vs, q)
end
def LSh.build : (s : LSh) → (r : Ty) → (s.ty r).den → Loc × r.den
  | .box cs, r, p => match buildL cs r p with | (vs, q) => (.box vs, q)
  | .row t dp, _, p => (.row t p.1 dp, p.2)
  | .mp ag t, _, p => (.mp ag t p.1, p.2)
def buildSlots : (ss : List (Nat × Sh)) → (r : Ty) → (slotsTy ss r).den → List Ev × r.den
  | [], _, p => ([], p)
  | s :: ss, r, p => match s.2.build (slotsTy ss r) p with
    | (v, q) => match buildSlots ss r q with | (vs, q) => (.slot s.1 v :: vs, q)
def buildLocs : (ss : List (Nat × LSh)) → (locsTy ss).den → List Ev
  | [], _ => []
  | s :: ss, p => match s.2.build (locsTy ss) p with | (v, q) => .loc s.1 v :: buildLocs ss q
def StSh.build (s : StSh) (p : s.ty.den) : St :=
  match buildSlots s.slots (locsTy s.locs) p with
  | (es, q) => { log := es ++ buildLocs s.locs q, nl := s.nl, nb := s.nb, kb := s.kb }

mutual
def Sh.pairs : Sh → AV → List (Nat × Nat) → List (Nat × Nat)
  | .row id, .row id', r => (id, id') :: r
  | .eref id _, .eref id' _ _, r => (id, id') :: r
  | .ref id _, .ref id' _, r => (id, id') :: r
  | .agg cs, .agg vs, r => pairsL cs vs r
  | .tup cs, .tup vs, r => pairsL cs vs r
  | .fn _ cs, .fn _ vs, r => pairsL cs vs r
  | _, _, r => r
def pairsL : List Sh → List AV → List (Nat × Nat) → List (Nat × Nat)
  | s :: ss, v :: vs, r => s.pairs v (pairsL ss vs r)
  | _, _, r => r
end
def slotPairs (st : St) : List (Nat × Sh) → List (Nat × Nat) → List (Nat × Nat)
  | [], r => r
  | s :: ss, r => s.2.pairs (st.get s.1) (slotPairs st ss r)
def atOf (ρ : List (Nat × Nat)) (id : Nat) : Nat := match assoc id ρ with | some a => a | none => id
def locPairs (st : St) (ρ : List (Nat × Nat)) : List (Nat × LSh) → List (Nat × Nat)
  | [] => ρ
  | (id, .box cs) :: ss => match st.loc (atOf ρ id) with
    | some (.box vs) => pairsL cs vs (locPairs st ρ ss)
    | _ => locPairs st ρ ss
  | _ :: ss => locPairs st ρ ss
def okPair (i a : Nat) : List (Nat × Nat) → Bool
  | [] => true
  | q :: r => (Nat.beq i q.1 == Nat.beq a q.2) && okPair i a r
def okPairs (l0 nl : Nat) : List (Nat × Nat) → Bool
  | [] => true
  | q :: r => (Nat.beq q.1 q.2 || (Nat.ble l0 q.1 && Nat.ble l0 q.2)) && Nat.blt q.1 nl && okPair q.1 q.2 r && okPairs l0 nl r
def isAt (ρ : List (Nat × Nat)) (i a : Nat) : Bool := match assoc i ρ with | some b => Nat.beq b a | none => false
def aggOf : AV → Option (List AV)
  | .agg vs => some vs
  | _ => none
def tupOf : AV → Option (List AV)
  | .tup vs => some vs
  | _ => none
def fnOf (g : Nat) : AV → Option (List AV)
  | .fn g' vs => bif Nat.beq g g' then some vs else none
  | _ => none
def fitD {r : Ty} (t : Ty) (v : AV) (q : r.den) : Option (t.den × r.den) := match v with
  | .d t' x => match castTy t' t x with | some y => some (y, q) | none => none
  | _ => none
def fitDref {r : Ty} (t : Ty) (off : Nat) (v : AV) (q : r.den) : Option (t.den × r.den) := match v with
  | .dref t' x off' => bif Nat.beq off off' then (match castTy t' t x with | some y => some (y, q) | none => none) else none
  | _ => none
def fitEref {r : Ty} (ρ : List (Nat × Nat)) (id off : Nat) (v : AV) (q : r.den) : Option (Int × r.den) := match v with
  | .eref id' i off' => bif isAt ρ id id' && Nat.beq off off' then some ((i : Int), q) else none
  | _ => none
def isNils : AV → Bool
  | .nils => true
  | _ => false
def isRow (ρ : List (Nat × Nat)) (id : Nat) : AV → Bool
  | .row id' => isAt ρ id id'
  | _ => false
def isRef (ρ : List (Nat × Nat)) (id off : Nat) : AV → Bool
  | .ref id' off' => isAt ρ id id' && Nat.beq off off'
  | _ => false

mutual
def Sh.fit (ρ : List (Nat × Nat)) : (s : Sh) → AV → (r : Ty) → r.den → Option ((s.ty r).den)
  | .d t, v, _, q => fitD t v q
  | .nils, v, _, q => bif isNils v then some q else none
  | .agg cs, v, r, q => match aggOf v with | some vs => fitL ρ cs vs r q | none => none
  | .tup cs, v, r, q => match tupOf v with | some vs => fitL ρ cs vs r q | none => none
  | .fn g cs, v, r, q => match fnOf g v with | some vs => fitL ρ cs vs r q | none => none
  | .ref id off, v, _, q => bif isRef ρ id off v then some q else none
  | .row id, v, _, q => bif isRow ρ id v then some q else none
  | .eref id off, v, _, q => fitEref ρ id off v q
  | .dref t off, v, _, q => fitDref t off v q
  | .any, _, _, q => some q
def fitL (ρ : List (Nat × Nat)) : (ss : List Sh) → List AV → (r : Ty) → r.den → Option ((shTyL ss r).den)
  | [], [], _, q => some q
  | s :: ss, v :: vs, r, q => match fitL ρ ss vs r q with
    | some q => s.fit ρ v (shTyL ss r) q
    | none => none
  | _, _, _, _ => none
end
def placeOf (l0 : Nat) (ρ : List (Nat × Nat)) (id : Nat) : Option Nat := match assoc id ρ with
  | some a => some a
  | none => bif Nat.blt id l0 then some id else none
def LSh.fit (l0 : Nat) (ρ : List (Nat × Nat)) (st : St) (id : Nat) : (s : LSh) → (r : Ty) → r.den → Option ((s.ty r).den)
  | .box cs, r, q => match placeOf l0 ρ id with
    | some a => match st.loc a with
      | some (.box vs) => fitL ρ cs vs r q
      | _ => none
    | none => none
  | .row t dp, _, q => match placeOf l0 ρ id with
    | some a => match st.loc a with
      | some (.row t' xs dp') => match dp == dp' with
        | true => match castTy (.sl t') (.sl t) xs with | some y => some (y, q) | none => none
        | false => none
      | _ => none
    | none => none
  | .mp ag t, _, q => match placeOf l0 ρ id with
    | some a => match st.loc a with
      | some (.mp ag' t' es) => match ag == ag' with
        | true => match castTy (.sl (.pair .str t')) (.sl (.pair .str t)) es with | some y => some (y, q) | none => none
        | false => none
      | _ => none
    | none => none
def fitLocs (l0 : Nat) (ρ : List (Nat × Nat)) (st : St) : (ss : List (Nat × LSh)) → Option ((locsTy ss).den)
  | [] => some ()
  | s :: ss => match fitLocs l0 ρ st ss with
    | some q => s.2.fit l0 ρ st s.1 (locsTy ss) q
    | none => none
def fitSlots (ρ : List (Nat × Nat)) (st : St) : (ss : List (Nat × Sh)) → (r : Ty) → r.den → Option ((slotsTy ss r).den)
  | [], _, q => some q
  | s :: ss, r, q => match fitSlots ρ st ss r q with
    | some q => s.2.fit ρ (st.get s.1) (slotsTy ss r) q
    | none => none
def keysLt (n : Nat) : List (Nat × Sh) → Bool
  | [] => true
  | s :: r => Nat.blt s.1 n && keysLt n r
def StSh.fit0 (f : Fm) (s : StSh) (st : St) : Option (s.ty.den) :=
  match locPairs st (slotPairs st s.slots []) s.locs with
  | ρ => bif okPairs f.l0 s.nl ρ && Nat.ble f.l0 s.nl && (Nat.ble (f.b + f.n) s.nb && keysLt s.nb s.slots) && st.kb.same s.kb && Nat.ble s.kb.n f.l0 then
      match fitLocs f.l0 ρ st s.locs with
      | some q => fitSlots ρ st s.slots (locsTy s.locs) q
      | none => none
    else none
def StSh.fit (f : Fm) (s : StSh) (st : St) : Option (s.ty.den) := s.fit0 f st.settle
structure LSpec where
  g : Nat
  b : Nat
  lv : Nat
  l0 : Nat
  li : Nat
  head : StSh
  post : StSh
  retn : StSh
  ex : Nat
  L : Nat → head.ty.den → Option (post.ty.den ⊕ retn.ty.den)

inductive Ex where
  | normal | exit (id : Nat) | ret
structure JSpec where
  g : Nat
  b : Nat
  lv : Nat
  l0 : Nat
  id : Nat
  post : Option StSh
def findJoin (f : Fm) (id : Nat) : List JSpec → Option StSh
  | [] => none
  | s :: r => bif Nat.beq s.b f.b && Nat.beq s.id id && Nat.beq s.g f.g && Nat.beq s.lv f.lv && Nat.beq s.l0 f.l0 then s.post else findJoin f id r

structure Cfg where
  tab : List (Nat × TyI)
  eqs : List Nat
  sig : List (Nat × Sig)
  inl : List (Nat × Func)
  lo : List LSpec
  K : Nat
  jo : List JSpec := []
  opn : List Nat := []
def argCells (ag : Bool) : AV → Option (List AV)
  | .agg cs => bif ag then some cs else none
  | v => bif ag then none else some [v]
def disj : List Nat → List Nat → Bool
  | [], _ => true
  | x :: r, l => notMem x l && disj r l
def nSl : Ty → Nat
  | .pair a b => nSl a + nSl b
  | .sl _ => 1
  | _ => 0
def capData (st : St) (t : Ty) : AV → Option t.den
  | .ref id 0 => match st.loc id with
    | some (.box cs) => t.packAll (st.dataL cs)
    | _ => none
  | .dref t' x 0 => castTy t' t x
  | _ => none
def packCaps (st : St) : (ts : List Ty) → List AV → Option ((tysTy ts).den)
  | [], [] => some ()
  | t :: r, v :: vs => match capData st t v with
    | some x => match packCaps st r vs with
      | some y => some (x, y)
      | none => none
    | none => none
  | _, _ => none
def packArgs (st : St) : (ins : List PK) → List AV → Option ((insTy ins).den)
  | [], [] => some ()
  | .val ag t :: r, v :: vs => match argCells ag v with
    | some cs => match t.packAll (st.dataL cs) with
      | some x => match packArgs st r vs with
        | some y => some (x, y)
        | none => none
      | none => none
    | none => none
  | .ptr t :: r, .ref id 0 :: vs => match st.loc id with
    | some (.box cs) => match t.packAll (st.dataL cs) with
      | some x => match packArgs st r vs with
        | some y => some (x, y)
        | none => none
      | none => none
    | _ => none
  | .mut ag t :: r, v :: vs => match argCells ag v with
    | some cs => match moveOK st cs with
      | true => match t.packAll (st.dataL cs) with
        | some x => match packArgs st r vs with
          | some y => some (x, y)
          | none => none
        | none => none
      | false => none
    | none => none
  | .take ag t :: r, v :: vs => match argCells ag v with
    | some cs => match moveOK st cs with
      | true => match t.packAll (st.dataL cs) with
        | some x => match packArgs st r vs with
          | some y => some (x, y)
          | none => none
        | none => none
      | false => none
    | none => none
  | .fn g ts :: r, .fn g' cs :: vs => bif Nat.beq g g' then match packCaps st ts cs with
    | some x => match packArgs st r vs with
      | some y => some (x, y)
      | none => none
    | none => none
    else none
  | _, _ => none
def capRows (st : St) : List AV → List Nat
  | [] => []
  | .ref id _ :: r => (match st.loc id with | some (.box cs) => rowIds cs | _ => []) ++ capRows st r
  | _ :: r => capRows st r
def capIds : List AV → List Nat
  | [] => []
  | .ref id _ :: r => id :: capIds r
  | _ :: r => capIds r
def argCaps : List AV → List Nat
  | [] => []
  | .fn _ cs :: r => capIds cs ++ argCaps r
  | _ :: r => argCaps r
def boxIds (st : St) : AV → List Nat
  | .ref id _ => match st.loc id with | some (.box cs) => rowIds cs | _ => []
  | .fn _ cs => capRows st cs
  | _ => []
def argIds (st : St) : List PK → List AV → List Nat
  | .mut _ _ :: r, _ :: vs => argIds st r vs
  | .take _ _ :: r, _ :: vs => argIds st r vs
  | _ :: r, v :: vs => rowIds v.cells ++ (boxIds st v ++ argIds st r vs)
  | _, _ => []
def mutIds : List PK → List AV → List Nat
  | .mut _ _ :: r, v :: vs => rowIds v.cells ++ mutIds r vs
  | .take _ _ :: r, v :: vs => rowIds v.cells ++ mutIds r vs
  | _ :: r, _ :: vs => mutIds r vs
  | _, _ => []
def wrIds : List PK → List AV → List Nat
  | .mut _ _ :: r, v :: vs => rowIds v.cells ++ wrIds r vs
  | _ :: r, _ :: vs => wrIds r vs
  | _, _ => []
def takeIds : List PK → List AV → List Nat
  | .take _ _ :: r, v :: vs => rowIds v.cells ++ takeIds r vs
  | _ :: r, _ :: vs => takeIds r vs
  | _, _ => []
def ptrIds : List PK → List AV → List Nat
  | .ptr _ :: r, .ref id _ :: vs => id :: ptrIds r vs
  | _ :: r, _ :: vs => ptrIds r vs
  | _, _ => []
def allFree (k : Lk) : List Nat → Bool
  | [] => true
  | x :: r => !(k.has x) && allFree k r
def Ty.ownCells : (t : Ty) → t.den → St → List AV × St
  | .pair a b, x, st => match a.ownCells x.1 st with
    | (xs, st) => match b.ownCells x.2 st with
      | (ys, st) => (xs ++ ys, st)
  | .unit, _, st => ([], st)
  | .sl t, x, st => ([.row st.nl], st.newLoc (.row t x true))
  | .bool, x, st => ([.d .bool x], st)
  | .int k, x, st => ([.d (.int k) x], st)
  | .str, x, st => ([.d .str x], st)
  | .err, x, st => ([.d .err x], st)
def mkAV (agg : Bool) (cs : List AV) : AV :=
  bif agg then .agg cs else match cs with | [c] => c | _ => .any
def outAVs : (outs : List OutK) → (outsTy outs).den → St → List AV × St
  | [], _, st => ([], st)
  | o :: r, x, st =>
    match (bif o.own then o.t.ownCells x.1 st else (o.t.unpack x.1, st)) with
    | (cs, st) => match outAVs r x.2 st with
      | (vs, st) => (mkAV o.agg cs :: vs, st)
def Ty.putRows : (t : Ty) → t.den → List AV → St → List AV × St
  | .pair a b, x, cs, st => match a.putRows x.1 cs st with
    | (cs, st) => b.putRows x.2 cs st
  | .unit, _, cs, st => (cs, st)
  | .sl t, x, .row id :: r, st => (r, st.ev (.loc id (.row t x true)))
  | _, _, _ :: r, st => (r, st)
  | _, _, [], st => ([], st)
def putPtrs : (ins : List PK) → List AV → (ptrTy ins).den → St → St
  | .val _ _ :: r, _ :: vs, x, st => putPtrs r vs x st
  | .fn _ _ :: r, _ :: vs, x, st => putPtrs r vs x st
  | .mut _ t :: r, v :: vs, x, st => putPtrs r vs x.2 (t.putRows x.1 v.cells st).2
  | .take _ _ :: r, _ :: vs, x, st => putPtrs r vs x st
  | .ptr t :: r, .ref id _ :: vs, x, st => putPtrs r vs x.2 (st.ev (.loc id (.box (t.unpack x.1))))
  | _, _, _, st => st
def wrapTup : List AV → AV
  | [v] => v
  | vs => .tup vs
def anyShared : List OutK → Bool
  | [] => false
  | o :: r => (!o.own && !o.t.flat) || anyShared r
def noPtr : List PK → Bool
  | [] => true
  | .ptr _ :: _ => false
  | _ :: r => noPtr r
def contract {R : Type} (s : Sig) (vs : List AV) (st : St) (k : AV → St → Option R) : Option R :=
  match packArgs st s.ins vs with
  | none => none
  | some x => bif distinct (ptrIds s.ins vs) && allFree st.kb (ptrIds s.ins vs) && ((!(anyShared s.outs || !noPtr s.ins)) || (argCaps vs).isEmpty) && distinct (mutIds s.ins vs) && disj (mutIds s.ins vs) (argIds st s.ins vs) then
      match (bif anyShared s.outs || !noPtr s.ins then st.freezeAll (argIds st s.ins vs) else st) with
      | st => obind (s.F x) fun r =>
        match outAVs s.outs r.1 (putPtrs s.ins vs r.2 (st.killAll (takeIds s.ins vs))) with
        | (os, st) => k (wrapTup os) st
    else none
def fitIns : List PK → List AV → Bool
  | .fn g _ :: r, .fn g' _ :: vs => Nat.beq g g' && fitIns r vs
  | .fn _ _ :: _, _ :: _ => false
  | _ :: r, _ :: vs => fitIns r vs
  | _, _ => true
def findSig (g : Nat) (vs : List AV) : List (Nat × Sig) → Option Sig
  | [] => none
  | (j, s) :: r => bif Nat.beq j g && fitIns s.ins vs then some s else findSig g vs r
abbrev CallH (R : Type) := Nat → List AV → St → (AV → St → Option R) → Option R
def takeN : Nat → List AV → List AV
  | 0, _ => []
  | n + 1, v :: r => v :: takeN n r
  | _ + 1, [] => []
def dropN : Nat → List AV → List AV
  | 0, l => l
  | n + 1, _ :: r => dropN n r
  | _ + 1, [] => []
def setN : Nat → List AV → List AV → List AV
  | 0, [], l => l
  | 0, v :: vs, _ :: l => v :: setN 0 vs l
  | n + 1, vs, c :: l => c :: setN n vs l
  | _, _, [] => []
def nth (n : Nat) (l : List AV) : AV := match n, l with
  | _, [] => .any
  | 0, v :: _ => v
  | n + 1, _ :: r => nth n r

section
variable (c : Cfg)
def tyOf (T : Nat) : Option (Bool × Ty) := match assoc T c.tab with | some i => i.ty | none => none
def subN (n off : Nat) (cs : List AV) : Option (List AV) :=
  bif Nat.beq (takeN n (dropN off cs)).length n then some (takeN n (dropN off cs)) else none
def loadCells (st : St) (n : Nat) : AV → Option (List AV)
  | .ref id off => match st.loc id with
    | some (.box cs) => subN n off cs
    | _ => none
  | .dref t x off => subN n off (t.unpack x)
  | _ => none
def allFlat : List AV → Bool
  | [] => true
  | .d t _ :: r => t.flat && allFlat r
  | _ => false
def St.shareRow (st : St) (id : Nat) : St :=
  match st.loc id with
  | some (.row t xs true) => bif t.flat then st else st.ev (.loc id (.row t xs false))
  | _ => st

end

end Go.Proofs.Fw
