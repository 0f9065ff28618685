/- A certified evaluator for the walked functions, and their contracts, for the laws of the variables. -/
import Derived.Deep.Quiet
import Derived.Tactics
set_option linter.unusedVariables false
set_option linter.unusedSimpArgs false
namespace Go.Abs
inductive DV where
  | bool (b : Bool)
  | int (k : IntKind) (n : Int)
  | str (s : List UInt8)
  | nilp
  | nilm
  | nilf
  | nili
  | slc (es : List DV)
  | fmap (es : List (DV × DV))
  | fn (f : FuncId) (caps : List DV)
  | agg (cs : List DV)
  | tup (vs : List DV)
  | iface (t : TypeId) (v : DV)
inductive AV where
  | d (v : DV)
  | ptr (id off : Nat)
  | osl (id gen n : Nat)
  | mp (id : Nat)
  | fn (f : FuncId) (caps : List AV)
  | tup (vs : List AV)
  | raw (v : Value)
inductive XV where
  | a (v : AV)
  | sp (slot off : Nat)
  | fp (cells : List DV)
  | ap (id gen i off : Nat)
  | own (es : List DV)
  | al (slot : Nat) (es : List DV)
  | un
inductive SV where
  | val (v : AV)
  | own (es : List DV)
  | box (cells : List DV)
inductive AObj where
  | arr (gen : Nat) (ap : Bool) (es : List AV)
  | var (cells : List AV)
  | map (es : List (DV × AV))
structure St where
  env : List (Nat × SV)
  tmp : List (Nat × XV)
  heap : List AObj
structure FA where
  nt : Nat
  keep : List Nat
  take : List Nat
  heapy : List Nat
  frz : List Nat
  lend : List Nat
structure Ctx where
  P : Program
  ann : FuncId → FA
abbrev Zaa := FuncId → List AV → List AObj → Option (AV × List AObj)
def Zab {α : Type} : List (Nat × α) → Nat → Option α
  | [], _ => none
  | (k, v) :: r, t => bif Nat.beq k t then some v else Zab r t
def Zdk {α : Type} : List (Nat × α) → Nat → α → List (Nat × α)
  | [], t, v => [(t, v)]
  | (k, u) :: r, t, v => bif Nat.beq k t then (k, v) :: r else (k, u) :: Zdk r t v
def ins {α : Type} : List (Nat × α) → Nat → α → List (Nat × α)
  | [], t, v => [(t, v)]
  | (k, u) :: r, t, v => bif Nat.blt k t then (t, v) :: (k, u) :: r else bif Nat.beq k t then (k, v) :: r else (k, u) :: ins r t v
def has : List Nat → Nat → Bool
  | [], _ => false
  | k :: r, t => bif Nat.beq k t then true else has r t
def ZaI : List (Nat × SV) → List (Nat × SV) → List (Nat × SV)
  | _, [] => []
  | e0, (k, v) :: r => match Zab e0 k with
    | some _ => (k, v) :: ZaI e0 r
    | none => ZaI e0 r
def St.trim (e0 : List (Nat × SV)) (st : St) : St := { st with env := ZaI e0 st.env }
def Zcg : Value → Option DV
  | .bool b => some (.bool b)
  | .int k n => some (.int k n)
  | .string s => some (.str s.data.toList)
  | .pointer none => some .nilp
  | .slice none 0 0 => some (.slc [])
  | .map none => some .nilm
  | .nilFunc => some .nilf
  | .nilIface => some .nili
  | _ => none
def mapO {α β : Type} (f : α → Option β) : List α → Option (List β)
  | [] => some []
  | x :: r => match f x with
    | some y => match mapO f r with
      | some ys => some (y :: ys)
      | none => none
    | none => none
def ZeT : Value → Option DV
  | .agg cs => (mapO Zcg cs.toList).map .agg
  | v => Zcg v
def DV.cells : DV → List DV
  | .agg cs => cs
  | v => [v]
def AV.cells : AV → List AV
  | .d (.agg cs) => cs.map .d
  | v => [v]
def DV.cellOk : DV → Bool
  | .tup _ => false
  | _ => true
def AV.cellOk : AV → Bool
  | .d v => v.cellOk
  | .tup _ => false
  | _ => true
def AV.single : AV → Bool
  | .d (.agg _) => false
  | _ => true
def AV.toD : AV → Option DV
  | .d v => some v
  | _ => none
def ZcF : List AV → Option (List DV) := mapO AV.toD
def ZbF (vs : List AV) : AV := match ZcF vs with
  | some ds => .d (.tup ds)
  | none => .tup vs
def ZuO (f : FuncId) (vs : List AV) : AV := match ZcF vs with
  | some ds => .d (.fn f ds)
  | none => .fn f vs
mutual
def AV.shift (k : Nat) : AV → AV
  | .d v => .d v
  | .ptr id off => .ptr (id + k) off
  | .osl id g n => .osl (id + k) g n
  | .mp id => .mp (id + k)
  | .fn f caps => .fn f (AV.shiftL k caps)
  | .tup vs => .tup (AV.shiftL k vs)
  | .raw v => .raw v
def AV.shiftL (k : Nat) : List AV → List AV
  | [] => []
  | v :: r => v.shift k :: AV.shiftL k r
end
def AObj.shift (k : Nat) : AObj → AObj
  | .arr g ap es => .arr g ap (es.map (AV.shift k))
  | .var cs => .var (cs.map (AV.shift k))
  | .map es => .map (es.map fun e => (e.1, e.2.shift k))
def freeze (h : List AObj) : Nat → AV → Option DV
  | _, .d v => some v
  | m + 1, .osl id g n => match h[id]? with
    | some (.arr g' _ es) => bif Nat.beq g g' && Nat.ble n es.length then (mapO (freeze h m) (es.take n)).map .slc else none
    | _ => none
  | m + 1, .mp id => match h[id]? with
    | some (.map es) => (mapO (fun e => (freeze h m e.2).map fun v => (e.1, v)) es).map .fmap
    | _ => none
  | m + 1, .tup vs => (mapO (freeze h m) vs).map .tup
  | _, _ => none
def ZqH (h : List AObj) : AV → Option (DV × Nat)
  | .d v => some (v, 0)
  | .mp id => match h[id]? with
    | some (.map es) => (mapO (fun e => e.2.toD.map fun v => (e.1, v)) es).map fun l => (.fmap l, 1)
    | _ => none
  | .osl id g n => match h[id]? with
    | some (.arr g' _ es) => bif Nat.beq g g' && Nat.ble n es.length then (ZcF (es.take n)).map fun l => (.slc l, 2) else none
    | _ => none
  | _ => none
def ZdZ (h : List AObj) : List AV → Option (List DV × Nat)
  | [] => some ([], 0)
  | v :: r => match ZqH h v with
    | some (x, k) => match ZdZ h r with
      | some (xs, m) => some (x :: xs, max k m)
      | none => none
    | none => none
mutual
def DV.noMap : DV → Bool
  | .slc es => DV.noMapL es
  | .fmap _ => false
  | .fn _ caps => DV.noMapL caps
  | .agg cs => DV.noMapL cs
  | .tup vs => DV.noMapL vs
  | .iface _ v => v.noMap
  | _ => true
def DV.noMapL : List DV → Bool
  | [] => true
  | v :: r => v.noMap && DV.noMapL r
end
mutual
def DV.scal : DV → Bool
  | .slc _ => false
  | .fmap _ => false
  | .fn _ _ => false
  | .agg cs => DV.scalL cs
  | .tup vs => DV.scalL vs
  | .iface _ v => v.scal
  | _ => true
def DV.scalL : List DV → Bool
  | [] => true
  | v :: r => v.scal && DV.scalL r
end
def Zp0 : Nat → DV → Bool
  | 0, _ => true
  | 1, v => v.noMap
  | _, v => v.scal
def Ctx.elemSize (C : Ctx) (t : TypeId) : Option Nat := match C.P.underlying t with
  | some (.slice e) => (C.P.info? e).map (·.size)
  | _ => none
def Ctx.elemBytes (C : Ctx) (t : TypeId) : Option Nat := match C.P.underlying t with
  | some (.slice e) => (C.P.info? e).map (·.bytes)
  | _ => none
def Ctx.elemZero (C : Ctx) (t : TypeId) : Option DV := match C.P.underlying t with
  | some (.slice e) => ((C.P.info? e).bind (·.zero)).bind ZeT
  | _ => none
def Ctx.hasZero (C : Ctx) (t : TypeId) : Bool := match C.P.underlying t with
  | some (.slice e) => (match C.P.info? e with
    | some i => i.zero.isSome
    | none => false)
  | _ => false
def Ctx.field (C : Ctx) (t : TypeId) (f : Nat) : Option Field := match C.P.underlying t with
  | some (.struct fs) => fs[f]?
  | _ => none
def Ctx.size (C : Ctx) (t : TypeId) : Option Nat := (C.P.info? t).map (·.size)
def Ctx.hasSize (C : Ctx) (t : TypeId) : Bool := match C.P.info? t with
  | some i => Nat.blt 0 i.size
  | none => false
def Ctx.zero (C : Ctx) (t : TypeId) : Option DV := ((C.P.info? t).bind (·.zero)).bind ZeT
def Ctx.isAgg (C : Ctx) (t : TypeId) : Option Bool := match C.P.underlying t with
  | some (.struct _) | some (.array _ _) => some true
  | some _ => some false
  | none => none
def Ctx.intKind (C : Ctx) (t : TypeId) : Option IntKind := match C.P.underlying t with
  | some (.int k) => some k
  | _ => none
def Ctx.isStr (C : Ctx) (t : TypeId) : Bool := match C.P.underlying t with
  | some .string => true
  | _ => false
def Ctx.isBool (C : Ctx) (t : TypeId) : Bool := match C.P.underlying t with
  | some .bool => true
  | _ => false
def Ctx.isBytes (C : Ctx) (t : TypeId) : Bool := match C.P.underlying t with
  | some (.slice e) => (match C.P.underlying e with | some (.int .u8) => true | _ => false)
  | _ => false
def Ctx.isMap (C : Ctx) (t : TypeId) : Bool := match C.P.underlying t with
  | some (.map _ _) => true
  | _ => false
def Ctx.mapZero (C : Ctx) (t : TypeId) : Option DV := match C.P.underlying t with
  | some (.map k e) => match C.P.underlying k with
    | some .string => ((C.P.info? e).bind (·.zero)).bind ZeT
    | some (.int _) => ((C.P.info? e).bind (·.zero)).bind ZeT
    | _ => none
  | _ => none
def ZaF (C : Ctx) (t : TypeId) (cs : List DV) : Option DV := match C.isAgg t with
  | some true => match C.size t with
    | some n => bif Nat.ble n cs.length then some (.agg (cs.take n)) else none
    | none => none
  | some false => match cs with
    | v :: _ => some v
    | [] => none
  | none => none
def Ctx.keyOk (C : Ctx) (t : TypeId) (k : DV) : Bool := match C.P.underlying t with
  | some (.map kt _) => (match C.P.underlying kt, k with
    | some .string, .str _ => true
    | some (.int a), .int b _ => if a = b then true else false
    | _, _ => false)
  | _ => false
def dCmp (op : BinOp) (eq lt : Bool) : Option DV := match op with
  | .eql => some (.bool eq)
  | .neq => some (.bool !eq)
  | .lss => some (.bool lt)
  | .leq => some (.bool (lt || eq))
  | .gtr => some (.bool !(lt || eq))
  | .geq => some (.bool !lt)
  | _ => none
def ZfC (op : BinOp) (k : IntKind) (a b : Int) : Option DV := match op with
  | .add => some (.int k (k.wrap (a + b)))
  | .sub => some (.int k (k.wrap (a - b)))
  | .mul => some (.int k (k.wrap (a * b)))
  | .and => some (.int k (k.wrap (BitVec.ofInt k.bits a &&& BitVec.ofInt k.bits b).toNat))
  | .or => some (.int k (k.wrap (BitVec.ofInt k.bits a ||| BitVec.ofInt k.bits b).toNat))
  | .xor => some (.int k (k.wrap (BitVec.ofInt k.bits a ^^^ BitVec.ofInt k.bits b).toNat))
  | .eql => some (.bool (a == b))
  | .neq => some (.bool (a != b))
  | .lss => some (.bool (a < b))
  | .leq => some (.bool (a ≤ b))
  | .gtr => some (.bool (a > b))
  | .geq => some (.bool (a ≥ b))
  | .quo => if b = 0 then none else some (.int k (k.wrap (a.tdiv b)))
  | .rem => if b = 0 then none else some (.int k (a.tmod b))
  | _ => none
def ZgW (C : Ctx) (eq : TypeId → DV → DV → Option Bool) (xs ys : List DV) : List Field → Option Bool
  | [] => some true
  | f :: r => if f.name ≠ "_" then
      match ZaF C f.type (xs.drop f.offset), ZaF C f.type (ys.drop f.offset) with
      | some a, some b => match eq f.type a b with
        | some true => ZgW C eq xs ys r
        | some false => some false
        | none => none
      | _, _ => none
    else ZgW C eq xs ys r
def Zmw (C : Ctx) : Nat → TypeId → DV → DV → Option Bool
  | 0, _, _, _ => none
  | d + 1, t, x, y => match C.P.underlying t, x, y with
    | some (.int _), .int k a, .int k' b => if k = k' then some (a == b) else none
    | some .string, .str a, .str b => some (a == b)
    | some .bool, .bool a, .bool b => some (a == b)
    | some (.struct fs), .agg xs, .agg ys => bif C.P.stoodInHeld t then none else ZgW C (Zmw C d) xs ys fs.toList
    | _, _, _ => none
def Zep (C : Ctx) (op : BinOp) (t : TypeId) : DV → DV → Option DV
  | .int k a, .int k' b => match op with
    | .shl => if b < 0 then none else some (.int k (k.wrap (a * 2 ^ (min b.toNat k.bits))))
    | .shr => if b < 0 then none else some (.int k (a.fdiv (2 ^ (min b.toNat k.bits))))
    | _ => if k = k' then ZfC op k a b else none
  | .str a, .str b => match op with
    | .add => bif Nat.ble (a.length + b.length) (2 ^ 40) then some (.str (a ++ b)) else none
    | _ => dCmp op (a == b) (Op.bytesLess a b)
  | .bool a, .bool b => match op, C.isBool t with
    | .eql, true => some (.bool (a == b))
    | .neq, true => some (.bool (a != b))
    | _, _ => none
  | .agg xs, .agg ys => bif C.P.eqGuardType C.P.depth t then none else match Zmw C 100 t (.agg xs) (.agg ys), op with
    | some b, .eql => some (.bool b)
    | some b, .neq => some (.bool !b)
    | _, _ => none
  | .fmap _, .nilm => match op, C.isMap t with
    | .eql, true => some (.bool false)
    | .neq, true => some (.bool true)
    | _, _ => none
  | .nilm, .nilm => match op, C.isMap t with
    | .eql, true => some (.bool true)
    | .neq, true => some (.bool false)
    | _, _ => none
  | _, _ => none
def Zem (C : Ctx) (op : BinOp) (t : TypeId) : AV → AV → Option DV
  | .d x, .d y => Zep C op t x y
  | .mp _, .d .nilm => match op, C.isMap t with
    | .eql, true => some (.bool false)
    | .neq, true => some (.bool true)
    | _, _ => none
  | _, _ => none
def dUn (op : UnOp) : DV → Option DV
  | .int k n => match op with
    | .neg => some (.int k (k.wrap (0 - n)))
    | _ => none
  | .bool b => match op with
    | .not => some (.bool !b)
    | _ => none
  | _ => none
def idx (i : Int) (n : Nat) : Option Nat := if 0 ≤ i ∧ i < n then some i.toNat else none
def XV.flat : XV → XV
  | .own es => .a (.d (.slc es))
  | .al _ es => .a (.d (.slc es))
  | x => x
def XV.copy : XV → XV
  | .own es => .a (.d (.slc es))
  | x => x
def opx (st : St) : Operand → Option XV
  | .tmp t => match Zab st.tmp t with
    | some x => some x.copy
    | none => match Zab st.env t with
      | some (.val v) => some (.a v)
      | some (.own es) => some (.al t es)
      | some (.box _) => some (.sp t 0)
      | none => none
  | .const v => match ZeT v with
    | some x => some (.a (.d x))
    | none => none
  | .func f => some (.a (.d (.fn f [])))
  | .global _ => none
def opd (st : St) (x : Operand) : Option XV := match opx st x with
  | some v => some v.flat
  | none => none
def opA (st : St) (x : Operand) : Option AV := match opd st x with
  | some (.a v) => some v
  | _ => none
def opD (st : St) (x : Operand) : Option DV := match opd st x with
  | some (.a (.d v)) => some v
  | _ => none
def St.put (fa : FA) (st : St) (dst : Option Tmp) (x : XV) : Option St := match dst with
  | none => some st
  | some t => bif Nat.blt t fa.nt then bif has fa.keep t then (match x.flat with
      | .a v => some { st with env := Zdk st.env t (.val v) }
      | _ => none)
    else some { st with tmp := ins st.tmp t x } else none
def Zbx (st : St) : Operand → Option (List DV)
  | .tmp t => match Zab st.tmp t with
    | some (.own es) => some es
    | some (.al s _) => match Zab st.env s with
      | some (.own es) => some es
      | _ => none
    | some _ => none
    | none => match Zab st.env t with
      | some (.own es) => some es
      | _ => none
  | .const (.slice none 0 0) => some []
  | _ => none
def unal (s : Nat) : List (Nat × XV) → List (Nat × XV)
  | [] => []
  | (t, .al k es) :: r => (t, bif Nat.beq k s then .a (.d (.slc es)) else .al k es) :: unal s r
  | e :: r => e :: unal s r
def St.putOwn (fa : FA) (st : St) (dst : Option Tmp) (es : List DV) : Option St := match dst with
  | none => none
  | some t => bif Nat.blt t fa.nt then bif has fa.keep t then some { st with env := Zdk st.env t (.own es), tmp := unal t st.tmp } else some { st with tmp := ins st.tmp t (.own es) } else none
def St.loseEnv (st : St) (t : Nat) : St := match Zab st.env t with
  | some (.own es) => { st with env := Zdk st.env t (.val (.d (.slc es))) }
  | _ => st
def St.lose (st : St) : Operand → St
  | .tmp t => match Zab st.tmp t with
    | some (.own es) => { st with tmp := ins st.tmp t (.a (.d (.slc es))) }
    | some (.al s _) => st.loseEnv s
    | some _ => st
    | none => st.loseEnv t
  | _ => st
def Zbn (fa : FA) (dst : Option Tmp) : Bool := match dst with
  | some t => has fa.take t && has fa.keep t
  | none => false
def Zaq (l : List Nat) (dst : Option Tmp) : Bool := match dst with
  | some t => has l t
  | none => false
def ZaG (fa : FA) (dst : Option Tmp) : Bool := match dst with
  | some t => has fa.heapy t
  | none => false
def Zd2 (s : Nat) : List (Nat × XV) → Bool
  | [] => true
  | (_, .sp k _) :: r => bif Nat.beq k s then false else Zd2 s r
  | _ :: r => Zd2 s r
def Zal (C : Ctx) (t : TypeId) (cs : List AV) : Option AV := match C.isAgg t with
  | some true => match C.size t with
    | some n => bif Nat.ble n cs.length then (ZcF (cs.take n)).map fun ds => .d (.agg ds) else none
    | none => none
  | some false => match cs with
    | v :: _ => some v
    | [] => none
  | none => none
def Zel (h : List AObj) (id gen : Nat) : Option (List AV) := match h[id]? with
  | some (.arr g _ es) => bif Nat.beq g gen then some es else none
  | _ => none
def ZaX (C : Ctx) (t : TypeId) (st : St) : XV → Option AV
  | .sp s off => match Zab st.env s with
    | some (.box cs) => (ZaF C t (cs.drop off)).map .d
    | _ => none
  | .fp cs => (ZaF C t cs).map .d
  | .ap id g i off => match Zel st.heap id g with
    | some es => match es[i]? with
      | some e => Zal C t (e.cells.drop off)
      | none => none
    | none => none
  | .a (.ptr id off) => match st.heap[id]? with
    | some (.var cs) => Zal C t (cs.drop off)
    | _ => none
  | _ => none
def Za1 {α : Type} (cs : List α) (off : Nat) (vs : List α) : Option (List α) :=
  bif Nat.ble (off + vs.length) cs.length then some (cs.take off ++ vs ++ cs.drop (off + vs.length)) else none
def Zed (e : AV) (cs : List AV) : Option AV := match e with
  | .d (.agg _) => (ZcF cs).map fun ds => .d (.agg ds)
  | _ => match cs with
    | [v] => bif v.single then some v else none
    | _ => none
def ZqJ (h : List AObj) (id : Nat) (es : List AV) : List AObj := match h[id]? with
  | some (.arr g ap _) => h.set id (.arr g ap es)
  | _ => h
def ZaZ (C : Ctx) (t : TypeId) (st : St) (x : XV) (v : AV) : Option St :=
  match C.size t with
  | none => none
  | some n => bif Nat.beq n v.cells.length && v.cellOk then match x with
    | .sp s off => match Zab st.env s with
      | some (.box cs) => match ZcF v.cells with
        | some ds => match Za1 cs off ds with
          | some cs' => some { st with env := Zdk st.env s (.box cs') }
          | none => none
        | none => none
      | _ => none
    | .ap id g i off => match Zel st.heap id g with
      | some es => match es[i]? with
        | some e => match Za1 e.cells off v.cells with
          | some cs' => match Zed e cs' with
            | some e' => some { st with heap := ZqJ st.heap id (es.set i e') }
            | none => none
          | none => none
        | none => none
      | none => none
    | .a (.ptr id off) => match st.heap[id]? with
      | some (.var cs) => match Za1 cs off v.cells with
        | some cs' => some { st with heap := st.heap.set id (.var cs') }
        | none => none
      | _ => none
    | _ => none
  else none
def Zag (C : Ctx) (t : TypeId) (st : St) (x : AV) (i : Int) : Option XV := match C.elemSize t with
  | none => none
  | some sz => match x with
    | .d (.slc es) => match idx i es.length with
      | some k => match es[k]? with
        | some e => bif Nat.beq e.cells.length sz then some (.fp e.cells) else none
        | none => none
      | none => none
    | .osl id g n => match Zel st.heap id g with
      | some es => match idx i n with
        | some k => match es[k]? with
          | some e => bif Nat.beq e.cells.length sz then some (.ap id g k 0) else none
          | none => none
        | none => none
      | none => none
    | _ => none
def Zah (C : Ctx) (t : TypeId) (f : Nat) : XV → Option XV := fun x => match C.field t f with
  | none => none
  | some fd => bif C.hasSize fd.type then match x with
    | .sp s off => some (.sp s (off + fd.offset))
    | .fp cs => bif Nat.ble fd.offset cs.length then some (.fp (cs.drop fd.offset)) else none
    | .ap id g i off => some (.ap id g i (off + fd.offset))
    | .a (.ptr id off) => some (.a (.ptr id (off + fd.offset)))
    | _ => none
    else none
def ZaS (C : Ctx) (t : TypeId) (f : Nat) : DV → Option DV := fun x => match C.field t f with
  | none => none
  | some fd => match x with
    | .agg cs => ZaF C fd.type (cs.drop fd.offset)
    | _ => none
def Zca (f : Nat → Option (Nat × Nat)) (cells : List DV) : List (Nat × DV) → Option (List DV)
  | [] => some cells
  | (i, v) :: r => match f i with
    | some (off, size) => bif Nat.beq v.cells.length size && v.cellOk then match Za1 cells off v.cells with
        | some cs => Zca f cs r
        | none => none
      else none
    | none => none
def ZaE (st : St) : List (Nat × Operand) → Option (List (Nat × DV))
  | [] => some []
  | (i, x) :: r => match opD st x with
    | some v => match ZaE st r with
      | some vs => some ((i, v) :: vs)
      | none => none
    | none => none
def Ctx.places (C : Ctx) (t : TypeId) : Option (Nat → Option (Nat × Nat)) := match C.P.underlying t with
  | some (.struct fs) => match fs.toList.mapM (fun f => (C.P.info? f.type).map fun i => (f.offset, i.size)) with
    | some l => some fun i => l[i]?
    | none => none
  | some (.array _ e) => match C.P.info? e with
    | some ie => some fun i => some (i * ie.size, ie.size)
    | none => none
  | _ => none
def ZaT (C : Ctx) (t : TypeId) (st : St) (ps : List (Nat × Operand)) : Option DV := match C.zero t, C.places t with
  | some (.agg z), some f => match ZaE st ps with
    | some vs => match Zca f z vs with
      | some cs => some (.agg cs)
      | none => none
    | none => none
  | _, _ => none
def ZaP (sz : Nat) : Nat → List (Nat × DV) → Option (List DV)
  | _, [] => some []
  | k, (i, v) :: r => bif Nat.beq i k && Nat.beq v.cells.length sz && v.cellOk then match ZaP sz (k + 1) r with
      | some l => some (v :: l)
      | none => none
    else none
def Zae (C : Ctx) (t : TypeId) (n : Nat) (st : St) (ps : List (Nat × Operand)) : Option (List DV) := match C.elemSize t with
  | some sz => match ZaE st ps with
    | some vs => match ZaP sz 0 vs with
      | some l => bif Nat.beq l.length n && Nat.ble (n * sz) (2 ^ 24) && Nat.blt 0 (n * sz) && C.hasZero t then some l else none
      | none => none
    | none => none
  | none => none
def ZdT : DV → DV → Option Bool
  | .str a, .str b => some (a == b)
  | .int k a, .int k' b => if k = k' then some (a == b) else none
  | _, _ => none
def Zgb {α : Type} (k : DV) : List (DV × α) → Option (Option α)
  | [] => some none
  | (k', v) :: r => match ZdT k k' with
    | some true => some (some v)
    | some false => Zgb k r
    | none => none
def ZqW (k : DV) (v : AV) : List (DV × AV) → Option (List (DV × AV))
  | [] => some [(k, v)]
  | (k', u) :: r => match ZdT k k' with
    | some true => some ((k, v) :: r)
    | some false => (ZqW k v r).map ((k', u) :: ·)
    | none => none
def ZxD (k : DV) : List (DV × AV) → Option (List (DV × AV))
  | [] => some []
  | (k', u) :: r => match ZdT k k' with
    | some true => some r
    | some false => (ZxD k r).map ((k', u) :: ·)
    | none => none
def ZbP (C : Ctx) (t : TypeId) (h : List AObj) (m : AV) (k : DV) (ok : Bool) : Option AV := match C.mapZero t with
  | none => none
  | some z => match (match m with
      | .d .nilm => some none
      | .d (.fmap es) => (Zgb k es).map (Option.map AV.d)
      | .mp id => match h[id]? with
        | some (.map es) => Zgb k es
        | _ => none
      | _ => none) with
    | some (some v) => bif C.keyOk t k then some (bif ok then ZbF [v, .d (.bool true)] else v) else none
    | some none => bif C.keyOk t k then some (.d (bif ok then .tup [z, .bool false] else z)) else none
    | none => none
def Zcz (call : Zaa) (frz : Bool) (f : FuncId) (ds : List DV) : Option DV := match call f (ds.map .d) [] with
  | some (.d r, _) => some r
  | some (r, hc) => bif frz then freeze hc 100 r else none
  | none => none
def ZaL (st : St) : List Operand → Option (List AV)
  | [] => some []
  | x :: r => match opA st x with
    | some v => match ZaL st r with
      | some vs => some (v :: vs)
      | none => none
    | none => none
def Yd5 : List DV → Option DV
  | [.int k a, .int _ b] => some (.int k (if b > a then b else a))
  | _ => none
def Yd1 : List DV → Option DV
  | [.int k a, .int _ b] => some (.int k (if b < a then b else a))
  | _ => none
def Ctx.elemOk (C : Ctx) (t : TypeId) (sz : Nat) : Bool := match C.elemZero t with
  | some z => Nat.beq z.cells.length sz && z.cellOk && Nat.blt 0 sz
  | none => false
def Ctx.elemOne (C : Ctx) (t : TypeId) : Bool := match C.elemSize t with
  | some n => Nat.beq n 1
  | none => false
def ZbL (C : Ctx) (t : TypeId) (n : Nat) : Bool := match C.elemBytes t with
  | some b => Nat.ble (n * b) (2 ^ 47) && Nat.ble n (2 ^ 47)
  | none => false
def Zao (sz : Nat) : List DV → Bool
  | [] => true
  | v :: r => Nat.beq v.cells.length sz && Zao sz r
def Zbl (sz : Nat) : List AV → Bool
  | [] => true
  | v :: _ => Nat.beq v.cells.length sz
def ZdA : List UInt8 → List AV
  | [] => []
  | b :: r => .d (.int .u8 b.toNat) :: ZdA r
def ZjV : List AV → Option (List UInt8)
  | [] => some []
  | .d (.int .u8 n) :: r => (ZjV r).map (UInt8.ofNat n.toNat :: ·)
  | _ => none
def Zej : List DV → Option (List UInt8)
  | [] => some []
  | .int .u8 n :: r => (Zej r).map (UInt8.ofNat n.toNat :: ·)
  | _ => none
def Zb1 (C : Ctx) (h : List AObj) (t : TypeId) : AV → Option DV
  | .d (.str s) => bif C.isStr t then some (.int .i64 s.length) else none
  | .d (.slc es) => match C.elemSize t with
    | some _ => some (.int .i64 es.length)
    | none => none
  | .osl _ _ n => match C.elemSize t with
    | some _ => some (.int .i64 n)
    | none => none
  | .mp id => match h[id]? with
    | some (.map es) => bif C.isMap t then some (.int .i64 es.length) else none
    | _ => none
  | _ => none
def Zak (C : Ctx) (st : St) (b : Builtin) (args : List Operand) (types : List TypeId) : Option DV :=
  match b, args, types with
  | .len, [x], [t] => match opA st x with
    | some v => Zb1 C st.heap t v
    | none => none
  | .max, xs, _ => match mapO (opD st) xs with
    | some ds => Yd5 ds
    | none => none
  | .min, xs, _ => match mapO (opD st) xs with
    | some ds => Yd1 ds
    | none => none
  | _, _, _ => none
def Zai (C : Ctx) (h : List AObj) (s t : TypeId) : AV → Option DV
  | .d (.int _ n) => match C.P.underlying s, C.intKind t with
    | some _, some k => some (.int k (k.wrap n))
    | _, _ => none
  | .d (.str b) => bif C.isStr s && C.isStr t then some (.str b) else none
  | .osl id g n => bif C.isBytes s && C.isStr t then match Zel h id g with
      | some es => bif Nat.ble n es.length then (ZjV (es.take n)).map .str else none
      | none => none
    else none
  | .d (.slc es) => bif C.isBytes s && C.isStr t then (Zej es).map .str else none
  | _ => none
def ZbO (n dflt : Nat) : Option DV → Option Nat
  | none => some dflt
  | some (.int _ i) => if 0 ≤ i ∧ i ≤ n then some i.toNat else none
  | some _ => none
def ZaO (C : Ctx) (t : TypeId) (x : DV) (lo hi : Option DV) : Option DV := match x with
  | .str s => bif C.isStr t then match ZbO s.length s.length hi with
      | some h => match ZbO h 0 lo with
        | some l => some (.str ((s.take h).drop l))
        | none => none
      | none => none
    else none
  | .slc es => match C.elemSize t with
    | some sz => match ZbO es.length es.length hi with
      | some h => match ZbO h 0 lo with
        | some l => bif Zao sz (es.take 1) then some (.slc ((es.take h).drop l)) else none
        | none => none
      | none => none
    | none => none
  | _ => none
def optD (st : St) : Option Operand → Option (Option DV)
  | none => some none
  | some x => match opD st x with
    | some v => some (some v)
    | none => none
def Zoa : XV → Option XV
  | .a (.ptr id off) => some (.a (.ptr id off))
  | .sp s off => some (.sp s off)
  | .ap id g i off => some (.ap id g i off)
  | .fp cs => some (.fp cs)
  | _ => none
def ZaV (C : Ctx) (t : TypeId) : DV → Int → Option DV
  | .str s, n => bif C.isStr t then (match idx n s.length with
    | some k => match s[k]? with
      | some b => some (.int .u8 b.toNat)
      | none => none
    | none => none) else none
  | _, _ => none
def Zam : AV → Nat → Option AV
  | .d (.tup vs), i => (vs[i]?).map .d
  | .tup vs, i => vs[i]?
  | _, _ => none
def ZeB : AV → Option (FuncId × List AV)
  | .d (.fn f caps) => some (f, caps.map .d)
  | .fn f caps => some (f, caps)
  | _ => none
def oD : Option DV → Option XV
  | some v => some (.a (.d v))
  | none => none
def oA : Option AV → Option XV
  | some v => some (.a v)
  | none => none
def ZaQ (C : Ctx) (call : Zaa) (fa : FA) (o : Oper) (st : St) : Option XV := match o.op with
  | .move x => bif Zbn fa o.dst then none else opx st x
  | .assign x => bif Zbn fa o.dst then none else opx st x
  | .pick c a b => match opD st c with
    | some (.bool t) => bif t then opd st a else opd st b
    | _ => none
  | .build t ps => oD (ZaT C t st ps.toList)
  | .buildSlice t n ps => bif Zbn fa o.dst then none else match Zae C t n st ps.toList with
    | some es => some (.a (.d (.slc es)))
    | none => match C.elemSize t, n, ps.toList with
      | some _, 0, [] => some (.own [])
      | _, _, _ => none
  | .load t a => match opd st a with
    | some p => oA (ZaX C t st p)
    | none => none
  | .nilCheck x => match opd st x with
    | some v => Zoa v
    | none => none
  | .binOp op t x y _ => match opA st x, opA st y with
    | some a, some b => oD (Zem C op t a b)
    | _, _ => none
  | .unOp op _ x => match opD st x with
    | some a => oD (dUn op a)
    | none => none
  | .convert s t x => match opA st x with
    | some v => oD (Zai C st.heap s t v)
    | none => none
  | .makeFunc (.func f) first captured => match first.toList, ZaL st captured.toList with
    | [], some vs => some (.a (ZuO f vs))
    | _, _ => none
  | .slice t x lo hi none => match opD st x, optD st lo, optD st hi with
    | some v, some l, some h => oD (ZaO C t v l h)
    | _, _, _ => none
  | .fieldAddr t x f => match opd st x with
    | some p => Zah C t f p
    | none => none
  | .field t x f => match opD st x with
    | some v => oD (ZaS C t f v)
    | none => none
  | .indexAddr t x i => match opA st x, opD st i with
    | some v, some (.int _ n) => Zag C t st v n
    | _, _ => none
  | .index t x i => match opD st x, opD st i with
    | some v, some (.int _ n) => oD (ZaV C t v n)
    | _, _ => none
  | .lookup t x k ok => match opA st x, opD st k with
    | some m, some k => oA (ZbP C t st.heap m k ok)
    | _, _ => none
  | .extract x i => match opA st x with
    | some v => oA (Zam v i)
    | none => none
  | .makeSlice t l c => bif Zaq fa.frz o.dst then (match C.elemZero t, C.elemSize t, opD st l, opD st c with
    | some z, some sz, some (.int _ n), some (.int _ m) => if 0 ≤ n ∧ n = m ∧ ZbL C t n.toNat = true ∧ C.elemOk t sz = true then some (.a (.d (.slc (List.replicate n.toNat z)))) else none
    | _, _, _, _ => none) else none
  | .call c => match c.callee with
    | .builtin b => oD (Zak C st b c.args.toList c.argTypes.toList)
    | .value g => match opA st g, ZaL st c.args.toList with
      | some fv, some vs => match ZeB fv with
        | some (f, caps) => bif Zaq fa.lend o.dst then (match ZdZ st.heap (vs ++ caps) with
            | some (ds, k) => match Zcz call false f ds with
              | some r => bif Zp0 k r then some (.a (.d r)) else none
              | none => none
            | none => none)
          else match ZcF (vs ++ caps) with
          | some ds => oD (Zcz call (Zaq fa.frz o.dst) f ds)
          | none => none
        | none => none
      | _, _ => none
    | .invoke _ _ => none
  | _ => none
def Zay (C : Ctx) (fa : FA) (st : St) (dst : Option Tmp) (t : TypeId) (s x : Operand) : Option St := match C.elemSize t, opD st x with
  | some sz, some (.slc new) => match opd st s with
    | some (.a (.osl id g n)) => match st.heap[id]? with
      | some (.arr g' true es) => bif Nat.beq g g' && Nat.beq n es.length && Zbl sz es && Zao sz new && ZbL C t (n + new.length) && C.elemOk t sz then
          { st with heap := st.heap.set id (.arr (g + 1) true (es ++ new.map AV.d)) }.put fa dst (.a (.osl id (g + 1) (n + new.length)))
        else none
      | _ => none
    | _ => match Zbx st s with
      | some es => bif Zao sz new && Zao sz (es.take 1) && ZbL C t (es.length + new.length) && C.elemOk t sz then
          bif ZaG fa dst then
            (match es, new with
             | [], _ :: _ => { (st.lose s) with heap := st.heap ++ [AObj.arr 0 true (new.map AV.d)] }.put fa dst (.a (.osl st.heap.length 0 new.length))
             | _, _ => none)
          else (st.lose s).putOwn fa dst (es ++ new)
        else none
      | none => none
  | _, _ => none
def Zg9 (C : Ctx) (fa : FA) (st : St) (dst : Option Tmp) (t : TypeId) (m k : Operand) : Option St := match C.mapZero t, opA st m, opD st k with
  | some _, some (.mp id), some k => match st.heap[id]? with
    | some (.map es) => match ZxD k es with
      | some es' => bif C.keyOk t k then { st with heap := st.heap.set id (.map es') }.put fa dst (.a (.d (.tup []))) else none
      | none => none
    | _ => none
  | _, _, _ => none
def ZaU (fa : FA) (st : St) (dst : Option Tmp) (v : AV) : Option St :=
  bif !v.cellOk then none else bif ZaG fa dst then { st with heap := st.heap ++ [AObj.var v.cells] }.put fa dst (.a (.ptr st.heap.length 0))
  else match dst, v with
    | some s, .d u => bif has fa.keep s && Zd2 s st.tmp && Nat.blt s fa.nt then some { st with env := Zdk st.env s (.box u.cells) } else none
    | _, _ => none
def Za5 (fa : FA) (o : Oper) : Bool := match o.op, o.dst with
  | .call c, some d => (match c.callee, c.args.toList with
    | .builtin .append, [.tmp u, _] => has fa.frz d && !has fa.keep d && !has fa.heapy d && !has fa.keep u && !Nat.beq u d
    | _, _ => false)
  | _, _ => false
def ZrP (st : St) : Operand → Bool
  | .tmp u => match Zab st.tmp u with
    | some (.own _) => true
    | _ => false
  | _ => false
def Zbm (fa : FA) (st : St) (dst : Option Tmp) (x : Operand) : Option St := match Zbx st x with
  | some es => (st.lose x).putOwn fa dst es
  | none => match opd st x with
    | some v => st.put fa dst v
    | none => none
def Zh1 (call : Zaa) (f : FuncId) (args : List AV) (h : List AObj) : Option (AV × List AObj) := match ZcF args with
  | some _ => match call f args [] with
    | some (r, hc) => some (r.shift h.length, h ++ hc.map (AObj.shift h.length))
    | none => none
  | none => call f args h
def Zbs (C : Ctx) (call : Zaa) (fa : FA) (o : Oper) (st : St) : Option St := match o.op with
  | .move x => Zbm fa st o.dst x
  | .assign x => Zbm fa st o.dst x
  | .alloc t => match C.zero t with
    | some z => ZaU fa st o.dst (.d z)
    | none => none
  | .box _ x => match opA st x with
    | some v => ZaU fa st o.dst v
    | none => none
  | .buildSlice t n ps => match Zae C t n st ps.toList with
    | some es => st.putOwn fa o.dst es
    | none => none
  | .store t a x => match opd st a, opA st x with
    | some p, some v => match ZaZ C t st p v with
      | some st' => st'.put fa o.dst .un
      | none => none
    | _, _ => none
  | .convert s t x => match opD st x with
    | some (.str b) => bif C.isStr s && C.isBytes t && C.elemOne t then { st with heap := st.heap ++ [AObj.arr 0 false (ZdA b)] }.put fa o.dst (.a (.osl st.heap.length 0 b.length)) else none
    | _ => none
  | .makeMap t none => bif C.isMap t then { st with heap := st.heap ++ [AObj.map []] }.put fa o.dst (.a (.mp st.heap.length)) else none
  | .makeSlice t l c => match C.elemZero t, C.elemSize t, opD st l, opD st c with
    | some z, some sz, some (.int _ n), some (.int _ m) => if 0 ≤ n ∧ n = m ∧ ZbL C t n.toNat = true ∧ C.elemOk t sz = true then
        { st with heap := st.heap ++ [AObj.arr 0 true (List.replicate n.toNat (.d z))] }.put fa o.dst (.a (.osl st.heap.length 0 n.toNat))
      else none
    | _, _, _, _ => none
  | .mapUpdate t m k x => match C.mapZero t, opA st m, opD st k, opA st x with
    | some _, some (.mp id), some k, some v => bif !v.cellOk then none else match st.heap[id]? with
      | some (.map es) => match ZqW k v es with
        | some es' => bif C.keyOk t k then { st with heap := st.heap.set id (.map es') }.put fa o.dst .un else none
        | none => none
      | _ => none
    | _, _, _, _ => none
  | .call c => match c.callee with
    | .builtin b => match b, c.args.toList, c.argTypes.toList with
      | .append, [s, x], [t, t'] => bif Nat.beq t t' && (!Za5 fa o || ZrP st s) then Zay C fa st o.dst t s x else none
      | .delete, [m, k], t :: _ => Zg9 C fa st o.dst t m k
      | _, _, _ => none
    | .value g => match opA st g, ZaL st c.args.toList with
      | some fv, some vs => match ZeB fv with
        | some (f, caps) => bif Zaq fa.lend o.dst then none else match Zh1 call f (vs ++ caps) st.heap with
          | some (r, h) => { st with heap := h }.put fa o.dst (.a r)
          | none => none
        | none => none
      | _, _ => none
    | .invoke _ _ => none
  | _ => none
def Zeh (C : Ctx) (call : Zaa) (fa : FA) (o : Oper) (st : St) : Option St := match ZaQ C call fa o st with
  | some x => st.put fa o.dst x
  | none => Zbs C call fa o st
def Zaw (ops : List Oper) (o : Oper) (st : St) : Option Bool := match o.guard with
  | none => some true
  | some (j, want) => match (ops[j]?).bind (·.dst) with
    | some t => match Zab st.tmp t with
      | some (.a (.d (.bool b))) => some (b == want)
      | some .un => some false
      | _ => none
    | none => none
def Zau (C : Ctx) (call : Zaa) (fa : FA) (all : List Oper) (q : Bool) (o : Oper) (st : St) : Option St := match Zaw all o st with
  | some true => bif q then (match ZaQ C call fa o st with
      | some x => st.put fa o.dst x
      | none => none) else Zeh C call fa o st
  | some false => st.put fa o.dst .un
  | none => none
def Zan (C : Ctx) (call : Zaa) (fa : FA) (all : List Oper) : List Oper → St → Option St
  | [], st => some st
  | o :: r, st => match Zau C call fa all false o st with
    | some st' => Zan C call fa all r st'
    | none => none
def Zub (ops : List Oper) (j : Nat) : List Nat := match ops[j]? with
  | some o => (o.after.toList.filter (Region.binds .any)).map (·.on)
  | none => []
def Zu6 (ops : List Oper) : Nat → List Nat → List Nat
  | 0, l => l
  | n + 1, l => Zu6 ops n (l.foldl (fun acc i => (Zub ops i).foldl (fun acc k => bif has acc k then acc else k :: acc) acc) l)
def Zoq (ops : List Oper) (j : Nat) : List Nat := Zu6 ops ops.length (Zub ops j)
def Zdq (fa : FA) (o : Oper) : Bool := (match o.dst with | some t => !has fa.keep t | none => false) && (match o.op with
  | .select _ _ => false
  | _ => true)
def ZnW (ops : List Oper) (anc : List (List Nat)) (j : Nat) : Bool :=
  (List.range ops.length).all fun i => Nat.beq i j || bif Nat.blt i j then has (anc.getD j []) i else has (anc.getD i []) j
def YdG (fa : FA) (ops : List Oper) (anc : List (List Nat)) (i j : Nat) : Bool :=
  Nat.beq i j || has (anc.getD j []) i || has (anc.getD i []) j || (match ops[i]?, ops[j]? with
    | some x, some y => !(Za5 fa x && Za5 fa y)
    | _, _ => false)
def YcX (fa : FA) (ops : List Oper) (j : Nat) : Bool := match ops[j]? with
  | some o => Za5 fa o
  | none => false
def Zdx (fa : FA) (ops : List Oper) : List Bool :=
  let anc := (List.range ops.length).map (Zoq ops)
  (List.range ops.length).map fun j => !ZnW ops anc j && !YcX fa ops j
def Zpe (fa : FA) (ops : List Oper) : Bool :=
  let anc := (List.range ops.length).map (Zoq ops)
  Region.lexB .any ops.toArray &&
  ((List.range ops.length).all fun j => ZnW ops anc j || (match ops[j]? with | some o => Zdq fa o || Za5 fa o | none => false)) &&
  ((List.range ops.length).all fun i => (List.range ops.length).all fun j => YdG fa ops anc i j)
def Zfm (C : Ctx) (call : Zaa) (fa : FA) (all : List Oper) : List Bool → List Oper → St → Option St
  | q :: qs, o :: r, st => match Zau C call fa all q o st with
    | some st' => Zfm C call fa all qs r st'
    | none => none
  | _, [], st => some st
  | [], _ :: _, _ => none
def Zc8 (C : Ctx) (call : Zaa) (fa : FA) (draw : Bool) (ops : List Oper) (st : St) : Option St :=
  bif draw then bif Zpe fa ops then Zfm C call fa ops (Zdx fa ops) ops st else none
  else Zan C call fa ops ops st
inductive Out where
  | norm (st : St)
  | exit (id : Nat) (st : St)
  | goto (l : Nat) (st : St)
  | ret (st : St)
def iter (f : St → Option Out) (e0 : List (Nat × SV)) : Nat → St → Option Out
  | 0, _ => none
  | n + 1, st => match f st with
    | some (.norm st') => iter f e0 n (st'.trim e0)
    | r => r
def evC (C : Ctx) (call : Zaa) (fa : FA) (n : Nat) : Code → St → Option Out
  | .skip, st => some (.norm st)
  | .label _, st => some (.norm st)
  | .region _ ops draw, st => match Zc8 C call fa draw ops.toList st with
    | some st' => some (.norm { st' with tmp := [] })
    | none => none
  | .seq a b, st => match evC C call fa n a st with
    | some (.norm st') => evC C call fa n b st'
    | r => r
  | .cond c a b, st => match opD st c with
    | some (.bool t) => bif t then evC C call fa n a st else evC C call fa n b st
    | _ => none
  | .block id c, st => match evC C call fa n c st with
    | some (.exit k st') => bif Nat.beq k id then some (.norm (st'.trim st.env)) else some (.exit k st')
    | some (.norm st') => some (.norm (st'.trim st.env))
    | r => r
  | .loop c, st => iter (evC C call fa n c) st.env n st
  | .exit id, st => some (.exit id st)
  | .ret, st => some (.ret st)
  | .goto l, st => some (.goto l st)
  | _, _ => none
def Zer (l : List Nat) : Nat → Bool
  | 0 => true
  | n + 1 => has l n && Zer l n
def Zgo : Nat → List AV → List (Nat × SV)
  | _, [] => []
  | k, v :: r => (k, .val v) :: Zgo (k + 1) r
def Zbp (C : Ctx) (st : St) : List ResultVar → Option (List AV)
  | [] => some []
  | .tmp t :: r => match opA st (.tmp t) with
    | some v => (Zbp C st r).map (v :: ·)
    | none => none
  | .cell s t :: r => match opd st (.tmp s) with
    | some p => match ZaX C t st p with
      | some v => (Zbp C st r).map (v :: ·)
      | none => none
    | none => none
def ZaW : List AV → AV
  | [v] => v
  | vs => ZbF vs
def ZbR (C : Ctx) (fn : Func) : Option Out → Option (AV × List AObj)
  | some (.norm st) => match Zbp C st fn.results.toList with
    | some vs => some (ZaW vs, st.heap)
    | none => none
  | some (.ret st) => match Zbp C st fn.results.toList with
    | some vs => some (ZaW vs, st.heap)
    | none => none
  | _ => none
def Yb1 (C : Ctx) (call : Zaa) (n : Nat) (f : FuncId) (args : List AV) (h : List AObj) : Option (AV × List AObj) :=
  match C.P.funcs[f]? with
  | some fn => match fn.body with
    | some c => bif Nat.beq fn.ntmps (C.ann f).nt && Nat.ble args.length fn.ntmps && Zer (C.ann f).keep args.length then ZbR C fn (evC C call (C.ann f) n c ⟨Zgo 0 args, [], h⟩) else none
    | none => none
  | none => none
def Zbf (C : Ctx) (K : Zaa) : Nat → Zaa
  | 0 => fun _ _ _ => none
  | n + 1 => fun f args h => match K f args h with
    | some r => some r
    | none => Yb1 C (Zbf C K n) n f args h
end Go.Abs
namespace Go.Abs
inductive Owner where
  | box (s : Nat)
  | own (s : Nat)
  | tmp (t : Nat)
  | obj (id : Nat)
  | ext
  | pend
  deriving DecidableEq
abbrev Own := Nat → Option (Owner × Nat)
def Zx8 (own : Own) (b o : Nat) : Prop := ∀ x f, own b = some (x, f) → o < f
def ZgF (es : Array MapEntry) (clock : Nat) : Prop := (∀ x ∈ es.toList, x.born < clock) ∧ (es.toList.map (·.born)).Nodup
inductive Rep (w : World) (own : Own) : Value → DV → Prop where
  | bool (b : Bool) : Rep w own (.bool b) (.bool b)
  | int (k : IntKind) (n : Int) : Rep w own (.int k n) (.int k n)
  | str (s : ByteArray) : Rep w own (.string s) (.str s.data.toList)
  | nilp : Rep w own (.pointer none) .nilp
  | nilm : Rep w own (.map none) .nilm
  | nilf : Rep w own .nilFunc .nilf
  | nili : Rep w own .nilIface .nili
  | slc0 (a : Option Addr) (cap : Nat) : Rep w own (.slice a 0 cap) (.slc [])
  | slc (b o cap sz : Nat) (es : List DV) (vs : Nat → Value) (hcap : es.length ≤ cap) (hsz : ∀ e ∈ es, e.cells.length = sz)
      (hc : ∀ i, i < es.length * sz → w.cell? ⟨b, o + i, none⟩ = some (vs i))
      (hp : ∀ i, i < es.length * sz → Zx8 own b (o + i))
      (h1 : ∀ i, i < es.length * sz → (vs i).oneCell' = true)
      (hr : ∀ i d, (es.flatMap DV.cells)[i]? = some d → Rep w own (vs i) d) : Rep w own (.slice (some ⟨b, o, none⟩) es.length cap) (.slc es)
  | fmap (b : Nat) (es : Array MapEntry) (clock : Nat) (ds : List (DV × DV)) (hb : w.heap[b]? = some (.map es clock)) (ho : own b = none) (hst : ZgF es clock)
      (hl : es.size = ds.length) (hk : ∀ (i : Nat) e d, es[i]? = some e → ds[i]? = some d → Rep w own e.key d.1)
      (hv : ∀ (i : Nat) e d, es[i]? = some e → ds[i]? = some d → Rep w own e.val d.2) : Rep w own (.map (some b)) (.fmap ds)
  | fn (f : FuncId) (cs : Array Value) (ds : List DV) (hl : cs.size = ds.length)
      (h : ∀ (i : Nat) v d, cs[i]? = some v → ds[i]? = some d → Rep w own v d) : Rep w own (.func (.func f) #[] cs) (.fn f ds)
  | agg (cs : Array Value) (ds : List DV) (hl : cs.size = ds.length)
      (h1 : ∀ (i : Nat) v, cs[i]? = some v → v.oneCell' = true)
      (h : ∀ (i : Nat) v d, cs[i]? = some v → ds[i]? = some d → Rep w own v d) : Rep w own (.agg cs) (.agg ds)
  | tup (cs : Array Value) (ds : List DV) (hl : cs.size = ds.length)
      (h : ∀ (i : Nat) v d, cs[i]? = some v → ds[i]? = some d → Rep w own v d) : Rep w own (.tuple cs) (.tup ds)
  | iface (t : TypeId) (v : Value) (d : DV) (h : Rep w own v d) : Rep w own (.iface t v) (.iface t d)
structure Ext (w : World) (own : Own) (w' : World) (own' : Own) : Prop where
  cell : ∀ b o v, w.cell? ⟨b, o, none⟩ = some v → Zx8 own b o → w'.cell? ⟨b, o, none⟩ = some v ∧ Zx8 own' b o
  map : ∀ b es c, w.heap[b]? = some (.map es c) → own b = none → w'.heap[b]? = some (.map es c) ∧ own' b = none
theorem Ext.refl (w : World) (own : Own) : Ext w own w own := ⟨fun _ _ _ h k => ⟨h, k⟩, fun _ _ _ h k => ⟨h, k⟩⟩
theorem Ext.trans {w w1 w2 : World} {o o1 o2 : Own} (h : Ext w o w1 o1) (k : Ext w1 o1 w2 o2) : Ext w o w2 o2 :=
  ⟨fun b i v hc hp => let ⟨x, y⟩ := h.cell b i v hc hp; k.cell b i v x y, fun b es c hc hp => let ⟨x, y⟩ := h.map b es c hc hp; k.map b es c x y⟩
theorem Rep.mono {w w' : World} {own own' : Own} {v : Value} {d : DV} (h : Rep w own v d) (e : Ext w own w' own') : Rep w' own' v d := by
  induction h with
  | bool b => exact .bool b
  | int k n => exact .int k n
  | str s => exact .str s
  | nilp => exact .nilp
  | nilm => exact .nilm
  | nilf => exact .nilf
  | nili => exact .nili
  | slc0 a cap => exact .slc0 a cap
  | slc b o cap sz es vs hcap hsz hc hp h1 hr ih =>
    exact .slc b o cap sz es vs hcap hsz (fun i hi => (e.cell _ _ _ (hc i hi) (hp i hi)).1) (fun i hi => (e.cell _ _ _ (hc i hi) (hp i hi)).2) h1 ih
  | fmap b es clock ds hb ho hst hl hk hv ihk ihv => exact .fmap b es clock ds (e.map _ _ _ hb ho).1 (e.map _ _ _ hb ho).2 hst hl ihk ihv
  | fn f cs ds hl h ih => exact .fn f cs ds hl ih
  | agg cs ds hl h1 h ih => exact .agg cs ds hl h1 ih
  | tup cs ds hl h ih => exact .tup cs ds hl ih
  | iface t v d h ih => exact .iface t v d ih
inductive ARep (P : Program) (w : World) (own : Own) (h : List AObj) : Value → AV → Prop where
  | d (v : Value) (x : DV) (hr : Rep w own v x) : ARep P w own h v (.d x)
  | ptr (v : Value) (id off : Nat) (hid : id < h.length)
      (hl : ∀ cs, h[id]? = some (.var cs) → ∃ b, own b = some (.obj id, 0) ∧ v = .pointer (some ⟨b, off, none⟩)) (hv : ∃ b o, v = .pointer (some ⟨b, o, none⟩)) : ARep P w own h v (.ptr id off)
  | osl (v : Value) (id g n : Nat) (hid : id < h.length) (hv : ∃ base cap, v = .slice base n cap)
      (hg : ∀ g' ap es, h[id]? = some (.arr g' ap es) → g ≤ g')
      (hl : ∀ ap es, h[id]? = some (.arr g ap es) → ∃ b cap c T fr i, v = .slice (some ⟨b, 0, none⟩) n cap ∧ own b = some (.obj id, 0) ∧
        w.heap[b]? = some (.cells c T fr) ∧ P.info? T = some i ∧ c.size = cap * i.size) : ARep P w own h v (.osl id g n)
  | mp (v : Value) (id : Nat) (hid : id < h.length)
      (hl : ∀ es, h[id]? = some (.map es) → ∃ b, own b = some (.obj id, 0) ∧ v = .map (some b)) (hv : ∃ b, v = .map (some b)) : ARep P w own h v (.mp id)
  | fn (f : FuncId) (cs : Array Value) (as : List AV) (hl : cs.size = as.length)
      (hh : ∀ (i : Nat) v a, cs[i]? = some v → as[i]? = some a → ARep P w own h v a) : ARep P w own h (.func (.func f) #[] cs) (.fn f as)
  | tup (cs : Array Value) (as : List AV) (hl : cs.size = as.length)
      (hh : ∀ (i : Nat) v a, cs[i]? = some v → as[i]? = some a → ARep P w own h v a) : ARep P w own h (.tuple cs) (.tup as)
  | raw (v : Value) (h1 : v.oneCell' = true) : ARep P w own h v (.raw v)
def AObj.later : AObj → AObj → Prop
  | .var _, .var _ => True
  | .map _, .map _ => True
  | .arr g ap _, .arr g' ap' _ => g ≤ g' ∧ ap = ap'
  | _, _ => False
def AObj.stays : AObj → AObj → Prop
  | .arr g _ _, .arr g' _ _ => g = g'
  | _, _ => True
theorem AObj.later_refl (o : AObj) : o.later o := by cases o <;> simp [AObj.later]
theorem AObj.stays_refl (o : AObj) : o.stays o := by cases o <;> simp [AObj.stays]
structure ExtA (w : World) (own : Own) (h : List AObj) (w' : World) (own' : Own) (h' : List AObj) : Prop where
  ext : Ext w own w' own'
  len : h.length ≤ h'.length
  kind : ∀ (id : Nat) (o o' : AObj), h[id]? = some o → h'[id]? = some o' → o.later o'
  blk : ∀ (b id : Nat) (o o' : AObj), own b = some (.obj id, 0) → h[id]? = some o → h'[id]? = some o' → o.stays o' → own' b = some (.obj id, 0) ∧
    ∀ c T fr, w.heap[b]? = some (.cells c T fr) → ∃ c', w'.heap[b]? = some (.cells c' T fr) ∧ c'.size = c.size
theorem ExtA.at {w w' : World} {own own' : Own} {h h' : List AObj} (e : ExtA w own h w' own' h') {id : Nat} (hid : id < h.length) {o' : AObj}
    (ho : h'[id]? = some o') : ∃ o, h[id]? = some o ∧ o.later o' :=
  ⟨h[id], List.getElem?_eq_getElem hid, e.kind id _ _ (List.getElem?_eq_getElem hid) ho⟩
theorem ARep.mono {P : Program} {w w' : World} {own own' : Own} {h h' : List AObj} {v : Value} {a : AV} (r : ARep P w own h v a)
    (e : ExtA w own h w' own' h') : ARep P w' own' h' v a := by
  induction r with
  | d v x hr => exact .d v x (hr.mono e.ext)
  | ptr v id off hid hl hv =>
    refine .ptr v id off (Nat.lt_of_lt_of_le hid e.len) (fun cs hcs => ?_) hv
    obtain ⟨o, ho, hk⟩ := e.at hid hcs
    cases o <;> simp only [AObj.later] at hk
    obtain ⟨b, hb, hv'⟩ := hl _ ho
    exact ⟨b, (e.blk b id _ _ hb ho hcs trivial).1, hv'⟩
  | osl v id g n hid hv hg hl =>
    refine .osl v id g n (Nat.lt_of_lt_of_le hid e.len) hv (fun g' ap es hes => ?_) (fun ap es hes => ?_)
    · obtain ⟨o, ho, hk⟩ := e.at hid hes
      cases o <;> simp only [AObj.later] at hk
      exact Nat.le_trans (hg _ _ _ ho) hk.1
    · obtain ⟨o, ho, hk⟩ := e.at hid hes
      cases o with
      | arr g0 ap0 es0 =>
        simp only [AObj.later] at hk
        have hgg := hg _ _ _ ho
        have h0 : g0 = g := Nat.le_antisymm hk.1 hgg
        subst h0
        obtain ⟨b, cap, c, T, fr, i, hv', hb, hc, hi, hs⟩ := hl _ _ ho
        obtain ⟨hb', hc'⟩ := e.blk b id _ _ hb ho hes rfl
        obtain ⟨c', hc', hs'⟩ := hc' _ _ _ hc
        exact ⟨b, cap, c', T, fr, i, hv', hb', hc', hi, by rw [hs', hs]⟩
      | _ => simp only [AObj.later] at hk
  | mp v id hid hl hv =>
    refine .mp v id (Nat.lt_of_lt_of_le hid e.len) (fun cs hcs => ?_) hv
    obtain ⟨o, ho, hk⟩ := e.at hid hcs
    cases o <;> simp only [AObj.later] at hk
    obtain ⟨b, hb, hv'⟩ := hl _ ho
    exact ⟨b, (e.blk b id _ _ hb ho hcs trivial).1, hv'⟩
  | fn f cs as hl hh ih => exact .fn f cs as hl ih
  | tup cs as hl hh ih => exact .tup cs as hl ih
  | raw v h1 => exact .raw v h1
def Zf3 (c : Array Value) (fr : Nat × Nat) : Prop := ∀ j, j < c.size → ¬ (fr.1 ≤ j ∧ j < fr.2)
def ORel (P : Program) (w : World) (own : Own) (h : List AObj) (b : Nat) : AObj → Prop
  | .arr _ ap es => ∃ c T fr i, w.heap[b]? = some (.cells c T fr) ∧ P.info? T = some i ∧ Zf3 c fr ∧ (ap = true → fr = (0, 0) ∧ (es = [] → c.size = 0)) ∧
      (∀ e ∈ es, e.cells.length = i.size) ∧ 0 < i.size ∧ es.length * i.size ≤ c.size ∧
      ∀ (j : Nat) a, (es.flatMap AV.cells)[j]? = some a → ∃ v, c[j]? = some v ∧ v.oneCell' = true ∧ ARep P w own h v a
  | .var cs => ∃ c T fr, w.heap[b]? = some (.cells c T fr) ∧ Zf3 c fr ∧ c.size = cs.length ∧
      ∀ (j : Nat) a, cs[j]? = some a → ∃ v, c[j]? = some v ∧ v.oneCell' = true ∧ ARep P w own h v a
  | .map es => ∃ m clock, w.heap[b]? = some (.map m clock) ∧ ZgF m clock ∧ m.size = es.length ∧
      ∀ (j : Nat) e x, m[j]? = some e → es[j]? = some x → Rep w own e.key x.1 ∧ ARep P w own h e.val x.2
theorem ORel.mono {P : Program} {w w' : World} {own own' : Own} {h h' : List AObj} {b : Nat} {o : AObj} (r : ORel P w own h b o)
    (e : ExtA w own h w' own' h') (hb : w'.heap[b]? = w.heap[b]?) : ORel P w' own' h' b o := by
  cases o with
  | arr g ap es =>
    obtain ⟨c, T, fr, i, h1, h2, h3, h4, h5, h6, h7, h8⟩ := r
    exact ⟨c, T, fr, i, by rw [hb, h1], h2, h3, h4, h5, h6, h7, fun j a ha => let ⟨v, x, y, z⟩ := h8 j a ha; ⟨v, x, y, z.mono e⟩⟩
  | var cs =>
    obtain ⟨c, T, fr, h1, h2, h3, h4⟩ := r
    exact ⟨c, T, fr, by rw [hb, h1], h2, h3, fun j a ha => let ⟨v, x, y, z⟩ := h4 j a ha; ⟨v, x, y, z.mono e⟩⟩
  | map es =>
    obtain ⟨m, cl, h1, hst, h2, h3⟩ := r
    exact ⟨m, cl, by rw [hb, h1], hst, h2, fun j e' x a b => let ⟨y, z⟩ := h3 j e' x a b; ⟨y.mono e.ext, z.mono e⟩⟩
structure HRel (P : Program) (w : World) (own : Own) (h : List AObj) : Prop where
  obj : ∀ id o, h[id]? = some o → ∃ b, own b = some (.obj id, 0) ∧ ORel P w own h b o
  uniq : ∀ b b' x f f', own b = some (x, f) → own b' = some (x, f') → x ≠ .ext → b = b'
  lt : ∀ b x, own b = some x → b < w.heap.size
  idlt : ∀ b id f, own b = some (.obj id, f) → id < h.length ∧ f = 0
def OwnRel (P : Program) (w : World) (own : Own) (x : Owner) (v : Value) (es : List DV) : Prop :=
  (es = [] ∧ ∃ a, v = .slice a 0 0) ∨
  ∃ b cap c T i, es ≠ [] ∧ v = .slice (some ⟨b, 0, none⟩) es.length cap ∧ own b = some (x, es.length * i.size) ∧ w.heap[b]? = some (.cells c T (0, 0)) ∧
    P.info? T = some i ∧ 0 < i.size ∧ es.length ≤ cap ∧ cap ≤ maxLen ∧ c.size = cap * i.size ∧ Rep w own v (.slc es) ∧ ∀ e ∈ es, e.cells.length = i.size
theorem OwnRel.rep {P : Program} {w : World} {own : Own} {x : Owner} {v : Value} {es : List DV} (h : OwnRel P w own x v es) : Rep w own v (.slc es) := by
  rcases h with ⟨rfl, q, rfl⟩ | ⟨b, cap, c, T, i, _, _, _, _, _, _, _, _, _, h, _⟩
  · exact .slc0 q 0
  · exact h
def Keep (w : World) (own : Own) (w' : World) (own' : Own) (x : Owner) : Prop :=
  ∀ b f, own b = some (x, f) → own' b = some (x, f) ∧ w'.heap[b]? = w.heap[b]?
theorem OwnRel.mono {P : Program} {w w' : World} {own own' : Own} {x : Owner} {v : Value} {es : List DV} (h : OwnRel P w own x v es)
    (e : Ext w own w' own') (k : Keep w own w' own' x) : OwnRel P w' own' x v es := by
  rcases h with h | ⟨b, cap, c, T, i, h0, h1, h2, h3, h4, h5, h6, h7, h8, h9, h10⟩
  · exact .inl h
  · exact .inr ⟨b, cap, c, T, i, h0, h1, (k b _ h2).1, by rw [(k b _ h2).2, h3], h4, h5, h6, h7, h8, h9.mono e, h10⟩
def BoxRel (w : World) (own : Own) (s : Nat) (v : Value) (cs : List DV) : Prop :=
  ∃ b c T fr, own b = some (.box s, 0) ∧ v = .pointer (some ⟨b, 0, none⟩) ∧ w.heap[b]? = some (.cells c T fr) ∧ Zf3 c fr ∧ c.size = cs.length ∧
    ∀ (j : Nat) d, cs[j]? = some d → ∃ u, c[j]? = some u ∧ u.oneCell' = true ∧ Rep w own u d
theorem BoxRel.mono {w w' : World} {own own' : Own} {s : Nat} {v : Value} {cs : List DV} (h : BoxRel w own s v cs)
    (e : Ext w own w' own') (k : Keep w own w' own' (.box s)) : BoxRel w' own' s v cs := by
  obtain ⟨b, c, T, fr, h1, h2, h3, h4, h5, h6⟩ := h
  exact ⟨b, c, T, fr, (k b _ h1).1, h2, by rw [(k b _ h1).2, h3], h4, h5, fun j d hd => let ⟨u, x, y, z⟩ := h6 j d hd; ⟨u, x, y, z.mono e⟩⟩
def SVRel (P : Program) (w : World) (own : Own) (h : List AObj) (s : Nat) (v : Value) : SV → Prop
  | .val a => ARep P w own h v a
  | .own es => OwnRel P w own (.own s) v es
  | .box cs => BoxRel w own s v cs
theorem SVRel.mono {P : Program} {w w' : World} {own own' : Own} {h h' : List AObj} {s : Nat} {v : Value} {sv : SV} (r : SVRel P w own h s v sv)
    (e : ExtA w own h w' own' h') (k1 : Keep w own w' own' (.box s)) (k2 : Keep w own w' own' (.own s)) : SVRel P w' own' h' s v sv := by
  cases sv with
  | val a => exact ARep.mono r e
  | own es => exact OwnRel.mono r e.ext k2
  | box cs => exact BoxRel.mono r e.ext k1
def FpRel (w : World) (own : Own) (v : Value) (cs : List DV) : Prop :=
  ∃ b o, v = .pointer (some ⟨b, o, none⟩) ∧ ∀ (j : Nat) d, cs[j]? = some d → ∃ u, w.cell? ⟨b, o + j, none⟩ = some u ∧ Zx8 own b (o + j) ∧ u.oneCell' = true ∧ Rep w own u d
def ApRel (P : Program) (w : World) (own : Own) (h : List AObj) (v : Value) (id g i off : Nat) : Prop :=
  id < h.length ∧ (∃ b o, v = .pointer (some ⟨b, o, none⟩)) ∧ (∀ g' ap es, h[id]? = some (.arr g' ap es) → g ≤ g') ∧
  ∀ ap es, h[id]? = some (.arr g ap es) → ∃ b c T fr inf, own b = some (.obj id, 0) ∧ w.heap[b]? = some (.cells c T fr) ∧ P.info? T = some inf ∧
    v = .pointer (some ⟨b, i * inf.size + off, none⟩)
def XRel (P : Program) (w : World) (own : Own) (h : List AObj) (env : List (Nat × SV)) (z : Nat → Value) (t : Nat) (v : Value) : XV → Prop
  | .a a => ARep P w own h v a
  | .sp s off => ∃ b, own b = some (.box s, 0) ∧ v = .pointer (some ⟨b, off, none⟩)
  | .fp cs => FpRel w own v cs
  | .ap id g i off => ApRel P w own h v id g i off
  | .own es => OwnRel P w own (.tmp t) v es
  | .al s es => Rep w own v (.slc es) ∧ ∀ es', Zab env s = some (.own es') → es' = es ∧ z s = v
  | .un => v = undef
theorem FpRel.mono {w w' : World} {own own' : Own} {v : Value} {cs : List DV} (r : FpRel w own v cs) (e : Ext w own w' own') : FpRel w' own' v cs := by
  obtain ⟨b, o, h1, h2⟩ := r
  exact ⟨b, o, h1, fun j d hd => let ⟨u, x, y, y', z⟩ := h2 j d hd; ⟨u, (e.cell _ _ _ x y).1, (e.cell _ _ _ x y).2, y', z.mono e⟩⟩
theorem ApRel.mono {P : Program} {w w' : World} {own own' : Own} {h h' : List AObj} {v : Value} {id g i off : Nat} (r : ApRel P w own h v id g i off)
    (e : ExtA w own h w' own' h') : ApRel P w' own' h' v id g i off := by
  obtain ⟨hid, hv, hg, hl⟩ := r
  refine ⟨Nat.lt_of_lt_of_le hid e.len, hv, fun g' ap es hes => ?_, fun ap es hes => ?_⟩
  · obtain ⟨o, ho, hk⟩ := e.at hid hes
    cases o <;> simp only [AObj.later] at hk
    exact Nat.le_trans (hg _ _ _ ho) hk.1
  · obtain ⟨o, ho, hk⟩ := e.at hid hes
    cases o with
    | arr g0 ap0 es0 =>
      simp only [AObj.later] at hk
      have hgg := hg _ _ _ ho
      have h0 : g0 = g := Nat.le_antisymm hk.1 hgg
      subst h0
      obtain ⟨b, c, T, fr, i, hb, hc, hi, hv'⟩ := hl _ _ ho
      obtain ⟨hb', hc'⟩ := e.blk b id _ _ hb ho hes rfl
      obtain ⟨c', hc', _⟩ := hc' _ _ _ hc
      exact ⟨b, c', T, fr, i, hb', hc', hi, hv'⟩
    | _ => simp only [AObj.later] at hk
theorem XRel.mono {P : Program} {w w' : World} {own own' : Own} {h h' : List AObj} {env env' : List (Nat × SV)} {z z' : Nat → Value} {t : Nat} {v : Value} {x : XV}
    (r : XRel P w own h env z t v x) (e : ExtA w own h w' own' h')
    (k1 : ∀ s off, x = .sp s off → ∀ b, own b = some (.box s, 0) → own' b = some (.box s, 0)) (k2 : Keep w own w' own' (.tmp t))
    (k3 : ∀ s es, x = .al s es → ∀ es', Zab env' s = some (.own es') → Zab env s = some (.own es') ∧ z' s = z s) :
    XRel P w' own' h' env' z' t v x := by
  cases x with
  | a a => exact ARep.mono r e
  | sp s off => obtain ⟨b, hb, hv⟩ := r; exact ⟨b, k1 s off rfl b hb, hv⟩
  | fp cs => exact FpRel.mono r e.ext
  | ap id g i off => exact ApRel.mono r e
  | own es => exact OwnRel.mono r e.ext k2
  | al s es =>
    obtain ⟨h1, h2⟩ := r
    refine ⟨h1.mono e.ext, fun es' hes => ?_⟩
    obtain ⟨y1, y2⟩ := k3 s es rfl es' hes
    obtain ⟨y3, y4⟩ := h2 es' y1
    exact ⟨y3, by rw [y2, y4]⟩
  | un => exact r
structure SRel (P : Program) (fa : FA) (own : Own) (st : St) (a : Act) (w : World) : Prop where
  h : HRel P w own st.heap
  nt : a.tmps.size = fa.nt
  defers : a.defers = []
  ek : ∀ s sv, Zab st.env s = some sv → has fa.keep s = true
  tk : ∀ t x, Zab st.tmp t = some x → has fa.keep t = false
  env : ∀ s sv, Zab st.env s = some sv → SVRel P w own st.heap s (a.tmps.getD s undef) sv
  tmp : ∀ t x, Zab st.tmp t = some x → XRel P w own st.heap st.env (fun s => a.tmps.getD s undef) t (a.tmps.getD t undef) x
structure Frm (w : World) (own : Own) (w' : World) (own' : Own) : Prop where
  os : w'.os = w.os
  tape : w'.tape = w.tape
  output : w'.output = w.output
  size : w.heap.size ≤ w'.heap.size
  blk : ∀ b, b < w.heap.size → (own b = none ∨ ∃ f, own b = some (.ext, f)) → w'.heap[b]? = w.heap[b]? ∧ own' b = own b
theorem Frm.refl (w : World) (own : Own) : Frm w own w own := ⟨rfl, rfl, rfl, Nat.le_refl _, fun _ _ _ => ⟨rfl, rfl⟩⟩
theorem Frm.trans {w w1 w2 : World} {o o1 o2 : Own} (h : Frm w o w1 o1) (k : Frm w1 o1 w2 o2) : Frm w o w2 o2 := by
  refine ⟨k.os.trans h.os, k.tape.trans h.tape, k.output.trans h.output, Nat.le_trans h.size k.size, fun b hb ho => ?_⟩
  obtain ⟨x, y⟩ := h.blk b hb ho
  obtain ⟨x', y'⟩ := k.blk b (Nat.lt_of_lt_of_le hb h.size) (by rw [y]; exact ho)
  exact ⟨x'.trans x, y'.trans y⟩
theorem ZaN {α : Type} (l : List (Nat × α)) (t : Nat) (v : α) (s : Nat) : Zab (Zdk l t v) s = bif Nat.beq t s then some v else Zab l s := by
  induction l with
  | nil => simp [Zdk, Zab]
  | cons e l ih =>
    obtain ⟨k, u⟩ := e
    simp only [Zdk]
    cases hk : Nat.beq k t with
    | true =>
      have := Nat.eq_of_beq_eq_true hk
      subst this
      simp only [cond_true, Zab]
      cases Nat.beq k s <;> simp
    | false =>
      simp only [cond_false, Zab, ih]
      cases hs : Nat.beq k s with
      | true =>
        have := Nat.eq_of_beq_eq_true hs
        subst this
        have : Nat.beq t k = false := by
          cases h : Nat.beq t k with
          | false => rfl
          | true => rw [Nat.eq_of_beq_eq_true h] at hk; simp at hk
        simp [this]
      | false => simp
theorem Za2 {α : Type} (l : List (Nat × α)) (t : Nat) (v : α) (s : Nat) : Zab (ins l t v) s = bif Nat.beq t s then some v else Zab l s := by
  induction l with
  | nil => simp [ins, Zab]
  | cons e l ih =>
    obtain ⟨k, u⟩ := e
    simp only [ins]
    cases hb : Nat.blt k t with
    | true => simp [Zab]
    | false =>
      simp only [cond_false]
      cases hk : Nat.beq k t with
      | true =>
        have := Nat.eq_of_beq_eq_true hk
        subst this
        simp only [cond_true, Zab]
        cases Nat.beq k s <;> simp
      | false =>
        simp only [cond_false, Zab, ih]
        cases hs : Nat.beq k s with
        | true =>
          have := Nat.eq_of_beq_eq_true hs
          subst this
          have : Nat.beq t k = false := by
            cases h : Nat.beq t k with
            | false => rfl
            | true => rw [Nat.eq_of_beq_eq_true h] at hk; simp at hk
          simp [this]
        | false => simp
theorem Zg2 (s : Nat) (l : List (Nat × XV)) (t : Nat) : Zab (unal s l) t = (Zab l t).map fun x => match x with
    | .al k es => bif Nat.beq k s then .a (.d (.slc es)) else .al k es
    | x => x := by
  induction l with
  | nil => rfl
  | cons e l ih =>
    obtain ⟨k, u⟩ := e
    cases u <;> simp only [unal, Zab, ih] <;> cases Nat.beq k t <;> simp
theorem beq_iff {a b : Nat} : Nat.beq a b = true ↔ a = b := Nat.beq_eq ▸ Iff.rfl
theorem beq_ne {a b : Nat} : Nat.beq a b = false ↔ a ≠ b := by
  constructor
  · intro h e; subst e; simp at h
  · intro h; cases hb : Nat.beq a b with
    | false => rfl
    | true => exact absurd (Nat.eq_of_beq_eq_true hb) h
theorem has_iff {l : List Nat} {t : Nat} : has l t = true ↔ t ∈ l := by
  induction l with
  | nil => simp [has]
  | cons k l ih =>
    simp only [has, List.mem_cons]
    cases hk : Nat.beq k t with
    | true => simp [Nat.eq_of_beq_eq_true hk]
    | false => simp only [cond_false, ih]; constructor
               · exact .inr
               · rintro (h | h)
                 · subst h; simp at hk
                 · exact h
end Go.Abs
