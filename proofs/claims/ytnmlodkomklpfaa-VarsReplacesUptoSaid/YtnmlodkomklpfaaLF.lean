/- A certified evaluator for the walked functions, and their contracts, for VarsReplaces. -/
import Derived.Test.YtnmlodkomklpfaaLE
set_option linter.unusedVariables false
set_option linter.unusedSimpArgs false
namespace Go.Tev
open Go.Abs

section
variable (x : Cx)

def mergeV (t : Nat) (c : Bool) : TV x.X → TV x.X → Option (PR (TV x.X))
  | .b a, .b b => some (.part (some (cond c a b)) a .b)
  | .i k a, .i k' b => bif decide (k = k') then some (.part (some (cond c a b)) a (.i k)) else none
  | .s a, .s b => some (.part (some (cond c a b)) a .s)
  | .t ty a, .t ty' b => match castX ty' ty b with
    | some b' => some (.part (some (cond c a b')) a (.t ty))
    | none => none
  | .l e a, .l e' b => match castL e' e b with
    | some b' => some (.part (some (cond c a b')) a (.l e))
    | none => none
  | .e0, .l e b => some (.part (some (cond c [] b)) b (.l e))
  | .l e a, .e0 => some (.part (some (cond c a [])) a (.l e))
  | .e0, .e0 => some (.tot .e0)
  | .nilm, .nilm => some (.tot .nilm)
  | .nilf, .nilf => some (.tot .nilf)
  | .ptr j o, .ptr j' o' => bif Nat.beq j j' && Nat.beq o o' then some (.tot (.ptr j o)) else none
  | .mp j, .mp j' => bif Nat.beq j j' then some (.tot (.mp j)) else none
  | .osl j g e n, .osl j' g' e' n' => bif Nat.beq j j' && Nat.beq g g' && Nat.beq e e' then some (.part (some (cond c n n')) n (.osl j g e)) else none
  | _, _ => none

/-- what is put in a slot -/
def putT {X : Nat → Type} (fa : FA) (ch : Chain) (s : TSt X) (dst : Option Tmp) (y : TX X) : Option (TSt X) := match dst with
  | none => some s
  | some t => bif Nat.blt t fa.nt then bif has fa.keep t then (match ch, y.flat with
      | [], .a v => some { s with env := aput s.env t (.val v) }
      | _, _ => none)
    else (match alook s.tmp t with
      | none => some { s with tmp := ins s.tmp t ⟨ch, y⟩ }
      | some _ => none) else none
def ownT (s : TSt x.X) (ty : Nat) : Operand → Option ((e : Nat) × List (x.X e))
  | .tmp t => match alook s.tmp t with
    | some ⟨[], .own e xs⟩ => some ⟨e, xs⟩
    | some ⟨[], .al k _ _⟩ => match alook s.env k with
      | some (.own e xs) => some ⟨e, xs⟩
      | _ => none
    | some _ => none
    | none => match alook s.env t with
      | some (.own e xs) => some ⟨e, xs⟩
      | _ => none
  | .const (.slice none 0 0) => match Ctx.elemT x.C ty with
    | some e => some ⟨e, []⟩
    | none => none
  | _ => none
/-- it is nobody's own -/
def notOwn {X : Nat → Type} (s : TSt X) : Operand → Bool
  | .tmp t => match alook s.tmp t with
    | some ⟨[], .a _⟩ => true
    | some _ => false
    | none => match alook s.env t with
      | some (.val _) => true
      | _ => false
  | .const v => match v with
    | .slice none 0 0 => false
    | _ => true
  | .func _ => true
  | _ => false
def unalT {X : Nat → Type} (s : Nat) : List (Nat × TE X) → List (Nat × TE X)
  | [] => []
  | (t, ⟨g, .al k e xs⟩) :: r => (t, ⟨g, bif Nat.beq k s then .a (.l e xs) else .al k e xs⟩) :: unalT s r
  | e :: r => e :: unalT s r
def putOwnT {X : Nat → Type} (fa : FA) (s : TSt X) (dst : Option Tmp) (e : Nat) (xs : List (X e)) : Option (TSt X) := match dst with
  | none => none
  | some t => bif Nat.blt t fa.nt then bif has fa.keep t then some { s with env := aput s.env t (.own e xs), tmp := unalT t s.tmp }
    else (match alook s.tmp t with
      | none => some { s with tmp := ins s.tmp t ⟨[], .own e xs⟩ }
      | some _ => none) else none
def loseEnvT {X : Nat → Type} (s : TSt X) (t : Nat) : TSt X := match alook s.env t with
  | some (.own e xs) => { s with env := aput s.env t (.val (.l e xs)) }
  | _ => s
def loseT {X : Nat → Type} (s : TSt X) : Operand → TSt X
  | .tmp t => match alook s.tmp t with
    | some ⟨[], .own e xs⟩ => { s with tmp := ins s.tmp t ⟨[], .a (.l e xs)⟩ }
    | some ⟨[], .al k _ _⟩ => loseEnvT s k
    | some _ => s
    | none => loseEnvT s t
  | _ => s

/-! values -/
def buildParts (s : TSt x.X) (ch : Chain) : List (Nat × Operand) → Option (List (Nat × List (TV x.X)))
  | [] => some []
  | (i, o) :: r => match topA s ch o with
    | some v => bif isD v then match x.vcells v with
      | some cs => match buildParts s ch r with
        | some l => some ((i, cs) :: l)
        | none => none
      | none => none else none
    | none => none
def fillT {X : Nat → Type} (f : Nat → Option (Nat × Nat)) (cells : List (TV X)) : List (Nat × List (TV X)) → Option (List (TV X))
  | [] => some cells
  | (i, cs) :: r => match f i with
    | some (off, size) => bif Nat.beq cs.length size then match splice cells off cs with
        | some c => fillT f c r
        | none => none
      else none
    | none => none
def elemsT (e : Nat) : Nat → List (Nat × Operand) → TSt x.X → Chain → Option (List (x.X e))
  | _, [], _, _ => some []
  | k, (i, o) :: r, s, ch => bif Nat.beq i k then match topA s ch o with
      | some v => match x.U.prj e v with
        | some y => match elemsT e (k + 1) r s ch with
          | some ys => some (y :: ys)
          | none => none
        | none => none
      | none => none
    else none
def cszIs (U : Uni) (e sz : Nat) : Bool := match U.csz e with
  | some n => Nat.beq n sz
  | none => false
def buildSliceT (t n : Nat) (s : TSt x.X) (ch : Chain) (ps : List (Nat × Operand)) : Option ((e : Nat) × List (x.X e)) := match Ctx.elemT x.C t, x.C.elemSize t with
  | some e, some sz => match elemsT x e 0 ps s ch with
    | some ys => bif cszIs x.U e sz && Nat.beq ys.length n && Nat.ble (n * sz) (2 ^ 24) && Nat.blt 0 (n * sz) && x.C.hasZero t then some ⟨e, ys⟩ else none
    | none => none
  | _, _ => none
def loadT (t : Nat) (s : TSt x.X) : TX x.X → Option (PR (Option (TX x.X)))
  | .sp k off => match alook s.env k with
    | some (.box cs) => some (.tot ((x.ld t (cs.drop off)).map .a))
    | _ => none
  | .fp cs => some (.tot ((x.ld t cs).map .a))
  | .ap j g e i off => match s.heap[j]? with
    | some (.arr g' _ e' xs) => bif Nat.beq g' g then match castL e' e xs, x.U.cells e with
      | some ys, some f => some (.part (ys[i]?) (x.U.dflt e) (fun y => (x.ld t ((f y).drop off)).map .a))
      | _, _ => none else none
    | _ => none
  | .a (.ptr j off) => match s.heap[j]? with
    | some (.var cs) => some (.tot ((x.ld t (cs.drop off)).map .a))
    | _ => none
  | _ => none
def prV {X : Nat → Type} : Option (PR (TV X)) → Option (PR (Option (TX X)))
  | some r => some (r.map fun v => some (.a v))
  | none => none
def prO {X : Nat → Type} : Option (TX X) → Option (PR (Option (TX X)))
  | some v => some (.tot (some v))
  | none => none
def prA {X : Nat → Type} : Option (TV X) → Option (PR (Option (TX X)))
  | some v => some (.tot (some (.a v)))
  | none => none
def extc (w : Bool) (c : Operand) (ch : Chain) : Chain := match c with
  | .tmp t => (t, w) :: ch
  | _ => ch
def isTmp {X : Nat → Type} (s : TSt X) (c : Operand) : Bool := match c with
  | .tmp t => (alook s.tmp t).isSome
  | _ => true
def fnOfT {X : Nat → Type} : TV X → Option (Nat × List (TV X))
  | .fn f caps => some (f, caps)
  | _ => none
def builtinT (s : TSt x.X) (ch : Chain) (b : Builtin) (args : List Operand) (types : List Nat) : Option (PR (TV x.X)) := match b with
  | .len => (match args, types with
    | [o], [t] => (match topA s ch o with
      | some v => lenT x s.heap t v
      | none => none)
    | _, _ => none)
  | .max => (match topL s ch args with
    | some vs => dmaxT vs
    | none => none)
  | .min => (match topL s ch args with
    | some vs => dminT vs
    | none => none)
  | _ => none
def lendOk (x : Cx) (k : Nat) (rts : List Nat) : Bool := match k with
  | 0 => true
  | 1 => rts.all x.U.noMap
  | _ => false
def callLend (f k : Nat) (vs : List (TV x.X)) : List (Nat × TCall x.X) → Option (PR (TV x.X))
  | [] => none
  | (f', c) :: r => bif Nat.beq f f' then (match prjA x.U c.ak vs with
      | some a => (match resT x.U c.rts with
        | some h => bif c.dir && lendOk x k c.rts then some (.part (c.fn a) (dfltL x.U c.rts) h) else none
        | none => none)
      | none => callLend f k vs r) else callLend f k vs r

def valT (fa : FA) (s : TSt x.X) (ch : Chain) (o : Oper) : Option (PR (Option (TX x.X))) := match o.op with
  | .move v => bif takes fa o.dst then none else match topx s ch v with
    | some y => prO (x.coerceX o.type y)
    | none => none
  | .assign v => bif takes fa o.dst then none else match topx s ch v with
    | some y => prO (x.coerceX o.type y)
    | none => none
  | .pick c a b => bif isTmp s c then match topA s ch c, topA s (extc true c ch) a, topA s (extc false c ch) b with
    | some (.b cb), some va, some vb => prV (mergeV x o.type cb va vb)
    | _, _, _ => none else none
  | .build t ps => match x.U.zcells t, x.C.places t, x.C.isAgg t with
    | some z, some f, some true => match buildParts x s ch ps.toList with
      | some l => match fillT f z l with
        | some cs => match x.U.pack t cs with
          | some y => some (.tot (some (.a (.t t y))))
          | none => none
        | none => none
      | none => none
    | _, _, _ => none
  | .buildSlice t n ps => bif takes fa o.dst then none else match buildSliceT x t n s ch ps.toList with
    | some ⟨e, ys⟩ => some (.tot (some (.a (.l e ys))))
    | none => none
  | .load t a => match topd s ch a with
    | some p => loadT x t s p
    | none => none
  | .nilCheck v => match topd s ch v with
    | some y => prO (checkT y)
    | none => none
  | .binOp op t a b _ => match topA s ch a, topA s ch b with
    | some u, some v => prV (binT x op t u v)
    | _, _ => none
  | .unOp op _ a => match topA s ch a with
    | some u => prV (unT op u)
    | none => none
  | .convert s' t a => match topA s ch a with
    | some u => prV (convT x s.heap s' t u)
    | none => none
  | .makeFunc (.func f) first captured => match first.toList, topL s ch captured.toList with
    | [], some vs => some (.tot (some (.a (.fn f vs))))
    | _, _ => none
  | .slice t a lo hi none => match topA s ch a, optA s ch lo, optA s ch hi with
    | some v, some l, some h => prV (sliceT x t l h v)
    | _, _, _ => none
  | .fieldAddr t a f => match topd s ch a with
    | some p => prO (fieldAddrT x t f p)
    | none => none
  | .field t a f => match topA s ch a with
    | some v => prA (fieldT x t f v)
    | none => none
  | .indexAddr t a i => match topA s ch a, topA s ch i with
    | some v, some (.i _ n) => indexAddrT x s.heap t v n
    | _, _ => none
  | .index t a i => match topA s ch a, topA s ch i with
    | some v, some (.i _ n) => prV (indexT x t v n)
    | _, _ => none
  | .lookup t a k ok => match topA s ch a, topA s ch k with
    | some m, some k => prA (lookT x t s.heap m k ok)
    | _, _ => none
  | .extract a i => match topA s ch a with
    | some v => prA (extractT v i)
    | none => none
  | .call c => match c.callee with
    | .builtin b => prV (builtinT x s ch b c.args.toList c.argTypes.toList)
    | .value g => match topA s ch g, topL s ch c.args.toList with
      | some fv, some vs => match fnOfT fv with
        | some (f, caps) => bif flagged fa.lend o.dst then (match lendL x s.heap (vs ++ caps) with
            | some (ws, k) => prV (callLend x f k ws x.T)
            | none => none)
          else bif flagged fa.frz o.dst then prV (callT x f (vs ++ caps) x.T) else none
        | none => none
      | _, _ => none
    | .invoke _ _ => none
  | _ => none

/-! effects -/
def noSpT {X : Nat → Type} (s : Nat) : List (Nat × TE X) → Bool
  | [] => true
  | (_, ⟨_, .sp k _⟩) :: r => bif Nat.beq k s then false else noSpT s r
  | _ :: r => noSpT s r
def allocT (fa : FA) (s : TSt x.X) (dst : Option Tmp) (cs : List (TV x.X)) : Option (TSt x.X) :=
  bif isHeapy fa dst then putT fa [] { s with heap := s.heap ++ [.var cs] } dst (.a (.ptr s.heap.length 0))
  else match dst with
    | some t => bif has fa.keep t && noSpT t s.tmp && Nat.blt t fa.nt && cs.all isD then some { s with env := aput s.env t (.box cs) } else none
    | none => none
def takeT (fa : FA) (s : TSt x.X) (dst : Option Tmp) (ty : Nat) (o : Operand) : Option (TSt x.X) := match ownT x s ty o with
  | some ⟨e, xs⟩ => putOwnT fa (loseT s o) dst e xs
  | none => bif notOwn s o then match topd s [] o with
    | some y => match x.coerceX ty y with
      | some z => putT fa [] s dst z
      | none => none
    | none => none else none
def one {α : Type} : Option α → Option (PR (Option α))
  | some a => some (.tot (some a))
  | none => none
def storeT (t : Nat) (s : TSt x.X) (p : TX x.X) (v : TV x.X) : Option (PR (Option (TSt x.X))) := match x.C.size t, x.vcells v with
  | some n, some vs => bif Nat.beq n vs.length then match p with
    | .sp k off => match alook s.env k with
      | some (.box cs) => bif vs.all isD then match splice cs off vs with
        | some cs' => some (.tot (some { s with env := aput s.env k (.box cs') }))
        | none => none else none
      | _ => none
    | .ap j g e i off => match s.heap[j]? with
      | some (.arr g' ap e' xs) => bif Nat.beq g' g then match castL e' e xs with
        | some ys => match x.C.isAgg e with
          | some false => bif Nat.beq off 0 && cszIs x.U e 1 then match x.U.prj e v with
            | some y => some (.part (if i < ys.length then some (ys.set i y) else none) ys (fun zs => some { s with heap := s.heap.set j (.arr g ap e zs) }))
            | none => none else none
          | some true => match x.U.cells e with
            | some f => some (.part (ys[i]?) (x.U.dflt e) (fun y => match splice (f y) off vs with
              | some cs' => match x.U.pack e cs' with
                | some y' => some { s with heap := s.heap.set j (.arr g ap e (ys.set i y')) }
                | none => none
              | none => none))
            | none => none
          | none => none
        | none => none else none
      | _ => none
    | .a (.ptr j off) => match s.heap[j]? with
      | some (.var cs) => match splice cs off vs with
        | some cs' => some (.tot (some { s with heap := s.heap.set j (.var cs') }))
        | none => none
      | _ => none
    | _ => none else none
  | _, _ => none
/-- there is room for so many -/
def room (b n : Nat) : Option Unit := if n * b ≤ 2 ^ 47 ∧ n ≤ 2 ^ 47 then some () else none
def appendT (fa : FA) (s : TSt x.X) (dst : Option Tmp) (t : Nat) (so xo : Operand) : Option (PR (Option (TSt x.X))) := match Ctx.elemT x.C t, x.C.elemSize t, x.C.elemBytes t with
  | some e, some sz, some b => bif x.C.elemOk t sz && cszIs x.U e sz then match topA s [] xo with
    | some nv => match (match nv with
        | .l e' ys => castL e' e ys
        | .e0 => some []
        | _ => none) with
      | some new => match topd s [] so with
        | some (.a (.osl j g eo n)) => match s.heap[j]? with
          | some (.arr g' true e' xs) => bif Nat.beq g g' && Nat.beq eo e then match castL e' e xs with
            | some ys => some (.part (if n = ys.length then Option.bind (room b (ys.length + new.length)) (fun _ => some (ys ++ new)) else none) ys
                (fun zs => putT fa [] { s with heap := s.heap.set j (.arr (g + 1) true e zs) } dst (.a (.osl j (g + 1) e zs.length))))
            | none => none else none
          | _ => none
        | _ => match ownT x s t so with
          | some ⟨e', xs⟩ => match castL e' e xs with
            | some ys => bif isHeapy fa dst then (match ys, new with
                | [], y :: ys' => some (.part (room b (new.length)) () (fun _ => putT fa [] { (loseT s so) with heap := s.heap ++ [.arr 0 true e new] } dst (.a (.osl s.heap.length 0 e new.length))))
                | _, _ => none)
              else some (.part (Option.bind (room b (ys.length + new.length)) (fun _ => some (ys ++ new))) ys (fun zs => putOwnT fa (loseT s so) dst e zs))
            | none => none
          | none => none
      | none => none
    | none => none else none
  | _, _, _ => none
def deleteT (fa : FA) (s : TSt x.X) (dst : Option Tmp) (t : Nat) (m k : Operand) : Option (TSt x.X) := match Ctx.mapT x.C t, x.C.mapZero t, topA s [] m, topA s [] k with
  | some (kt, vt), some _, some (.mp j), some k => match x.U.prj kt k, s.heap[j]? with
    | some key, some (.map kt' vt' es) => match castX (X := fun n => List (x.X n × x.X vt')) kt' kt es with
      | some es1 => bif x.U.isKey kt && x.C.keyOk t (x.U.enc kt key) then putT fa [] { s with heap := s.heap.set j (.map kt vt' (mrem (x.U.keq kt) key es1)) } dst (.a (.tup [])) else none
      | none => none
    | _, _ => none
  | _, _, _, _ => none
def mapUpdT (fa : FA) (s : TSt x.X) (dst : Option Tmp) (t : Nat) (m k v : Operand) : Option (TSt x.X) := match Ctx.mapT x.C t, x.C.mapZero t, topA s [] m, topA s [] k, topA s [] v with
  | some (kt, vt), some _, some (.mp j), some k, some v => match x.U.prj kt k, x.U.prj vt v, s.heap[j]? with
    | some key, some y, some (.map kt' vt' es) => match castX (X := fun n => List (x.X n × x.X vt')) kt' kt es with
      | some es1 => match castX (X := fun n => List (x.X kt × x.X n)) vt' vt es1 with
        | some es2 => bif x.U.isKey kt && x.C.keyOk t (x.U.enc kt key) then putT fa [] { s with heap := s.heap.set j (.map kt vt (mput (x.U.keq kt) key y es2)) } dst .un else none
        | none => none
      | none => none
    | _, _, _ => none
  | _, _, _, _, _ => none
def mkSliceT (fa : FA) (s : TSt x.X) (dst : Option Tmp) (t : Nat) (l c : Operand) : Option (PR (Option (TSt x.X))) := match Ctx.elemT x.C t, x.C.elemZero t, x.C.elemSize t, x.C.elemBytes t, topA s [] l, topA s [] c with
  | some e, some _, some sz, some b, some (.i _ n), some (.i _ m) => bif x.C.elemOk t sz && x.U.dok e then
      some (.part (if 0 ≤ n ∧ n = m then Option.bind (room b n.toNat) (fun _ => some (List.replicate n.toNat (x.U.dflt e))) else none) []
        (fun zs => putT fa [] { s with heap := s.heap ++ [.arr 0 true e zs] } dst (.a (.osl s.heap.length 0 e zs.length)))) else none
  | _, _, _, _, _, _ => none

/-- a call that writes what it is lent -/
def callR (fa : FA) (s : TSt x.X) (dst : Option Tmp) (c : TCallR x.X) (vs : List (TV x.X)) : Option (PR (Option (TSt x.X))) := match splitR c.ak vs with
  | some (ws, js) => bif nodupB js && !js.isEmpty then (match prjL x.U (AR.tys c.ak) ws, getRefs x.U s.heap (AR.refs c.ak) js, resT x.U c.rts with
    | some a, some cs, some g => some (.part (c.fn a cs) (dfltL x.U c.rts, cs) (fun r => putT fa [] { s with heap := setRefs x.U s.heap (AR.refs c.ak) js r.2 } dst (.a (g r.1))))
    | _, _, _ => none) else none
  | none => none
def effT (fa : FA) (s : TSt x.X) (o : Oper) : Option (PR (Option (TSt x.X))) := match o.op with
  | .move v => bif takes fa o.dst then one (takeT x fa s o.dst o.type v) else none
  | .assign v => bif takes fa o.dst then one (takeT x fa s o.dst o.type v) else none
  | .alloc t => match x.U.zcells t with
    | some z => one (allocT x fa s o.dst z)
    | none => none
  | .box _ v => match topA s [] v with
    | some u => match x.vcells u with
      | some cs => one (allocT x fa s o.dst cs)
      | none => none
    | none => none
  | .buildSlice t n ps => bif takes fa o.dst then match buildSliceT x t n s [] ps.toList with
    | some ⟨e, ys⟩ => one (putOwnT fa s o.dst e ys)
    | none => none else none
  | .store t a v => match topd s [] a, topA s [] v with
    | some p, some u => match storeT x t s p u with
      | some r => some (r.map fun s' => match s' with
        | some s'' => putT fa [] s'' o.dst .un
        | none => none)
      | none => none
    | _, _ => none
  | .convert s' t a => match topA s [] a with
    | some (.s b) => bif x.C.isStr s' && x.C.isBytes t && x.C.elemOne t then match Ctx.elemT x.C t with
      | some e => match x.U.bytes e with
        | some (f, _) => one (putT fa [] { s with heap := s.heap ++ [.arr 0 false e (f b)] } o.dst (.a (.osl s.heap.length 0 e b.length)))
        | none => none
      | none => none else none
    | _ => none
  | .makeMap t none => bif x.C.isMap t then match Ctx.mapT x.C t with
    | some (k, v) => one (putT fa [] { s with heap := s.heap ++ [.map k v []] } o.dst (.a (.mp s.heap.length)))
    | none => none else none
  | .makeSlice t l c => mkSliceT x fa s o.dst t l c
  | .mapUpdate t m k v => one (mapUpdT x fa s o.dst t m k v)
  | .call c => match c.callee with
    | .builtin b => (match b with
      | .append => (match c.args.toList, c.argTypes.toList with
        | [so, xo], [t, t'] => bif Nat.beq t t' then appendT x fa s o.dst t so xo else none
        | _, _ => none)
      | .delete => (match c.args.toList, c.argTypes.toList with
        | [m, k], t :: _ => one (deleteT x fa s o.dst t m k)
        | _, _ => none)
      | _ => none)
    | .value g => (match g with
      | .func f => (match alook x.TR f, topL s [] c.args.toList with
        | some cr, some vs => bif flagged fa.lend o.dst then none else callR x fa s o.dst cr vs
        | _, _ => none)
      | _ => none)
    | _ => none
  | _ => none

/-! regions -/
def chainOf {X : Nat → Type} (all : List Oper) (o : Oper) (s : TSt X) : Option (Chain × Option Bool) := match o.guard with
  | none => some ([], none)
  | some (j, want) => match (all[j]?).bind (·.dst) with
    | some t => match alook s.tmp t with
      | some ⟨g, .a (.b b)⟩ => some ((t, want) :: g, some (bif want then b else !b))
      | _ => none
    | none => none
def gand : Option Bool → Option Bool → Option Bool
  | none, c => c
  | some g, none => some g
  | some g, some c => some (g && c)
/-- of a tmp's own chain -/
def gof {X : Nat → Type} (s : TSt X) : Chain → Option Bool
  | [] => none
  | (t, w) :: r => match alook s.tmp t with
    | some ⟨_, .a (.b b)⟩ => gand (gof s r) (some (bif w then b else !b))
    | _ => some false
def isEff (fa : FA) (o : Oper) : Bool := match o.op with
  | .move _ => takes fa o.dst
  | .assign _ => takes fa o.dst
  | .buildSlice _ _ _ => takes fa o.dst
  | .alloc _ => true
  | .box _ _ => true
  | .store _ _ _ => true
  | .makeMap _ _ => true
  | .makeSlice _ _ _ => true
  | .mapUpdate _ _ _ _ => true
  | .convert _ t _ => false
  | .call { callee := .builtin .append, .. } => true
  | .call { callee := .builtin .delete, .. } => true
  | _ => false
/-- an effect that no region draws -/
def isConv (x : Cx) (o : Oper) : Bool := match o.op with
  | .convert _ t _ => x.C.isBytes t
  | .call { callee := .value (.func f), .. } => (alook x.TR f).isSome
  | _ => false
def evR {R : Type} (fa : FA) (g : Option Bool) (draw : Bool) (all : List Oper) : List Oper → TSt x.X → (TSt x.X → Option R) → Option R
  | [], s, k => k s
  | o :: r, s, k => match chainOf all o s with
    | none => none
    | some (ch, _) => bif isEff fa o || (isConv x o && !draw) then (match ch, effT x fa s o with
        | [], some pr => pr.go g fun so => match so with
          | some s' => evR fa g draw all r s' k
          | none => none
        | _, _ => none)
      else match valT x fa s ch o with
        | some pr => pr.go (gand g (gof s ch)) fun yo => match yo with
          | some y => match putT fa ch s o.dst y with
            | some s' => evR fa g draw all r s' k
            | none => none
          | none => none
        | none => none

/-! what both ways have in common -/
def asgC : Code → Nat → Bool
  | .region _ ops _, t => ops.toList.any fun o => match o.dst with
    | some d => Nat.beq d t
    | none => false
  | .seq a b, t => asgC a t || asgC b t
  | .cond _ a b, t => asgC a t || asgC b t
  | .block _ c, t => asgC c t
  | .loop c, t => asgC c t
  | _, _ => false
def mergeCells {R : Type} (c : Bool) : List (TV x.X) → List (TV x.X) → (List (TV x.X) → Option R) → Option R
  | [], [], k => k []
  | a :: r, b :: q, k => match mergeV x 0 c a b with
    | some pr => pr.go none fun v => mergeCells c r q fun l => k (v :: l)
    | none => none
  | _, _, _ => none
def mergeEnv {R : Type} (c : Bool) (asg : Nat → Bool) (e0 eA eB : List (Nat × TSV x.X)) : List Nat → (List (Nat × TSV x.X) → Option R) → Option R
  | [], k => k []
  | t :: r, k => match alook e0 t with
    | some (.val v) => bif asg t then (match alook eA t, alook eB t with
        | some (.val a), some (.val b) => (match mergeV x 0 c a b with
          | some pr => pr.go none fun v => mergeEnv c asg e0 eA eB r fun l => k ((t, .val v) :: l)
          | none => mergeEnv c asg e0 eA eB r k)
        | _, _ => mergeEnv c asg e0 eA eB r k)
      else mergeEnv c asg e0 eA eB r fun l => k ((t, .val v) :: l)
    | _ => match alook eA t, alook eB t with
      | some (.own e xs), some (.own e' ys) => (match castL e' e ys with
        | some ys' => Option.bind (some (cond c xs ys')) fun zs => mergeEnv c asg e0 eA eB r fun l => k ((t, .own e zs) :: l)
        | none => mergeEnv c asg e0 eA eB r k)
      | some (.box cs), some (.box ds) => mergeCells x c cs ds fun es => mergeEnv c asg e0 eA eB r fun l => k ((t, .box es) :: l)
      | _, _ => mergeEnv c asg e0 eA eB r k
def mergeHeap {R : Type} (c : Bool) : List (TObj x.X) → List (TObj x.X) → (List (TObj x.X) → Option R) → Option R
  | [], [], k => k []
  | .arr g ap e xs :: r, .arr g' ap' e' ys :: q, k => bif Nat.beq g g' && (ap == ap') then (match castL e' e ys with
      | some ys' => Option.bind (some (cond c xs ys')) fun zs => mergeHeap c r q fun l => k (.arr g ap e zs :: l)
      | none => none) else none
  | .var cs :: r, .var ds :: q, k => mergeCells x c cs ds fun es => mergeHeap c r q fun l => k (.var es :: l)
  | .map kt vt es :: r, .map kt' vt' fs :: q, k => (match castX (X := fun n => List (x.X n × x.X vt')) kt' kt fs with
      | some f1 => (match castX (X := fun n => List (x.X kt × x.X n)) vt' vt f1 with
        | some f2 => Option.bind (some (cond c es f2)) fun zs => mergeHeap c r q fun l => k (.map kt vt zs :: l)
        | none => none)
      | none => none)
  | _, _, _ => none
/-- nothing of the heap is changed -/
def heapC (x : Cx) : Code → Bool
  | .region _ ops _ => ops.toList.any fun o => match o.op with
    | .store _ _ _ => true
    | .mapUpdate _ _ _ _ => true
    | .alloc _ => true
    | .box _ _ => true
    | .makeMap _ _ => true
    | .makeSlice _ _ _ => true
    | .convert _ _ _ => true
    | .call { callee := .builtin .append, .. } => true
    | .call { callee := .builtin .delete, .. } => true
    | .call { callee := .value (.func f), .. } => (alook x.TR f).isSome
    | _ => false
  | .seq a b => heapC x a || heapC x b
  | .cond _ a b => heapC x a || heapC x b
  | .block _ c => heapC x c
  | .loop c => heapC x c
  | _ => false
def merge {R : Type} (c : Bool) (a b : Code) (s sA sB : TSt x.X) (k : TSt x.X → Option R) : Option R :=
  mergeEnv x c (fun t => asgC a t || asgC b t) s.env sA.env sB.env (s.env.map Prod.fst) fun env =>
    bif heapC x a || heapC x b then mergeHeap x c sA.heap sB.heap fun h => k ⟨env, [], h⟩ else k ⟨env, [], s.heap⟩

def simple : Code → Bool
  | .skip => true
  | .label _ => true
  | .region _ _ _ => true
  | .seq a b => simple a && simple b
  | .cond _ a b => simple a && simple b
  | .block _ c => simple c
  | _ => false
def trimT {X : Nat → Type} : List (Nat × TSV X) → List (Nat × TSV X) → List (Nat × TSV X)
  | _, [] => []
  | e0, (k, v) :: r => match alook e0 k with
    | some _ => (k, v) :: trimT e0 r
    | none => trimT e0 r

def evS {R : Type} (fa : FA) (g : Option Bool) : Code → TSt x.X → (TSt x.X → Option R) → Option R
  | .skip, s, k => k s
  | .label _, s, k => k s
  | .region _ ops d, s, k => evR x fa g d ops.toList ops.toList s fun s' => k { s' with tmp := [] }
  | .seq a b, s, k => evS fa g a s fun s' => evS fa g b s' k
  | .cond c a b, s, k => match topA s [] c with
    | some (.b cb) => evS fa (gand g (some cb)) a s fun sA => evS fa (gand g (some (!cb))) b s fun sB => merge x cb a b s sA sB k
    | _ => none
  | .block _ c, s, k => evS fa g c s fun s' => k { s' with env := trimT s.env s'.env }
  | _, _, _ => none

/-! control -/
inductive TOut (X : Nat → Type) where
  | norm (s : TSt X)
  | exit (id : Nat) (s : TSt X)
  | ret (s : TSt X)
def restr {X : Nat → Type} (env : List (Nat × TSV X)) : List Nat → List (Nat × TSV X)
  | [] => []
  | t :: r => match alook env t with
    | some v => (t, v) :: restr env r
    | none => restr env r
def keysIn {X : Nat → Type} (env : List (Nat × TSV X)) : List Nat → List Nat
  | [] => []
  | t :: r => match alook env t with
    | some _ => t :: keysIn env r
    | none => keysIn env r
def TSt.restr {X : Nat → Type} (s : TSt X) (ks : List Nat) : TSt X := ⟨Tev.restr s.env ks, [], s.heap⟩
def iterK {X : Nat → Type} {R : Type} (f : TSt X → (TOut X → Option R) → Option R) (ks : List Nat) (k : TOut X → Option R) : Nat → TSt X → Option R
  | 0, _ => none
  | n + 1, s => f s fun o => match o with
    | .norm s' => iterK f ks k n (s'.restr ks)
    | .exit i s' => k (.exit i s')
    | .ret s' => k (.ret s')

def evK {R : Type} (fa : FA) (n : Nat) : Nat → Code → (TOut x.X → Option R) → TSt x.X → Option R
  | _, .skip, k, s => k (.norm s)
  | _, .label _, k, s => k (.norm s)
  | _, .region _ ops d, k, s => evR x fa none d ops.toList ops.toList s fun s' => k (.norm { s' with tmp := [] })
  | id, .seq a b, k, s => evK fa n id a (fun o => match o with
    | .norm s' => evK fa n id b k s'
    | .exit i s' => k (.exit i s')
    | .ret s' => k (.ret s')) s
  | id, .cond c a b, k, s => match topA s [] c with
    | some (.b cb) => bif simple a && simple b then evS x fa (some cb) a s fun sA => evS x fa (some (!cb)) b s fun sB => merge x cb a b s sA sB fun s' => k (.norm s')
      else cond cb (evK fa n id a k s) (evK fa n id b k s)
    | _ => none
  | _, .block id c, k, s => evK fa n id c (fun o => match o with
    | .norm s' => k (.norm { s' with env := trimT s.env s'.env })
    | .exit i s' => bif Nat.beq i id then k (.norm { s' with env := trimT s.env s'.env }) else k (.exit i s')
    | .ret s' => k (.ret s')) s
  | id, .loop c, k, s => iterK (fun s k => evK fa n id c k s) (keysIn s.env (x.lk id)) k n (s.restr (keysIn s.env (x.lk id)))
  | _, .exit id, k, s => k (.exit id s)
  | _, .ret, k, s => k (.ret s)
  | _, _, _, _ => none

/-! results -/
def frzK {R : Type} (dir : Bool) (h : List (TObj x.X)) : TV x.X → (TV x.X → Option R) → Option R
  | .osl j g e n, k => bif dir then none else match h[j]? with
    | some (.arr g' _ e' xs) => bif Nat.beq g g' && Nat.beq e e' then Option.bind (if n ≤ xs.length then some (xs.take n) else none) fun ys => k (.l e' ys) else none
    | _ => none
  | .mp j, k => bif dir then none else match h[j]? with
    | some (.map kt vt es) => k (.m kt vt es)
    | _ => none
  | .ptr _ _, _ => none
  | .fn _ _, _ => none
  | .tup _, _ => none
  | v, k => k v
def resK {R : Type} (dir : Bool) (s : TSt x.X) : List ResultVar → (List (TV x.X) → Option R) → Option R
  | [], k => k []
  | .tmp t :: r, k => match topA s [] (.tmp t) with
    | some v => frzK x dir s.heap v fun w => resK dir s r fun l => k (w :: l)
    | none => none
  | .cell t ty :: r, k => match topd s [] (.tmp t) with
    | some (.sp sl off) => match alook s.env sl with
      | some (.box cs) => match x.ld ty (cs.drop off) with
        | some v => resK dir s r fun l => k (v :: l)
        | none => none
      | _ => none
    | _ => none
def endK (dir : Bool) (fn : Func) (rts : List Nat) : TOut x.X → Option (PX x.X rts)
  | .norm s => resK x dir s fn.results.toList (fun l => prjL x.U rts l)
  | .ret s => resK x dir s fn.results.toList (fun l => prjL x.U rts l)
  | .exit _ _ => none
def envT {X : Nat → Type} : Nat → List (TV X) → List (Nat × TSV X)
  | _, [] => []
  | k, v :: r => (k, .val v) :: envT (k + 1) r
def argsG {X : Nat → Type} : List AK → List (TV X) → List (TV X)
  | [], _ => []
  | .fn f :: r, vs => .fn f [] :: argsG r vs
  | .ty _ :: r, v :: vs => v :: argsG r vs
  | .ty _ :: _, [] => []
def argsT (U : Uni) (ak : List AK) (y : PX U.X (AK.tys ak)) : Option (List (TV U.X)) := match injL U (AK.tys ak) with
  | some f => some (argsG ak (f y))
  | none => none
/-- a function -/
def fnT (dir : Bool) (f : FuncId) (n : Nat) (fn : Func) (ak : List AK) (rts : List Nat) (a : PX x.X (AK.tys ak)) : Option (PX x.X rts) :=
  match argsT x.U ak a with
  | some vs => evK x (x.C.ann f) n 0 (bodyOf fn) (endK x dir fn rts) ⟨envT 0 vs, [], []⟩
  | none => none
end
end Go.Tev
namespace Go.Tev
open Go.Abs
/-! the program's data -/
structure Tok where
  k : Int
  t : List UInt8
  n : Int
  u : List UInt8
  f : Bool
inductive Val where
  | mk (tok : Tok) (l : List Val)
def Val.tok : Val → Tok | .mk t _ => t
def Val.l : Val → List Val | .mk _ l => l
structure Cus where
  name : List UInt8
  val : List Val
structure Fnd where
  d : Int
  t : Int
  b : Bool
def zTok : Tok := Tok.mk ((0 : Int)) ([]) ((0 : Int)) ([]) (false)
def zVal : Val := Val.mk zTok ([])
def zCus : Cus := Cus.mk [] []
def zFnd : Fnd := Fnd.mk 0 0 false
def Tok.eqb (a b : Tok) : Bool := a.k == b.k && a.t == b.t && a.n == b.n && a.u == b.u && a.f == b.f
def Fnd.eqb (a b : Fnd) : Bool := a.d == b.d && a.t == b.t && a.b == b.b
def Tok.enc (v : Tok) : DV := .agg [.int .u8 v.k, .str v.t, .int .i64 v.n, .str v.u, .bool v.f]
mutual
def Val.enc : Val → DV
  | .mk v l => .agg [.int .u8 v.k, .str v.t, .int .i64 v.n, .str v.u, .bool v.f, .slc (encL l)]
def encL : List Val → List DV
  | [] => []
  | v :: r => v.enc :: encL r
end
theorem encL_map (l : List Val) : encL l = l.map Val.enc := by
  induction l with
  | nil => rfl
  | cons v l ih => simp [encL, ih]
def Cus.enc (v : Cus) : DV := .agg [.str v.name, .slc (v.val.map Val.enc)]
def Fnd.enc (v : Fnd) : DV := .agg [.int .i64 v.d, .int .i64 v.t, .bool v.b]

theorem noMapL_map {α : Type} (f : α → DV) (l : List α) (h : ∀ y ∈ l, (f y).noMap = true) : DV.noMapL (l.map f) = true := by
  induction l with
  | nil => rfl
  | cons y l ih => simp only [List.map_cons, DV.noMapL, Bool.and_eq_true]; exact ⟨h y (List.mem_cons_self), ih fun z hz => h z (List.mem_cons_of_mem _ hz)⟩
mutual
theorem nm_val : ∀ v : Val, v.enc.noMap = true
  | .mk t l => by simp only [Val.enc, DV.noMap, DV.noMapL, nm_vals' l, Bool.and_self]
theorem nm_vals' : ∀ l : List Val, DV.noMapL (encL l) = true
  | [] => rfl
  | v :: r => by simp only [encL, DV.noMapL, nm_val v, nm_vals' r, Bool.and_self]
end
theorem nm_vals (l : List Val) : (DV.slc (l.map Val.enc)).noMap = true := noMapL_map _ _ fun y _ => nm_val y
theorem nm_cus (c : Cus) : c.enc.noMap = true := by simp only [Cus.enc, DV.noMap, DV.noMapL, Bool.true_and, Bool.and_true]; exact noMapL_map _ _ fun y _ => nm_val y
theorem nm_cuss (l : List Cus) : (DV.slc (l.map Cus.enc)).noMap = true := noMapL_map _ _ fun y _ => nm_cus y
theorem nm_toks (l : List Tok) : (DV.slc (l.map Tok.enc)).noMap = true := noMapL_map _ _ fun y _ => rfl
theorem nm_strs (l : List (List UInt8)) : (DV.slc (l.map fun w => .str w)).noMap = true := noMapL_map _ _ fun y _ => rfl
theorem nm_bools (l : List Bool) : (DV.slc (l.map fun w => .bool w)).noMap = true := noMapL_map _ _ fun y _ => rfl
theorem nm_bools2 (l : List (List Bool)) : (DV.slc (l.map fun w => .slc (w.map fun w => .bool w))).noMap = true := noMapL_map _ _ fun y _ => nm_bools y
theorem nm_u8s (l : List Int) : (DV.slc (l.map fun w => .int .u8 w)).noMap = true := noMapL_map _ _ fun y _ => rfl
theorem enc_val (v : Val) : v.enc = .agg [.int .u8 v.tok.k, .str v.tok.t, .int .i64 v.tok.n, .str v.tok.u, .bool v.tok.f, .slc (v.l.map Val.enc)] := by
  cases v; simp only [Val.enc, encL_map]; rfl

section
variable {X : Nat → Type}
def asI (k : IntKind) : TV X → Option Int
  | .i k' n => bif decide (k' = k) then some n else none
  | _ => none
def asB : TV X → Option Bool
  | .b v => some v
  | _ => none
def asS : TV X → Option (List UInt8)
  | .s v => some v
  | _ => none
def asL (e : Nat) : TV X → Option (List (X e))
  | .l e' xs => castL e' e xs
  | .e0 => some []
  | _ => none
def asT (t : Nat) (pk : List (TV X) → Option (X t)) : TV X → Option (X t)
  | .t t' y => castX t' t y
  | .g cs => pk cs
  | _ => none
def asM (k v : Nat) : TV X → Option (List (X k × X v))
  | .m k' v' es => match castX (X := fun n => List (X n × X v')) k' k es with
    | some e1 => castX (X := fun n => List (X k × X n)) v' v e1
    | none => none
  | _ => none
end
end Go.Tev
namespace Go.Tev
open Go.Abs

mutual
def TV.dv (U : Uni) : TV U.X → Option DV
  | .b v => some (.bool v)
  | .i k n => some (.int k n)
  | .s v => some (.str v)
  | .t ty y => some (U.enc ty y)
  | .l e xs => some (.slc (xs.map (U.enc e)))
  | .m k v es => some (.fmap (es.map fun p => (U.enc k p.1, U.enc v p.2)))
  | .g cs => (dvL U cs).map .agg
  | .e0 => some (.slc [])
  | .nilm => some .nilm
  | .nilp => some .nilp
  | .nilf => some .nilf
  | .nili => some .nili
  | .fn f caps => (dvL U caps).map (.fn f)
  | .tup vs => (dvL U vs).map .tup
  | .ptr _ _ => none
  | .osl _ _ _ _ => none
  | .mp _ => none
def dvL (U : Uni) : List (TV U.X) → Option (List DV)
  | [] => some []
  | v :: r => match v.dv U with
    | some d => match dvL U r with
      | some ds => some (d :: ds)
      | none => none
    | none => none
end

/-- what the tables of a program have to be -/
structure Uni.Ok (C : Ctx) (U : Uni) : Prop where
  inj : ∀ t f y, U.inj t = some f → (f y).dv U = some (U.enc t y)
  prj : ∀ t v y, U.prj t v = some y → v.dv U = some (U.enc t y)
  pack : ∀ t cs y, U.pack t cs = some y → ∃ ds, dvL U cs = some ds ∧ U.enc t y = .agg ds
  cells : ∀ t f y, U.cells t = some f → dvL U (f y) = some (U.enc t y).cells
  csz : ∀ t n y, U.csz t = some n → (U.enc t y).cells.length = n
  ok : ∀ t y, (U.enc t y).cellOk = true
  noagg : ∀ t n y, C.isAgg t = some false → U.csz t = some n → ∀ cs, U.enc t y ≠ .agg cs
  agg : ∀ t f y, C.isAgg t = some true → U.cells t = some f → U.enc t y = .agg (U.enc t y).cells
  zcells : ∀ t cs, U.zcells t = some cs → ∃ z, C.zero t = some z ∧ dvL U cs = some z.cells ∧ z.cellOk = true ∧ (C.isAgg t = some true → z = .agg z.cells)
  dok : ∀ t, U.dok t = true → C.zero t = some (U.enc t (U.dflt t))
  keq : ∀ t a b, U.isKey t = true → keyEq (U.enc t a) (U.enc t b) = some (U.keq t a b)
  noMap : ∀ t y, U.noMap t = true → (U.enc t y).noMap = true
  eqT : ∀ t f, U.eqT t = some f → C.P.eqGuardType C.P.depth t = false ∧ ∀ a b, U.enc t a = .agg (U.enc t a).cells ∧ dEqIn C 100 t (U.enc t a) (U.enc t b) = some (f a b)
  bytes : ∀ e f g, U.bytes e = some (f, g) → (∀ b, (f b).map (U.enc e) = b.map fun c => .int .u8 c.toNat) ∧ ∀ xs, bytesDs (xs.map (U.enc e)) = some (g xs)

section
variable {U : Uni}

/-- which object a thing of the typed heap is, and by how much its generations are ahead -/
structure Rf where
  id : Nat
  off : Nat
inductive VRel (U : Uni) (ρ : List Rf) : TV U.X → AV → Prop where
  | d (v d) (h : v.dv U = some d) : VRel U ρ v (.d d)
  | ptr (j : Nat) (i : Rf) (off : Nat) (h : ρ[j]? = some i) : VRel U ρ (.ptr j off) (.ptr i.id off)
  | osl (j : Nat) (i : Rf) (g e n : Nat) (h : ρ[j]? = some i) : VRel U ρ (.osl j g e n) (.osl i.id (g + i.off) n)
  | mp (j : Nat) (i : Rf) (h : ρ[j]? = some i) : VRel U ρ (.mp j) (.mp i.id)
  | fn (f : Nat) (caps : List (TV U.X)) (as : List AV) (hl : caps.length = as.length) (h : ∀ (k : Nat) v a, caps[k]? = some v → as[k]? = some a → VRel U ρ v a) : VRel U ρ (.fn f caps) (mkFn f as)
  | tup (vs : List (TV U.X)) (as : List AV) (hl : vs.length = as.length) (h : ∀ (k : Nat) v a, vs[k]? = some v → as[k]? = some a → VRel U ρ v a) : VRel U ρ (.tup vs) (mkTup as)

def VRels (U : Uni) (ρ : List Rf) (vs : List (TV U.X)) (as : List AV) : Prop := vs.length = as.length ∧ ∀ (k : Nat) v a, vs[k]? = some v → as[k]? = some a → VRel U ρ v a

inductive XRel (U : Uni) (ρ : List Rf) : TX U.X → XV → Prop where
  | a (v w) (h : VRel U ρ v w) : XRel U ρ (.a v) (.a w)
  | sp (k off : Nat) : XRel U ρ (.sp k off) (.sp k off)
  | fp (cs ds) (h : dvL U cs = some ds) : XRel U ρ (.fp cs) (.fp ds)
  | ap (j : Nat) (i : Rf) (g e n off : Nat) (h : ρ[j]? = some i) : XRel U ρ (.ap j g e n off) (.ap i.id (g + i.off) n off)
  | own (e : Nat) (xs : List (U.X e)) : XRel U ρ (.own e xs) (.own (xs.map (U.enc e)))
  | al (k e : Nat) (xs : List (U.X e)) : XRel U ρ (.al k e xs) (.al k (xs.map (U.enc e)))
  | un : XRel U ρ .un .un

inductive SRel (U : Uni) (ρ : List Rf) : TSV U.X → SV → Prop where
  | val (v w) (h : VRel U ρ v w) : SRel U ρ (.val v) (.val w)
  | own (e : Nat) (xs : List (U.X e)) : SRel U ρ (.own e xs) (.own (xs.map (U.enc e)))
  | box (cs ds) (h : dvL U cs = some ds) : SRel U ρ (.box cs) (.box ds)

inductive ORel (U : Uni) (ρ : List Rf) : Nat → TObj U.X → AObj → Prop where
  | arr (d g : Nat) (ap : Bool) (e : Nat) (xs : List (U.X e)) : ORel U ρ d (.arr g ap e xs) (.arr (g + d) ap (xs.map fun y => .d (U.enc e y)))
  | var (d : Nat) (cs as) (h : VRels U ρ cs as) : ORel U ρ d (.var cs) (.var as)
  | map (d k v : Nat) (es : List (U.X k × U.X v)) : ORel U ρ d (.map k v es) (.map (es.map fun p => (U.enc k p.1, .d (U.enc v p.2))))

/-- what is handed in: a heap, of which the first nr objects are lent to be written -/
structure Base where
  h : List AObj
  ids : List Nat
abbrev Base.nr (b : Base) : Nat := b.ids.length
structure HR (U : Uni) (ρ : List Rf) (h0 : Base) (H : List (TObj U.X)) (h : List AObj) : Prop where
  len : ρ.length = H.length
  nd : (ρ.map Rf.id).Nodup
  obj : ∀ (j : Nat) o, H[j]? = some o → ∃ i ao, ρ[j]? = some i ∧ h[i.id]? = some ao ∧ ORel U ρ i.off o ao
  frame : ∀ (i : Nat), i < h0.h.length → i ∉ ρ.map Rf.id → h[i]? = h0.h[i]?
  grow : h0.h.length ≤ h.length
  fresh : ∀ (j : Nat) (i : Rf), h0.nr ≤ j → ρ[j]? = some i → h0.h.length ≤ i.id
  pre : h0.ids <+: ρ.map Rf.id

def ER (U : Uni) (ρ : List Rf) (e : List (Nat × TSV U.X)) (a : List (Nat × SV)) : Prop := ∀ t v, alook e t = some v → ∃ w, alook a t = some w ∧ SRel U ρ v w

def holds {X : Nat → Type} (s : TSt X) (g : Chain) : Prop := ∀ p ∈ g, ∃ c, alook s.tmp p.1 = some ⟨c, .a (.b p.2)⟩

structure TR (U : Uni) (ρ : List Rf) (s : TSt U.X) (tmp : List (Nat × XV)) : Prop where
  no : ∀ t, alook s.tmp t = none → alook tmp t = none
  yes : ∀ t e, alook s.tmp t = some e → ∃ y, alook tmp t = some y ∧ (holds s e.g → XRel U ρ e.x y) ∧ (¬ holds s e.g → y = .un)
  wf : ∀ t e, alook s.tmp t = some e → ∀ p ∈ e.g, (alook s.tmp p.1).isSome = true
  nosp : ∀ k, noSpT k s.tmp = true → noSp k tmp = true

structure Rel (U : Uni) (ρ : List Rf) (h0 : Base) (s : TSt U.X) (a : St) : Prop where
  env : ER U ρ s.env a.env
  tmp : TR U ρ s a.tmp
  heap : HR U ρ h0 s.heap a.heap

/-! values stay as they are -/
theorem VRel.mono {ρ σ : List Rf} (hs : ρ <+: σ) {v : TV U.X} {a : AV} (h : VRel U ρ v a) : VRel U σ v a := by
  have hp : ∀ {j : Nat} {i : Rf}, ρ[j]? = some i → σ[j]? = some i := fun {j i} h => by
    obtain ⟨r, rfl⟩ := hs
    rw [List.getElem?_append_left (List.getElem?_eq_some_iff.1 h).1, h]
  induction h with
  | d v d h => exact .d v d h
  | ptr j i off h => exact .ptr j i off (hp h)
  | osl j i g e n h => exact .osl j i g e n (hp h)
  | mp j i h => exact .mp j i (hp h)
  | fn f caps as hl h ih => exact .fn f caps as hl ih
  | tup vs as hl h ih => exact .tup vs as hl ih
theorem XRel.mono {ρ σ : List Rf} (hs : ρ <+: σ) {v : TX U.X} {a : XV} (h : XRel U ρ v a) : XRel U σ v a := by
  have hp : ∀ {j : Nat} {i : Rf}, ρ[j]? = some i → σ[j]? = some i := fun {j i} h => by
    obtain ⟨r, rfl⟩ := hs
    rw [List.getElem?_append_left (List.getElem?_eq_some_iff.1 h).1, h]
  cases h with
  | a v w h => exact .a v w (h.mono hs)
  | sp => exact .sp _ _
  | fp cs ds h => exact .fp cs ds h
  | ap j i g e n off h => exact .ap j i g e n off (hp h)
  | own => exact .own _ _
  | al => exact .al _ _ _
  | un => exact .un
theorem SRel.mono {ρ σ : List Rf} (hs : ρ <+: σ) {v : TSV U.X} {a : SV} (h : SRel U ρ v a) : SRel U σ v a := by
  cases h with
  | val v w h => exact .val v w (h.mono hs)
  | own => exact .own _ _
  | box cs ds h => exact .box cs ds h
theorem ORel.mono {ρ σ : List Rf} (hs : ρ <+: σ) {d : Nat} {v : TObj U.X} {a : AObj} (h : ORel U ρ d v a) : ORel U σ d v a := by
  cases h with
  | arr => exact .arr _ _ _ _ _
  | var cs as h => exact .var d cs as ⟨h.1, fun k v a h1 h2 => (h.2 k v a h1 h2).mono hs⟩
  | map => exact .map _ _ _ _
theorem ER.mono {ρ σ : List Rf} (hs : ρ <+: σ) {e : List (Nat × TSV U.X)} {a : List (Nat × SV)} (h : ER U ρ e a) : ER U σ e a := fun t v hv => by
  obtain ⟨w, h1, h2⟩ := h t v hv
  exact ⟨w, h1, h2.mono hs⟩
theorem TR.mono {ρ σ : List Rf} (hs : ρ <+: σ) {s : TSt U.X} {a : List (Nat × XV)} (h : TR U ρ s a) : TR U σ s a := ⟨h.no, fun t e he => by
  obtain ⟨y, h1, h2, h3⟩ := h.yes t e he
  exact ⟨y, h1, fun hh => (h2 hh).mono hs, h3⟩, h.wf, h.nosp⟩

theorem dvL_cons {v : TV U.X} {r : List (TV U.X)} {ds : List DV} (h : dvL U (v :: r) = some ds) : ∃ d ds', v.dv U = some d ∧ dvL U r = some ds' ∧ ds = d :: ds' := by
  simp only [dvL] at h
  cases h1 : v.dv U with
  | none => rw [h1] at h; cases h
  | some d =>
    rw [h1] at h
    cases h2 : dvL U r with
    | none => rw [h2] at h; cases h
    | some ds' =>
      rw [h2] at h
      simp only [Option.some.injEq] at h
      exact ⟨d, ds', rfl, rfl, h.symm⟩
theorem dvL_mk {v : TV U.X} {r : List (TV U.X)} {d : DV} {ds : List DV} (h1 : v.dv U = some d) (h2 : dvL U r = some ds) : dvL U (v :: r) = some (d :: ds) := by
  simp only [dvL, h1, h2]
theorem dvL_nil {ds : List DV} (h : dvL U [] = some ds) : ds = [] := by
  simp only [dvL, Option.some.injEq] at h; exact h.symm
theorem dvL_length {vs : List (TV U.X)} : ∀ {ds : List DV}, dvL U vs = some ds → vs.length = ds.length := by
  induction vs with
  | nil => intro ds h; rw [dvL_nil h]; rfl
  | cons v vs ih =>
    intro ds h
    obtain ⟨d, ds', _, h2, rfl⟩ := dvL_cons h
    simp [ih h2]
theorem dvL_get {vs : List (TV U.X)} : ∀ {ds : List DV}, dvL U vs = some ds → ∀ (k : Nat) v, vs[k]? = some v → ∃ d, ds[k]? = some d ∧ v.dv U = some d := by
  induction vs with
  | nil => intro ds h k v hv; simp at hv
  | cons w vs ih =>
    intro ds h k v hv
    obtain ⟨d, ds', h1, h2, rfl⟩ := dvL_cons h
    cases k with
    | zero =>
      simp only [List.getElem?_cons_zero, Option.some.injEq] at hv
      subst hv
      exact ⟨d, rfl, h1⟩
    | succ k => simpa using ih h2 k v (by simpa using hv)
theorem dvL_append {a b : List (TV U.X)} {x y : List DV} (h1 : dvL U a = some x) (h2 : dvL U b = some y) : dvL U (a ++ b) = some (x ++ y) := by
  induction a generalizing x with
  | nil => rw [dvL_nil h1]; exact h2
  | cons v a ih =>
    obtain ⟨d, ds', h3, h4, rfl⟩ := dvL_cons h1
    exact dvL_mk h3 (ih h4)
theorem dvL_take {a : List (TV U.X)} {x : List DV} (h : dvL U a = some x) (n : Nat) : dvL U (a.take n) = some (x.take n) := by
  induction a generalizing x n with
  | nil => rw [dvL_nil h]; simp [dvL]
  | cons v a ih =>
    obtain ⟨d, ds', h3, h4, rfl⟩ := dvL_cons h
    cases n with
    | zero => simp [dvL]
    | succ n => exact dvL_mk h3 (ih h4 n)
theorem dvL_drop {a : List (TV U.X)} {x : List DV} (h : dvL U a = some x) (n : Nat) : dvL U (a.drop n) = some (x.drop n) := by
  induction a generalizing x n with
  | nil => rw [dvL_nil h]; simp [dvL]
  | cons v a ih =>
    obtain ⟨d, ds', h3, h4, rfl⟩ := dvL_cons h
    cases n with
    | zero => exact dvL_mk h3 h4
    | succ n => exact ih h4 n
theorem dvL_splice {cs vs cs' : List (TV U.X)} {off : Nat} {ds ws : List DV} (h1 : dvL U cs = some ds) (h2 : dvL U vs = some ws) (h : splice cs off vs = some cs') :
    ∃ ds', splice ds off ws = some ds' ∧ dvL U cs' = some ds' := by
  unfold splice at h ⊢
  rw [dvL_length h1, dvL_length h2] at h
  cases hb : Nat.ble (off + ws.length) ds.length with
  | false => rw [hb] at h; cases h
  | true =>
    rw [hb] at h
    simp only [cond_true, Option.some.injEq] at h
    subst h
    exact ⟨_, rfl, dvL_append (dvL_append (dvL_take h1 off) h2) (dvL_drop h1 _)⟩
theorem VRels.of_dvL {ρ : List Rf} {vs : List (TV U.X)} {ds : List DV} (h : dvL U vs = some ds) : VRels U ρ vs (ds.map .d) := by
  refine ⟨by simp [dvL_length h], fun k v a hv ha => ?_⟩
  obtain ⟨d, h1, h2⟩ := dvL_get h k v hv
  rw [List.getElem?_map, h1] at ha
  simp only [Option.map_some, Option.some.injEq] at ha
  subst ha
  exact .d v d h2
/-- data is data -/
theorem VRel.isD {ρ : List Rf} {v : TV U.X} {a : AV} {d : DV} (h : VRel U ρ v a) (hd : v.dv U = some d) : a = .d d := by
  induction h generalizing d with
  | d v d' h => rw [h] at hd; cases hd; rfl
  | ptr => simp [TV.dv] at hd
  | osl => simp [TV.dv] at hd
  | mp => simp [TV.dv] at hd
  | fn f caps as hl h ih =>
    simp only [TV.dv, Option.map_eq_some_iff] at hd
    obtain ⟨ds, h1, rfl⟩ := hd
    have : as = ds.map .d := by
      apply List.ext_getElem?
      intro k
      rcases Nat.lt_or_ge k caps.length with hk | hk
      · obtain ⟨d, h2, h3⟩ := dvL_get h1 k _ (List.getElem?_eq_getElem hk)
        have hk' : k < as.length := by omega
        have := ih k _ _ (List.getElem?_eq_getElem hk) (List.getElem?_eq_getElem hk') h3
        rw [List.getElem?_eq_getElem hk', this, List.getElem?_map, h2]; rfl
      · have := dvL_length h1
        rw [List.getElem?_eq_none (by omega), List.getElem?_eq_none (by simp; omega)]
    subst this
    unfold mkFn
    have : allD (ds.map .d) = some ds := by
      clear h1 hl h ih
      unfold allD
      induction ds with
      | nil => rfl
      | cons d ds ih => simp only [List.map_cons, mapO, AV.toD, ih]
    rw [this]
  | tup vs as hl h ih =>
    simp only [TV.dv, Option.map_eq_some_iff] at hd
    obtain ⟨ds, h1, rfl⟩ := hd
    have : as = ds.map .d := by
      apply List.ext_getElem?
      intro k
      rcases Nat.lt_or_ge k vs.length with hk | hk
      · obtain ⟨d, h2, h3⟩ := dvL_get h1 k _ (List.getElem?_eq_getElem hk)
        have hk' : k < as.length := by omega
        have := ih k _ _ (List.getElem?_eq_getElem hk) (List.getElem?_eq_getElem hk') h3
        rw [List.getElem?_eq_getElem hk', this, List.getElem?_map, h2]; rfl
      · have := dvL_length h1
        rw [List.getElem?_eq_none (by omega), List.getElem?_eq_none (by simp; omega)]
    subst this
    unfold mkTup
    have : allD (ds.map .d) = some ds := by
      clear h1 hl h ih
      unfold allD
      induction ds with
      | nil => rfl
      | cons d ds ih => simp only [List.map_cons, mapO, AV.toD, ih]
    rw [this]
theorem allD_map (ds : List DV) : allD (ds.map .d) = some ds := by
  unfold allD
  induction ds with
  | nil => rfl
  | cons d ds ih => simp only [List.map_cons, mapO, AV.toD, ih]

/-! memory -/
theorem HR.lt {ρ : List Rf} {h0 : Base} {H : List (TObj U.X)} {h : List AObj} (r : HR U ρ h0 H h) {i : Nat} (hi : i ∈ ρ.map Rf.id) : i < h.length := by
  obtain ⟨f, hf, rfl⟩ := List.mem_map.1 hi
  obtain ⟨j, hj, rfl⟩ := List.mem_iff_getElem.1 hf
  have hj' : j < H.length := by rw [← r.len]; exact hj
  obtain ⟨i, ao, h1, h2, _⟩ := r.obj j _ (List.getElem?_eq_getElem hj')
  rw [List.getElem?_eq_getElem hj] at h1
  cases h1
  exact (List.getElem?_eq_some_iff.1 h2).1
theorem HR.inj {ρ : List Rf} {h0 : Base} {H : List (TObj U.X)} {h : List AObj} (r : HR U ρ h0 H h) {j j' : Nat} {i i' : Rf} (h1 : ρ[j]? = some i) (h2 : ρ[j']? = some i') (h : i.id = i'.id) : j = j' := by
  obtain ⟨a1, a2⟩ := List.getElem?_eq_some_iff.1 h1
  obtain ⟨b1, b2⟩ := List.getElem?_eq_some_iff.1 h2
  refine (List.getElem_inj r.nd (i := j) (j := j') (h₀ := by simpa using a1) (h₁ := by simpa using b1)).1 ?_
  simp only [List.getElem_map, a2, b2, h]
theorem mem_id {ρ : List Rf} {j : Nat} {i : Rf} (h : ρ[j]? = some i) : i.id ∈ ρ.map Rf.id := List.mem_map_of_mem (List.mem_of_getElem? h)
theorem HR.set {ρ : List Rf} {h0 : Base} {H : List (TObj U.X)} {h : List AObj} (r : HR U ρ h0 H h) {j : Nat} {i : Rf} {o : TObj U.X} {ao : AObj} (hj : ρ[j]? = some i) (ho : ORel U ρ i.off o ao) :
    HR U ρ h0 (H.set j o) (h.set i.id ao) := by
  have hi : i.id < h.length := r.lt (mem_id hj)
  have hjl : j < ρ.length := (List.getElem?_eq_some_iff.1 hj).1
  refine ⟨by simp [r.len], r.nd, fun j' o' hj' => ?_, fun i' hi' hm => ?_, by simpa using r.grow, r.fresh, r.pre⟩
  · rw [List.getElem?_set] at hj'
    split at hj'
    · rename_i he
      subst he
      split at hj'
      · simp only [Option.some.injEq] at hj'
        subst hj'
        exact ⟨i, ao, hj, by rw [List.getElem?_set_self hi], ho⟩
      · cases hj'
    · rename_i hne
      obtain ⟨i', ao', h1, h2, h3⟩ := r.obj j' o' hj'
      refine ⟨i', ao', h1, ?_, h3⟩
      have : i.id ≠ i'.id := fun he => hne (r.inj hj h1 he)
      rw [List.getElem?_set_ne this, h2]
  · have : i.id ≠ i' := fun he => hm (he ▸ mem_id hj)
    rw [List.getElem?_set_ne this]
    exact r.frame i' hi' hm
theorem HR.push {ρ : List Rf} {h0 : Base} {H : List (TObj U.X)} {h : List AObj} (r : HR U ρ h0 H h) {o : TObj U.X} {ao : AObj} (ho : ORel U (ρ ++ [Rf.mk h.length 0]) 0 o ao) :
    HR U (ρ ++ [Rf.mk h.length 0]) h0 (H ++ [o]) (h ++ [ao]) := by
  refine ⟨by simp [r.len], ?_, fun j o' hj => ?_, fun i hi hm => ?_, by simp; have := r.grow; omega, fun j i hj hi => ?_, r.pre.trans (by rw [List.map_append]; exact List.prefix_append _ _)⟩
  · rw [List.map_append, List.nodup_append]
    refine ⟨r.nd, by simp, fun a ha b hb => ?_⟩
    simp only [List.map_cons, List.map_nil, List.mem_singleton] at hb
    subst hb
    exact Nat.ne_of_lt (r.lt ha)
  · rcases Nat.lt_or_ge j H.length with hlt | hge
    · rw [List.getElem?_append_left hlt] at hj
      obtain ⟨i, ao', h1, h2, h3⟩ := r.obj j o' hj
      refine ⟨i, ao', ?_, ?_, h3.mono (List.prefix_append _ _)⟩
      · rw [List.getElem?_append_left (by rw [r.len]; exact hlt), h1]
      · rw [List.getElem?_append_left (List.getElem?_eq_some_iff.1 h2).1, h2]
    · rw [List.getElem?_append_right hge] at hj
      have hj0 : j - H.length = 0 := by
        have := (List.getElem?_eq_some_iff.1 hj).1
        simp at this; omega
      rw [hj0] at hj
      simp only [List.getElem?_cons_zero, Option.some.injEq] at hj
      subst hj
      have hjl : j = H.length := by omega
      subst hjl
      refine ⟨⟨h.length, 0⟩, ao, ?_, by rw [List.getElem?_append_right (Nat.le_refl _)]; simp, ho⟩
      rw [List.getElem?_append_right (by rw [r.len]; exact Nat.le_refl _), r.len]; simp
  · have hi' : i < h.length := Nat.lt_of_lt_of_le hi r.grow
    rw [List.getElem?_append_left hi']
    exact r.frame i hi fun hh => hm (by rw [List.map_append]; exact List.mem_append_left _ hh)
  · rcases Nat.lt_or_ge j ρ.length with hlt | hge
    · rw [List.getElem?_append_left hlt] at hi
      exact r.fresh j i hj hi
    · rw [List.getElem?_append_right hge] at hi
      have := (List.getElem?_eq_some_iff.1 hi).2
      simp only [List.getElem_singleton] at this
      rw [← this]
      exact r.grow
end
end Go.Tev
namespace Go.Tev
open Go.Abs

section
variable {U : Uni}

theorem memB_iff {p : Nat × Bool} {ch : Chain} : memB p ch = true ↔ p ∈ ch := by
  induction ch with
  | nil => simp [memB]
  | cons q r ih =>
    simp only [memB]
    cases h : (Nat.beq p.1 q.1 && (p.2 == q.2)) with
    | true =>
      simp only [Bool.and_eq_true, beq_iff_eq, Nat.beq_eq] at h
      simp only [cond_true, true_iff]
      rw [show p = q from Prod.ext h.1 h.2]
      exact List.mem_cons_self
    | false =>
      simp only [cond_false, ih, List.mem_cons]
      constructor
      · exact .inr
      · rintro (rfl | h')
        · simp at h
        · exact h'
theorem subB_mem {g ch : Chain} (h : subB g ch = true) : ∀ p ∈ g, p ∈ ch := by
  induction g with
  | nil => intro p hp; simp at hp
  | cons q r ih =>
    simp only [subB, Bool.and_eq_true] at h
    intro p hp
    rcases List.mem_cons.1 hp with rfl | hp
    · exact memB_iff.1 h.1
    · exact ih h.2 p hp
theorem holds_sub {X : Nat → Type} {s : TSt X} {g ch : Chain} (h : subB g ch = true) (hh : holds s ch) : holds s g := fun p hp => hh p (subB_mem h p hp)

theorem XRel.flat {ρ : List Rf} {x : TX U.X} {y : XV} (h : XRel U ρ x y) : XRel U ρ x.flat y.flat := by
  cases h with
  | a v w h => exact .a v w h
  | sp => exact .sp _ _
  | fp cs ds h => exact .fp cs ds h
  | ap j i g e n off h => exact .ap j i g e n off h
  | own e xs => exact .a _ _ (.d _ _ rfl)
  | al k e xs => exact .a _ _ (.d _ _ rfl)
  | un => exact .un
theorem XRel.copy {ρ : List Rf} {x : TX U.X} {y : XV} (h : XRel U ρ x y) : XRel U ρ x.copy y.copy := by
  cases h with
  | a v w h => exact .a v w h
  | sp => exact .sp _ _
  | fp cs ds h => exact .fp cs ds h
  | ap j i g e n off h => exact .ap j i g e n off h
  | own e xs => exact .a _ _ (.d _ _ rfl)
  | al k e xs => exact .al _ _ _
  | un => exact .un
theorem XRel.isA {ρ : List Rf} {v : TV U.X} {y : XV} (h : XRel U ρ (.a v) y) : ∃ w, y = .a w ∧ VRel U ρ v w := by
  cases h with
  | a v w h => exact ⟨w, rfl, h⟩

theorem tdv1_ok {d : DV} {v : TV U.X} (h : tdv1 d = some v) : v.dv U = some d := by
  cases d <;> simp only [tdv1, Option.some.injEq] at h <;> (try (cases h; done)) <;> (try (subst h; rfl))
  rename_i es
  cases es with
  | nil => simp only [tdv1, Option.some.injEq] at h; subst h; rfl
  | cons => simp [tdv1] at h
theorem tdv1L_ok : ∀ {ds : List DV} {vs : List (TV U.X)}, mapO tdv1 ds = some vs → dvL U vs = some ds
  | [], vs, h => by simp only [mapO, Option.some.injEq] at h; subst h; rfl
  | d :: ds, vs, h => by
    simp only [mapO] at h
    cases h1 : (tdv1 d : Option (TV U.X)) with
    | none => rw [h1] at h; cases h
    | some v =>
      rw [h1] at h
      cases h2 : (mapO tdv1 ds : Option (List (TV U.X))) with
      | none => rw [h2] at h; cases h
      | some ws =>
        rw [h2] at h
        simp only [Option.some.injEq] at h
        subst h
        exact dvL_mk (tdv1_ok h1) (tdv1L_ok h2)
theorem tdv_ok {d : DV} {v : TV U.X} (h : tdv d = some v) : v.dv U = some d := by
  cases d with
  | agg cs =>
    simp only [tdv, Option.map_eq_some_iff] at h
    obtain ⟨vs, h1, rfl⟩ := h
    simp only [TV.dv, tdv1L_ok h1, Option.map_some]
  | _ => exact tdv1_ok h

variable {ρ : List Rf} {h0 : Base} {s : TSt U.X} {a : St}

theorem topx_ok (r : Rel U ρ h0 s a) {ch : Chain} (hh : holds s ch) {o : Operand} {y : TX U.X} (h : topx s ch o = some y) : ∃ z, opx a o = some z ∧ XRel U ρ y z := by
  cases o with
  | tmp t =>
    simp only [topx] at h
    cases ht : alook s.tmp t with
    | some e =>
      rw [ht] at h
      simp only at h
      cases hs : subB e.g ch with
      | false => rw [hs] at h; cases h
      | true =>
        rw [hs] at h
        simp only [cond_true, Option.some.injEq] at h
        subst h
        obtain ⟨z, h1, h2, _⟩ := r.tmp.yes t e ht
        exact ⟨z.copy, by simp only [opx, h1], (h2 (holds_sub hs hh)).copy⟩
    | none =>
      rw [ht] at h
      have hn := r.tmp.no t ht
      cases he : alook s.env t with
      | none => rw [he] at h; cases h
      | some v =>
        rw [he] at h
        obtain ⟨w, h1, h2⟩ := r.env t v he
        cases h2 with
        | val v w h2 =>
          simp only [Option.some.injEq] at h
          subst h
          exact ⟨.a w, by simp only [opx, hn, h1], .a _ _ h2⟩
        | own e xs =>
          simp only [Option.some.injEq] at h
          subst h
          exact ⟨_, by simp only [opx, hn, h1], .al _ _ _⟩
        | box cs ds h2 =>
          simp only [Option.some.injEq] at h
          subst h
          exact ⟨_, by simp only [opx, hn, h1], .sp _ _⟩
  | const v =>
    simp only [topx] at h
    cases hc : cval v with
    | none => rw [hc] at h; cases h
    | some d =>
      rw [hc] at h
      simp only at h
      cases hd : (tdv d : Option (TV U.X)) with
      | none => rw [hd] at h; cases h
      | some w =>
        rw [hd] at h
        simp only [Option.some.injEq] at h
        subst h
        exact ⟨_, by simp only [opx, hc], .a _ _ (.d _ _ (tdv_ok hd))⟩
  | func f =>
    simp only [topx, Option.some.injEq] at h
    subst h
    exact ⟨_, rfl, .a _ _ (.d _ _ rfl)⟩
  | global g => simp [topx] at h
theorem topd_ok (r : Rel U ρ h0 s a) {ch : Chain} (hh : holds s ch) {o : Operand} {y : TX U.X} (h : topd s ch o = some y) : ∃ z, opd a o = some z ∧ XRel U ρ y z := by
  unfold topd at h
  cases h1 : topx s ch o with
  | none => rw [h1] at h; cases h
  | some x =>
    rw [h1] at h
    simp only [Option.some.injEq] at h
    subst h
    obtain ⟨z, h2, h3⟩ := topx_ok r hh h1
    exact ⟨z.flat, by simp only [opd, h2], h3.flat⟩
theorem topA_ok (r : Rel U ρ h0 s a) {ch : Chain} (hh : holds s ch) {o : Operand} {v : TV U.X} (h : topA s ch o = some v) : ∃ w, opA a o = some w ∧ VRel U ρ v w := by
  unfold topA at h
  cases h1 : topd s ch o with
  | none => rw [h1] at h; cases h
  | some x =>
    rw [h1] at h
    cases x <;> simp only at h <;> (try (cases h; done))
    simp only [Option.some.injEq] at h
    subst h
    obtain ⟨z, h2, h3⟩ := topd_ok r hh h1
    obtain ⟨w, rfl, h4⟩ := h3.isA
    exact ⟨w, by simp only [opA, h2], h4⟩
/-- data -/
theorem topD_ok (r : Rel U ρ h0 s a) {ch : Chain} (hh : holds s ch) {o : Operand} {v : TV U.X} {d : DV} (h : topA s ch o = some v) (hd : v.dv U = some d) : opA a o = some (.d d) ∧ opD a o = some d ∧ opd a o = some (.a (.d d)) := by
  obtain ⟨w, h1, h2⟩ := topA_ok r hh h
  have := h2.isD hd
  subst this
  have h3 : opd a o = some (.a (.d d)) := by
    unfold opA at h1
    split at h1
    · rename_i v' h4
      simp only [Option.some.injEq] at h1
      rw [h4, h1]
    · cases h1
  exact ⟨h1, by simp only [opD, h3], h3⟩
theorem topL_ok (r : Rel U ρ h0 s a) {ch : Chain} (hh : holds s ch) : ∀ {os : List Operand} {vs : List (TV U.X)}, topL s ch os = some vs → ∃ ws, evArgs a os = some ws ∧ VRels U ρ vs ws
  | [], vs, h => by
    simp only [topL, Option.some.injEq] at h
    subst h
    exact ⟨[], rfl, rfl, fun k v a h => by simp at h⟩
  | o :: os, vs, h => by
    simp only [topL] at h
    cases h1 : topA s ch o with
    | none => rw [h1] at h; cases h
    | some v =>
      rw [h1] at h
      simp only at h
      cases h2 : topL s ch os with
      | none => rw [h2] at h; cases h
      | some vs' =>
        rw [h2] at h
        simp only [Option.some.injEq] at h
        subst h
        obtain ⟨w, h3, h4⟩ := topA_ok r hh h1
        obtain ⟨ws, h5, h6, h7⟩ := topL_ok r hh h2
        refine ⟨w :: ws, by simp only [evArgs, h3, h5], by simp [h6], fun k v' a' hk ha => ?_⟩
        cases k with
        | zero => simp only [List.getElem?_cons_zero, Option.some.injEq] at hk ha; subst hk; subst ha; exact h4
        | succ k => exact h7 k v' a' (by simpa using hk) (by simpa using ha)
theorem VRels.dv {vs : List (TV U.X)} {ws : List AV} (h : VRels U ρ vs ws) : ∀ {ds : List DV}, dvL U vs = some ds → ws = ds.map .d := by
  intro ds hd
  apply List.ext_getElem?
  intro k
  rcases Nat.lt_or_ge k vs.length with hk | hk
  · obtain ⟨d, h2, h3⟩ := dvL_get hd k _ (List.getElem?_eq_getElem hk)
    have hk' : k < ws.length := by rw [← h.1]; exact hk
    have := (h.2 k _ _ (List.getElem?_eq_getElem hk) (List.getElem?_eq_getElem hk')).isD h3
    rw [List.getElem?_eq_getElem hk', this, List.getElem?_map, h2]; rfl
  · have := dvL_length hd
    have := h.1
    rw [List.getElem?_eq_none (by omega), List.getElem?_eq_none (by simp; omega)]
theorem VRels.take {vs : List (TV U.X)} {ws : List AV} (h : VRels U ρ vs ws) (n : Nat) : VRels U ρ (vs.take n) (ws.take n) := by
  refine ⟨by simp [h.1], fun k v a hv ha => ?_⟩
  rw [List.getElem?_take] at hv ha
  split at hv
  · rename_i hk; rw [if_pos hk] at ha; exact h.2 k v a hv ha
  · cases hv
theorem VRels.drop {vs : List (TV U.X)} {ws : List AV} (h : VRels U ρ vs ws) (n : Nat) : VRels U ρ (vs.drop n) (ws.drop n) := by
  refine ⟨by simp [h.1], fun k v a hv ha => ?_⟩
  rw [List.getElem?_drop] at hv ha
  exact h.2 _ v a hv ha
theorem VRels.append {vs vs' : List (TV U.X)} {ws ws' : List AV} (h : VRels U ρ vs ws) (h' : VRels U ρ vs' ws') : VRels U ρ (vs ++ vs') (ws ++ ws') := by
  refine ⟨by simp [h.1, h'.1], fun k v a hv ha => ?_⟩
  rcases Nat.lt_or_ge k vs.length with hk | hk
  · rw [List.getElem?_append_left hk] at hv
    rw [List.getElem?_append_left (by rw [← h.1]; exact hk)] at ha
    exact h.2 k v a hv ha
  · rw [List.getElem?_append_right hk] at hv
    rw [List.getElem?_append_right (by rw [← h.1]; exact hk), ← h.1] at ha
    exact h'.2 _ v a hv ha

/-! of a type -/
variable {x : Cx}
theorem coerce_dv (ok : x.U.Ok x.C) {t : Nat} {v w : TV x.X} {d : DV} (hd : v.dv x.U = some d) (h : x.coerce t v = some w) : w.dv x.U = some d := by
  unfold Cx.coerce at h
  split at h
  · split at h <;> (simp only [Option.some.injEq] at h; subst h)
    · simp only [TV.dv] at hd ⊢; simpa using hd
    · exact hd
  · split at h
    · rename_i cs y hp
      simp only [Option.some.injEq] at h
      subst h
      obtain ⟨ds, h1, h2⟩ := ok.pack _ _ _ hp
      simp only [TV.dv, h1, Option.map_some, Option.some.injEq] at hd ⊢
      rw [h2, hd]
    · cases h
  · simp only [Option.some.injEq] at h; subst h; exact hd
theorem coerce_ok (ok : x.U.Ok x.C) {ρ : List Rf} {t : Nat} {v w : TV x.X} {u : AV} (hv : VRel x.U ρ v u) (h : x.coerce t v = some w) : VRel x.U ρ w u := by
  cases hd : v.dv x.U with
  | some d => rw [hv.isD hd]; exact .d _ _ (coerce_dv ok hd h)
  | none =>
    unfold Cx.coerce at h
    split at h
    · simp [TV.dv] at hd
    · cases hv with
      | d v d h2 => rw [h2] at hd; cases hd
    · simp only [Option.some.injEq] at h; subst h; exact hv
theorem coerceX_ok (ok : x.U.Ok x.C) {ρ : List Rf} {t : Nat} {y z : TX x.X} {u : XV} (hv : XRel x.U ρ y u) (h : x.coerceX t y = some z) : XRel x.U ρ z u := by
  unfold Cx.coerceX at h
  split at h
  · split at h
    · rename_i v w hw
      simp only [Option.some.injEq] at h
      subst h
      obtain ⟨u', rfl, h1⟩ := hv.isA
      exact .a _ _ (coerce_ok ok h1 hw)
    · cases h
  · simp only [Option.some.injEq] at h; subst h; exact hv
theorem pack_dv (ok : x.U.Ok x.C) {t : Nat} {cs : List (TV x.X)} {y : x.X t} {ds : List DV} (h : x.U.pack t cs = some y) (hd : dvL x.U cs = some ds) : x.U.enc t y = .agg ds := by
  obtain ⟨ds', h1, h2⟩ := ok.pack _ _ _ h
  rw [hd] at h1
  cases h1
  exact h2
theorem ld_ok (ok : x.U.Ok x.C) {t : Nat} {cs : List (TV x.X)} {ds : List DV} {v : TV x.X} (hd : dvL x.U cs = some ds) (h : x.ld t cs = some v) : ∃ d, ldCells x.C t ds = some d ∧ v.dv x.U = some d := by
  unfold Cx.ld at h
  unfold ldCells
  split at h
  · rename_i hag
    rw [hag]
    split at h
    · rename_i n hn
      rw [hn]
      rw [dvL_length hd] at h
      simp only
      cases hb : Nat.ble n ds.length with
      | false => rw [hb] at h; cases h
      | true =>
        rw [hb] at h
        simp only [cond_true] at h ⊢
        split at h
        · rename_i y hp
          simp only [Option.some.injEq] at h
          subst h
          exact ⟨_, rfl, by simp only [TV.dv, pack_dv ok hp (dvL_take hd n)]⟩
        · cases h
    · cases h
  · rename_i hag
    rw [hag]
    split at h
    · rename_i v' r
      obtain ⟨d, ds', h1, h2, rfl⟩ := dvL_cons hd
      exact ⟨d, rfl, coerce_dv ok h1 h⟩
    · cases h
  · cases h
theorem ldA_ok (ok : x.U.Ok x.C) {ρ : List Rf} {t : Nat} {cs : List (TV x.X)} {as : List AV} {v : TV x.X} (hd : VRels x.U ρ cs as) (h : x.ld t cs = some v) : ∃ w, loadCellsA x.C t as = some w ∧ VRel x.U ρ v w := by
  unfold Cx.ld at h
  unfold loadCellsA
  split at h
  · rename_i hag
    rw [hag]
    split at h
    · rename_i n hn
      rw [hn]
      rw [hd.1] at h
      simp only
      cases hb : Nat.ble n as.length with
      | false => rw [hb] at h; cases h
      | true =>
        rw [hb] at h
        simp only [cond_true] at h ⊢
        split at h
        · rename_i y hp
          simp only [Option.some.injEq] at h
          subst h
          obtain ⟨ds, h1, h2⟩ := ok.pack _ _ _ hp
          rw [(hd.take n).dv h1, allD_map]
          exact ⟨_, rfl, .d _ _ (by simp only [TV.dv, h2])⟩
        · cases h
    · cases h
  · rename_i hag
    rw [hag]
    split at h
    · rename_i v' r
      cases as with
      | nil => have := hd.1; simp at this
      | cons w as => exact ⟨w, rfl, coerce_ok ok (hd.2 0 _ _ rfl rfl) h⟩
    · cases h
  · cases h
end
end Go.Tev
namespace Go.Tev
open Go.Abs

def PR.Is {α : Type} (act : Prop) : PR α → α → Prop
  | .tot b, a => a = b
  | .part p d f, a => ∃ b, (act → p = some b) ∧ a = f b
theorem PR.Is_map {α β : Type} {act : Prop} {r : PR α} {h : α → β} {b : β} : PR.Is act (r.map h) b ↔ ∃ a, PR.Is act r a ∧ b = h a := by
  cases r with
  | tot a => simp [PR.map, PR.Is]
  | part p d f =>
    simp only [PR.map, PR.Is]
    constructor
    · rintro ⟨c, h1, rfl⟩; exact ⟨_, ⟨c, h1, rfl⟩, rfl⟩
    · rintro ⟨_, ⟨c, h1, rfl⟩, rfl⟩; exact ⟨c, h1, rfl⟩
theorem PR.go_some {α R : Type} {g : Option Bool} {r : PR α} {k : α → Option R} {z : R} (h : PR.go g r k = some z) : ∃ a, PR.Is (g ≠ some false) r a ∧ k a = some z := by
  cases r with
  | tot a => exact ⟨a, rfl, h⟩
  | part p d f =>
    cases g with
    | none =>
      simp only [PR.go] at h
      cases p with
      | none => cases h
      | some b => exact ⟨f b, ⟨b, fun _ => rfl, rfl⟩, h⟩
    | some c =>
      simp only [PR.go] at h
      cases c with
      | false => exact ⟨f d, ⟨d, fun h => absurd rfl h, rfl⟩, h⟩
      | true =>
        simp only [cond_true] at h
        cases p with
        | none => cases h
        | some b => exact ⟨f b, ⟨b, fun _ => rfl, rfl⟩, h⟩
theorem PR.Is.imp {α : Type} {P Q : Prop} (hpq : Q → P) {r : PR α} {a : α} (h : PR.Is P r a) : PR.Is Q r a := by
  cases r with
  | tot => exact h
  | part p d f => obtain ⟨b, h1, h2⟩ := h; exact ⟨b, fun hq => h1 (hpq hq), h2⟩

theorem bif_some' {α : Type 1} {b : Bool} {q : Option α} {y : α} (h : (bif b then q else none) = some y) : b = true ∧ q = some y := by
  cases b with
  | false => cases h
  | true => exact ⟨rfl, h⟩
section
variable {x : Cx} {ρ : List Rf} {h0 : Base} {s : TSt x.X} {a : St}

theorem castX_ok {X : Nat → Type} {t' t : Nat} {y : X t'} {z : X t} (h : castX t' t y = some z) : ∃ e : t' = t, e ▸ y = z := by
  unfold castX at h
  split at h
  · rename_i e; exact ⟨e, by simpa using h⟩
  · cases h
theorem binII_ok {op : BinOp} {k : IntKind} {m n : Int} {pr : PR (TV x.X)} {w : TV x.X} (h : binII op k m n = some pr) (hi : PR.Is True pr w) : ∃ d, dInt op k m n = some d ∧ w.dv x.U = some d := by
  cases op <;> simp only [binII, Option.some.injEq] at h <;> (try (cases h; done)) <;> subst h <;> simp only [PR.Is, pInt] at hi <;>
    (try (subst hi; exact ⟨_, rfl, rfl⟩)) <;> (obtain ⟨b, h1, rfl⟩ := hi; have h1 := h1 trivial; unfold dInt; split at h1 <;> (try (cases h1; done)) <;> rename_i hb <;> (simp only [Option.some.injEq] at h1; subst h1; simp only [if_neg hb]; exact ⟨_, rfl, rfl⟩))
theorem bin_ok (ok : x.U.Ok x.C) {op : BinOp} {t : Nat} {u v w : TV x.X} {uw vw : AV} {pr : PR (TV x.X)} (h1 : VRel x.U ρ u uw) (h2 : VRel x.U ρ v vw) (h : binT x op t u v = some pr) (hi : PR.Is True pr w) :
    ∃ d, aBin x.C op t uw vw = some d ∧ w.dv x.U = some d := by
  unfold binT at h
  split at h
  · rw [h1.isD rfl, h2.isD rfl]
    rename_i k m k' n
    simp only [aBin]
    split at h
    · simp only [Option.some.injEq] at h; subst h
      obtain ⟨b, h3, rfl⟩ := hi
      have h3 := h3 trivial
      simp only [dBin]
      split at h3
      · cases h3
      · rename_i hb; simp only [Option.some.injEq] at h3; subst h3; simp only [if_neg hb]; exact ⟨_, rfl, rfl⟩
    · simp only [Option.some.injEq] at h; subst h
      obtain ⟨b, h3, rfl⟩ := hi
      have h3 := h3 trivial
      simp only [dBin]
      split at h3
      · cases h3
      · rename_i hb; simp only [Option.some.injEq] at h3; subst h3; simp only [if_neg hb]; exact ⟨_, rfl, rfl⟩
    · rename_i n1 n2
      cases hk : decide (k = k') with
      | false => rw [hk] at h; cases h
      | true =>
        rw [hk] at h
        simp only [cond_true] at h
        have hk := of_decide_eq_true hk
        subst hk
        have : dBin x.C op t (.int k m) (.int k n) = dInt op k m n := by
          unfold dBin
          cases op <;> simp <;> first | exact absurd rfl n1 | exact absurd rfl n2
        rw [this]
        exact binII_ok h hi
  · rename_i p q
    rw [h1.isD rfl, h2.isD rfl]
    simp only [aBin]
    cases op <;> simp only [Option.some.injEq] at h <;> (try (cases h; done)) <;> subst h <;> (try (simp only [PR.Is] at hi; subst hi; exact ⟨_, rfl, rfl⟩))
    obtain ⟨b, h3, rfl⟩ := hi
    have h3 := h3 trivial
    split at h3
    · rename_i hb
      simp only [Option.some.injEq] at h3; subst h3
      have : Nat.ble (p.length + q.length) (2 ^ 40) = true := by rw [Nat.ble_eq]; exact hb
      simp only [dBin, this, cond_true]
      exact ⟨_, rfl, rfl⟩
    · cases h3
  · rw [h1.isD rfl, h2.isD rfl]
    simp only [aBin, dBin]
    split at h
    · rename_i hb; rw [hb]; simp only [Option.some.injEq] at h; subst h; simp only [PR.Is] at hi; subst hi; exact ⟨_, rfl, rfl⟩
    · rename_i hb; rw [hb]; simp only [Option.some.injEq] at h; subst h; simp only [PR.Is] at hi; subst hi; exact ⟨_, rfl, rfl⟩
    · cases h
  · rename_i ty p ty' q
    split at h
    · rename_i q' f hq hf
      obtain ⟨he, hq⟩ := castX_ok hq
      subst he
      cases hq
      obtain ⟨hb, hx⟩ := bif_some' h
      clear h
      have h := hx
      clear hx
      rw [Nat.beq_eq] at hb
      subst hb
      obtain ⟨g1, g2⟩ := ok.eqT _ _ hf
      obtain ⟨e1, e2⟩ := g2 p q
      obtain ⟨e3, _⟩ := g2 q p
      rw [h1.isD rfl, h2.isD rfl]
      rw [e1, e3] at e2
      rw [e1, e3]
      simp only [aBin, dBin, g1, cond_false, e2]
      split at h
      · simp only [Option.some.injEq] at h; subst h; simp only [PR.Is] at hi; subst hi; exact ⟨_, rfl, rfl⟩
      · simp only [Option.some.injEq] at h; subst h; simp only [PR.Is] at hi; subst hi; exact ⟨_, rfl, rfl⟩
      · cases h
    · cases h
  · rw [h1.isD rfl, h2.isD rfl]
    simp only [aBin, dBin]
    split at h
    · rename_i hb; rw [hb]; simp only [Option.some.injEq] at h; subst h; simp only [PR.Is] at hi; subst hi; exact ⟨_, rfl, rfl⟩
    · rename_i hb; rw [hb]; simp only [Option.some.injEq] at h; subst h; simp only [PR.Is] at hi; subst hi; exact ⟨_, rfl, rfl⟩
    · cases h
  · rw [h2.isD rfl]
    cases h1 with
    | d v d hd => simp [TV.dv] at hd
    | mp j i hj =>
      simp only [aBin]
      split at h
      · rename_i hb; rw [hb]; simp only [Option.some.injEq] at h; subst h; simp only [PR.Is] at hi; subst hi; exact ⟨_, rfl, rfl⟩
      · rename_i hb; rw [hb]; simp only [Option.some.injEq] at h; subst h; simp only [PR.Is] at hi; subst hi; exact ⟨_, rfl, rfl⟩
      · cases h
  · cases h
theorem un_ok {op : UnOp} {u w : TV x.X} {uw : AV} {pr : PR (TV x.X)} (h1 : VRel x.U ρ u uw) (h : unT op u = some pr) (hi : PR.Is True pr w) : ∃ e d, uw = .d e ∧ dUn op e = some d ∧ w.dv x.U = some d := by
  unfold unT at h
  split at h
  · split at h
    · simp only [Option.some.injEq] at h; subst h; simp only [PR.Is] at hi; subst hi
      exact ⟨_, _, h1.isD rfl, rfl, rfl⟩
    · cases h
  · split at h
    · simp only [Option.some.injEq] at h; subst h; simp only [PR.Is] at hi; subst hi
      exact ⟨_, _, h1.isD rfl, rfl, rfl⟩
    · cases h
  · cases h
theorem obj_ok (hr : HR x.U ρ h0 s.heap a.heap) {j : Nat} {i : Rf} {o : TObj x.X} (hj : s.heap[j]? = some o) (hi : ρ[j]? = some i) : ∃ ao, a.heap[i.id]? = some ao ∧ ORel x.U ρ i.off o ao := by
  obtain ⟨i', ao, h1, h2, h3⟩ := hr.obj j o hj
  rw [hi] at h1
  cases h1
  exact ⟨ao, h2, h3⟩
theorem len_ok (r : Rel x.U ρ h0 s a) {t : Nat} {u w : TV x.X} {uw : AV} {pr : PR (TV x.X)} (h1 : VRel x.U ρ u uw) (h : lenT x s.heap t u = some pr) (hi : PR.Is True pr w) : ∃ d, evLen x.C a.heap t uw = some d ∧ w.dv x.U = some d := by
  unfold lenT at h
  split at h
  · rw [h1.isD rfl]
    simp only [evLen]
    rename_i s'
    cases hb : x.C.isStr t with
    | false => rw [hb] at h; cases h
    | true => rw [hb] at h; simp only [cond_true, Option.some.injEq] at h; subst h; simp only [PR.Is] at hi; subst hi; exact ⟨_, rfl, rfl⟩
  · rw [h1.isD rfl]
    simp only [evLen]
    split at h
    · rename_i hb; rw [hb]; simp only [Option.some.injEq] at h; subst h; simp only [PR.Is] at hi; subst hi; exact ⟨_, rfl, by simp [TV.dv]⟩
    · cases h
  · rw [h1.isD rfl]
    simp only [evLen]
    split at h
    · rename_i hb; rw [hb]; simp only [Option.some.injEq] at h; subst h; simp only [PR.Is] at hi; subst hi; exact ⟨_, rfl, by simp [TV.dv]⟩
    · cases h
  · cases h1 with
    | d v d hd => simp [TV.dv] at hd
    | osl j i g e n hj =>
      simp only [evLen]
      split at h
      · rename_i hb; rw [hb]; simp only [Option.some.injEq] at h; subst h; simp only [PR.Is] at hi; subst hi; exact ⟨_, rfl, rfl⟩
      · cases h
  · cases h1 with
    | d v d hd => simp [TV.dv] at hd
    | mp j i hj =>
      split at h
      · rename_i hb
        obtain ⟨ao, h3, h4⟩ := obj_ok r.heap hb hj
        cases h4
        simp only [evLen, h3]
        cases hb : x.C.isMap t with
        | false => rw [hb] at h; cases h
        | true => rw [hb] at h; simp only [cond_true, Option.some.injEq] at h; subst h; simp only [PR.Is] at hi; subst hi; exact ⟨_, rfl, by simp [TV.dv]⟩
      · cases h
  · cases h
theorem dmax_ok {us : List (TV x.X)} {ws : List AV} {w : TV x.X} {pr : PR (TV x.X)} (h1 : VRels x.U ρ us ws) (h : dmaxT us = some pr) (hi : PR.Is True pr w) : ∃ ds d, ws = ds.map .d ∧ dmax ds = some d ∧ w.dv x.U = some d := by
  unfold dmaxT at h
  split at h
  · simp only [Option.some.injEq] at h; subst h; simp only [PR.Is] at hi; subst hi
    exact ⟨_, _, h1.dv rfl, rfl, rfl⟩
  · cases h
theorem dmin_ok {us : List (TV x.X)} {ws : List AV} {w : TV x.X} {pr : PR (TV x.X)} (h1 : VRels x.U ρ us ws) (h : dminT us = some pr) (hi : PR.Is True pr w) : ∃ ds d, ws = ds.map .d ∧ dmin ds = some d ∧ w.dv x.U = some d := by
  unfold dminT at h
  split at h
  · simp only [Option.some.injEq] at h; subst h; simp only [PR.Is] at hi; subst hi
    exact ⟨_, _, h1.dv rfl, rfl, rfl⟩
  · cases h
theorem castL_ok {X : Nat → Type} {t' t : Nat} {y : List (X t')} {z : List (X t)} (h : castL t' t y = some z) : ∃ e : t' = t, e ▸ y = z := by
  unfold castL at h
  split at h
  · rename_i e; exact ⟨e, by simpa using h⟩
  · cases h
theorem bytesA_D : ∀ (l : List DV), bytesA (l.map .d) = bytesDs l
  | [] => rfl
  | d :: l => by
    cases d <;> simp only [List.map_cons, bytesA, bytesDs]
    rename_i k n
    cases k <;> simp only [bytesA, bytesDs, bytesA_D l]
theorem conv_ok (ok : x.U.Ok x.C) (r : Rel x.U ρ h0 s a) {s' t : Nat} {u w : TV x.X} {uw : AV} {pr : PR (TV x.X)} (h1 : VRel x.U ρ u uw) (h : convT x s.heap s' t u = some pr) (hi : PR.Is True pr w) :
    ∃ d, evConvertV x.C a.heap s' t uw = some d ∧ w.dv x.U = some d := by
  unfold convT at h
  split at h
  · rw [h1.isD rfl]
    simp only [evConvertV]
    split at h
    · rename_i e1 e2; rw [e1, e2]; simp only [Option.some.injEq] at h; subst h; simp only [PR.Is] at hi; subst hi; exact ⟨_, rfl, rfl⟩
    · cases h
  · rw [h1.isD rfl]
    simp only [evConvertV]
    cases hb : (x.C.isStr s' && x.C.isStr t) with
    | false => rw [hb] at h; cases h
    | true => rw [hb] at h; simp only [cond_true, Option.some.injEq] at h; subst h; simp only [PR.Is] at hi; subst hi; exact ⟨_, rfl, rfl⟩
  · rename_i j g e n
    cases h1 with
    | d v d hd => simp [TV.dv] at hd
    | osl _ i _ _ _ hj =>
      cases hb : (x.C.isBytes s' && x.C.isStr t) with
      | false => rw [hb] at h; cases h
      | true =>
        rw [hb] at h
        simp only [cond_true] at h
        split at h
        · rename_i g' ap e' xs fb f hh hby
          obtain ⟨ao, h3, h4⟩ := obj_ok r.heap hh hj
          cases h4
          split at h
          · rename_i ys hc
            obtain ⟨he, hc⟩ := castL_ok hc
            subst he
            simp only at hc
            subst hc
            cases hg : Nat.beq g g' with
            | false => rw [hg] at h; cases h
            | true =>
              rw [hg] at h
              simp only [cond_true, Option.some.injEq] at h
              subst h
              obtain ⟨b, h5, rfl⟩ := hi
              have h5 := h5 trivial
              split at h5
              · rename_i hn
                simp only [Option.some.injEq] at h5
                subst h5
                have := Nat.eq_of_beq_eq_true hg
                subst this
                have hbl : Nat.ble n (xs.map fun y => AV.d (x.U.enc e' y)).length = true := by rw [Nat.ble_eq]; simpa using hn
                simp only [evConvertV, hb, cond_true, liveArr, h3, Nat.beq_refl, cond_true, hbl]
                have := (ok.bytes _ _ _ hby).2 (xs.take n)
                rw [← List.map_take, show (List.map (fun y => AV.d (x.U.enc e' y)) (xs.take n)) = ((xs.take n).map (x.U.enc e')).map AV.d by simp [List.map_map, Function.comp_def], bytesA_D, this]
                exact ⟨_, rfl, rfl⟩
              · cases h5
          · cases h
        · cases h
  · rw [h1.isD rfl]
    cases hb : (x.C.isBytes s' && x.C.isStr t) with
    | false => rw [hb] at h; cases h
    | true =>
      rw [hb] at h
      simp only [cond_true] at h
      split at h
      · rename_i hby
        simp only [Option.some.injEq] at h; subst h; simp only [PR.Is] at hi; subst hi
        simp only [evConvertV, hb, cond_true, (ok.bytes _ _ _ hby).2]
        exact ⟨_, rfl, rfl⟩
      · cases h
  · cases h
end
end Go.Tev
namespace Go.Tev
open Go.Abs

section
variable {x : Cx} {ρ : List Rf} {h0 : Base} {s : TSt x.X} {a : St}

theorem idx_some {i : Int} {n : Nat} (h1 : 0 ≤ i) (h2 : i.toNat < n) : idx i n = some i.toNat := by
  unfold idx
  rw [if_pos ⟨h1, by omega⟩]
theorem getI_some {α : Type} {xs : List α} {i : Int} {y : α} (h : getI xs i = some y) : 0 ≤ i ∧ xs[i.toNat]? = some y ∧ i.toNat < xs.length := by
  unfold getI at h
  split at h
  · rename_i h1; exact ⟨h1, h, (List.getElem?_eq_some_iff.1 h).1⟩
  · cases h
theorem opt_ok (r : Rel x.U ρ h0 s a) {ch : Chain} (hh : holds s ch) {o : Option Operand} {l : Option (TV x.X)} {d m : Int} (h1 : optA s ch o = some l) (h2 : bndT d l = some m) :
    ∃ dl, optD a o = some dl ∧ ((dl = none ∧ m = d) ∨ ∃ k, dl = some (.int k m)) := by
  cases o with
  | none =>
    simp only [optA, Option.some.injEq] at h1
    subst h1
    simp only [bndT, Option.some.injEq] at h2
    exact ⟨none, rfl, .inl ⟨rfl, h2.symm⟩⟩
  | some o =>
    simp only [optA] at h1
    cases h3 : topA s ch o with
    | none => rw [h3] at h1; cases h1
    | some v =>
      rw [h3] at h1
      simp only [Option.some.injEq] at h1
      subst h1
      cases v <;> simp only [bndT] at h2 <;> (try (cases h2; done))
      simp only [Option.some.injEq] at h2
      subst h2
      rename_i k n
      obtain ⟨_, h4, _⟩ := topD_ok r hh h3 (d := .int k n) rfl
      exact ⟨some (.int k n), by simp only [optD, h4], .inr ⟨k, rfl⟩⟩
theorem bound_of {n : Nat} {dl : Option DV} {d : Nat} {m : Int} (h : (dl = none ∧ m = d) ∨ ∃ k, dl = some (.int k m)) (h1 : 0 ≤ m) (h2 : m ≤ n) : bound n d dl = some m.toNat := by
  rcases h with ⟨rfl, rfl⟩ | ⟨k, rfl⟩
  · simp [bound]
  · simp only [bound, if_pos (And.intro h1 h2)]
theorem subL_some {α : Type} {xs ys : List α} {lo hi : Int} (h : subL xs lo hi = some ys) : 0 ≤ lo ∧ lo ≤ hi ∧ hi ≤ xs.length ∧ ys = (xs.take hi.toNat).drop lo.toNat := by
  unfold subL at h
  split at h
  · rename_i h1; simp only [Option.some.injEq] at h; exact ⟨h1.1, h1.2.1, h1.2.2, h.symm⟩
  · cases h
theorem elemT_size {C : Ctx} {t e : Nat} (h : Ctx.elemT C t = some e) : C.elemSize t = C.size e := by
  unfold Ctx.elemT at h
  unfold Abs.Ctx.elemSize Abs.Ctx.size
  split at h
  · rename_i e' he; rw [he]; simp only [Option.some.injEq] at h; subst h; rfl
  · cases h
theorem sizes_enc (ok : x.U.Ok x.C) {e n : Nat} (hc : x.U.csz e = some n) (xs : List (x.X e)) : sizesOk n (xs.map (x.U.enc e)) = true := by
  induction xs with
  | nil => rfl
  | cons y xs ih => simp only [List.map_cons, sizesOk, ih, Bool.and_true, Nat.beq_eq]; exact ok.csz _ _ _ hc
theorem sizes_take {n : Nat} : ∀ {l : List DV} (m : Nat), sizesOk n l = true → sizesOk n (l.take m) = true
  | [], m, _ => by simp [sizesOk]
  | v :: l, 0, _ => rfl
  | v :: l, m + 1, h => by
    simp only [sizesOk, Bool.and_eq_true] at h
    simp only [List.take_succ_cons, sizesOk, Bool.and_eq_true]
    exact ⟨h.1, sizes_take m h.2⟩
theorem slice_ok (ok : x.U.Ok x.C) (r : Rel x.U ρ h0 s a) {ch : Chain} (hh : holds s ch) {t : Nat} {lo hi : Option Operand} {l h : Option (TV x.X)} {u w : TV x.X} {pr : PR (TV x.X)} {e : DV} (hu : u.dv x.U = some e)
    (h1 : optA s ch lo = some l) (h2 : optA s ch hi = some h) (h3 : sliceT x t l h u = some pr) (hi' : PR.Is True pr w) :
    ∃ dl dh d, optD a lo = some dl ∧ optD a hi = some dh ∧ evSlice x.C t e dl dh = some d ∧ w.dv x.U = some d := by
  unfold sliceT at h3
  split at h3
  · rename_i b
    cases hu
    cases hb : x.C.isStr t with
    | false => rw [hb] at h3; cases h3
    | true =>
      rw [hb] at h3
      simp only [cond_true] at h3
      split at h3
      · rename_i m n hm hn
        simp only [Option.some.injEq] at h3
        subst h3
        obtain ⟨y, h4, rfl⟩ := hi'
        obtain ⟨g1, g2, g3, rfl⟩ := subL_some (h4 trivial)
        obtain ⟨dl, k1, k2⟩ := opt_ok r hh h1 hm
        obtain ⟨dh, k3, k4⟩ := opt_ok r hh h2 hn
        refine ⟨dl, dh, _, k1, k3, ?_, rfl⟩
        simp only [evSlice, hb, cond_true, bound_of (d := b.length) (by simpa using k4) (by omega) g3, bound_of (n := n.toNat) (d := 0) (by simpa using k2) g1 (by omega)]
      · cases h3
  · rename_i e' xs
    cases hu
    split at h3
    · rename_i e2 m n he hm hn
      cases hb : Nat.beq e' e2 with
      | false => rw [hb] at h3; cases h3
      | true =>
        rw [hb] at h3
        have := Nat.eq_of_beq_eq_true hb
        subst this
        simp only [cond_true] at h3
        split at h3
        · rename_i sz hsz
          simp only [Option.some.injEq] at h3
          subst h3
          obtain ⟨y, h4, rfl⟩ := hi'
          obtain ⟨g1, g2, g3, rfl⟩ := subL_some (h4 trivial)
          obtain ⟨dl, k1, k2⟩ := opt_ok r hh h1 hm
          obtain ⟨dh, k3, k4⟩ := opt_ok r hh h2 hn
          refine ⟨dl, dh, _, k1, k3, ?_, rfl⟩
          cases hes : x.C.elemSize t with
          | none => rw [hes] at hsz; simp at hsz
          | some sz' =>
            have hcs : x.U.csz e' = some sz' := by
              rw [hes] at hsz
              simp only at hsz
              split at hsz
              · rename_i n' hn'
                cases hbb : Nat.beq n' sz' with
                | false => rw [hbb] at hsz; cases hsz
                | true => rw [hn', Nat.eq_of_beq_eq_true hbb]
              · cases hsz
            simp only [evSlice, hes, bound_of (n := (xs.map (x.U.enc e')).length) (d := (xs.map (x.U.enc e')).length) (by simpa using k4) (by omega) (by simpa using g3),
              bound_of (n := n.toNat) (d := 0) (by simpa using k2) g1 (by omega), sizes_take 1 (sizes_enc ok hcs xs), cond_true, List.map_drop, List.map_take]
        · cases h3
    · cases h3
  · cases h3
theorem check_ok {y z : TX x.X} {u : XV} (h1 : XRel x.U ρ y u) (h : checkT y = some z) : ∃ w, evCheck u = some w ∧ XRel x.U ρ z w := by
  cases h1 with
  | a v w hv =>
    cases v <;> simp only [checkT] at h <;> (try (cases h; done))
    simp only [Option.some.injEq] at h; subst h
    cases hv with
    | d v d hd => simp [TV.dv] at hd
    | ptr j i off hj => exact ⟨_, rfl, .a _ _ (.ptr _ _ _ hj)⟩
  | sp => simp only [checkT, Option.some.injEq] at h; subst h; exact ⟨_, rfl, .sp _ _⟩
  | fp cs ds hd => simp only [checkT, Option.some.injEq] at h; subst h; exact ⟨_, rfl, .fp _ _ hd⟩
  | ap j i g e n off hj => simp only [checkT, Option.some.injEq] at h; subst h; exact ⟨_, rfl, .ap _ _ _ _ _ _ hj⟩
  | own => simp [checkT] at h
  | al => simp [checkT] at h
  | un => simp [checkT] at h
theorem fieldAddr_ok {t f : Nat} {y z : TX x.X} {u : XV} (h1 : XRel x.U ρ y u) (h : fieldAddrT x t f y = some z) : ∃ w, evFieldAddr x.C t f u = some w ∧ XRel x.U ρ z w := by
  unfold fieldAddrT at h
  unfold evFieldAddr
  split at h
  · cases h
  · rename_i fd hfd
    rw [hfd]
    simp only
    cases hs : x.C.hasSize fd.type with
    | false => rw [hs] at h; cases h
    | true =>
      rw [hs] at h
      simp only [cond_true] at h ⊢
      cases h1 with
      | a v w hv =>
        cases v <;> simp only at h <;> (try (cases h; done))
        simp only [Option.some.injEq] at h; subst h
        cases hv with
        | d v d hd => simp [TV.dv] at hd
        | ptr j i off hj => exact ⟨_, rfl, .a _ _ (.ptr _ _ _ hj)⟩
      | sp => simp only [Option.some.injEq] at h; subst h; exact ⟨_, rfl, .sp _ _⟩
      | fp cs ds hd =>
        simp only at h ⊢
        rw [dvL_length hd] at h
        cases hb : Nat.ble fd.offset ds.length with
        | false => rw [hb] at h; cases h
        | true =>
          rw [hb] at h
          simp only [cond_true, Option.some.injEq] at h ⊢
          subst h
          exact ⟨_, rfl, .fp _ _ (dvL_drop hd _)⟩
      | ap j i g e n off hj => simp only [Option.some.injEq] at h; subst h; exact ⟨_, rfl, .ap _ _ _ _ _ _ hj⟩
      | own => simp at h
      | al => simp at h
      | un => simp at h
theorem field_ok (ok : x.U.Ok x.C) {t f : Nat} {v w : TV x.X} {d : DV} (hd : v.dv x.U = some d) (h : fieldT x t f v = some w) : ∃ e, evField x.C t f d = some e ∧ w.dv x.U = some e := by
  unfold fieldT at h
  unfold evField
  split at h
  · cases h
  · rename_i fd hfd
    rw [hfd]
    simp only
    split at h
    · rename_i ty y
      split at h
      · rename_i g hg
        cases hag : x.C.isAgg ty with
        | none => rw [hag] at h; cases h
        | some b =>
          cases b with
          | false => rw [hag] at h; cases h
          | true =>
            rw [hag] at h
            simp only at h
            cases hd
            have h1 := ok.agg _ g y hag hg
            obtain ⟨e, h2, h3⟩ := ld_ok ok (dvL_drop (ok.cells _ _ y hg) fd.offset) h
            rw [h1]
            exact ⟨e, h2, h3⟩
      · cases h
    · rename_i cs
      simp only [TV.dv, Option.map_eq_some_iff] at hd
      obtain ⟨ds, h1, rfl⟩ := hd
      obtain ⟨e, h2, h3⟩ := ld_ok ok (dvL_drop h1 fd.offset) h
      exact ⟨e, h2, h3⟩
    · cases h
theorem indexAddr_ok (ok : x.U.Ok x.C) (r : Rel x.U ρ h0 s a) {t : Nat} {v : TV x.X} {vw : AV} {i : Int} {y : TX x.X} {pr : PR (Option (TX x.X))} (hv : VRel x.U ρ v vw)
    (h : indexAddrT x s.heap t v i = some pr) (hi : PR.Is True pr (some y)) : ∃ w, evIndexAddr x.C t a vw i = some w ∧ XRel x.U ρ y w := by
  unfold indexAddrT at h
  split at h
  · rename_i e' sz he hsz
    split at h
    · rename_i e xs
      split at h
      · rename_i f sz' hf hcs
        cases hb : (Nat.beq e e' && Nat.beq sz sz') with
        | false => rw [hb] at h; cases h
        | true =>
          rw [hb] at h
          simp only [cond_true, Option.some.injEq] at h
          subst h
          simp only [Bool.and_eq_true, Nat.beq_eq] at hb
          obtain ⟨rfl, rfl⟩ := hb
          obtain ⟨z, h1, h2⟩ := hi
          simp only [Option.some.injEq] at h2
          subst h2
          obtain ⟨g1, g2, g3⟩ := getI_some (h1 trivial)
          rw [hv.isD rfl]
          have hl : Nat.beq (x.U.enc e z).cells.length sz = true := by rw [Nat.beq_eq]; exact ok.csz _ _ _ hcs
          simp only [evIndexAddr, hsz, List.length_map, idx_some g1 g3, List.getElem?_map, g2, Option.map_some, hl, cond_true]
          exact ⟨_, rfl, .fp _ _ (ok.cells _ _ _ hf)⟩
      · cases h
    · rename_i j g e n
      split at h
      · rename_i g' ap e2 xs hh
        split at h
        · rename_i sz' hcs
          cases hb : (Nat.beq e e' && Nat.beq e e2 && Nat.beq g g' && Nat.beq sz sz') with
          | false => rw [hb] at h; cases h
          | true =>
            rw [hb] at h
            simp only [cond_true, Option.some.injEq] at h
            subst h
            simp only [Bool.and_eq_true, Nat.beq_eq] at hb
            obtain ⟨⟨⟨rfl, rfl⟩, rfl⟩, rfl⟩ := hb
            obtain ⟨k, h1, h2⟩ := hi
            simp only [Option.some.injEq] at h2
            subst h2
            have h1 := h1 trivial
            split at h1
            · rename_i hcond
              simp only [Option.some.injEq] at h1
              subst h1
              cases hv with
              | d v d hd => simp [TV.dv] at hd
              | osl _ i' _ _ _ hj =>
                obtain ⟨ao, h3, h4⟩ := obj_ok r.heap hh hj
                cases h4
                have hbb : ∀ m, Nat.beq m m = true := fun m => by simp
                have hk : i.toNat < xs.length := by omega
                have hl : Nat.beq (AV.d (x.U.enc e xs[i.toNat])).cells.length sz = true := by
                  rw [Nat.beq_eq, show (AV.d (x.U.enc e xs[i.toNat])).cells.length = (x.U.enc e xs[i.toNat]).cells.length by
                    cases x.U.enc e xs[i.toNat] <;> simp [AV.cells, DV.cells]]
                  exact ok.csz _ _ _ hcs
                simp only [evIndexAddr, hsz, liveArr, h3, hbb, cond_true, idx_some hcond.1 (show i.toNat < n by omega), List.getElem?_map, List.getElem?_eq_getElem hk, Option.map_some, hl]
                exact ⟨_, rfl, .ap _ _ _ _ _ _ hj⟩
            · cases h1
        · cases h
      · cases h
    · cases h
  · cases h
theorem index_ok {t : Nat} {v w : TV x.X} {d : DV} {i : Int} {pr : PR (TV x.X)} (hd : v.dv x.U = some d) (h : indexT x t v i = some pr) (hi : PR.Is True pr w) : ∃ e, evIndex x.C t d i = some e ∧ w.dv x.U = some e := by
  unfold indexT at h
  split at h
  · cases hd
    cases hb : x.C.isStr t with
    | false => rw [hb] at h; cases h
    | true =>
      rw [hb] at h
      simp only [cond_true, Option.some.injEq] at h
      subst h
      obtain ⟨c, h1, rfl⟩ := hi
      obtain ⟨g1, g2, g3⟩ := getI_some (h1 trivial)
      simp only [evIndex, hb, cond_true, idx_some g1 g3, g2]
      exact ⟨_, rfl, rfl⟩
  · cases h
theorem extract_ok {v w : TV x.X} {u : AV} {i : Nat} (hv : VRel x.U ρ v u) (h : extractT v i = some w) : ∃ y, evExtract u i = some y ∧ VRel x.U ρ w y := by
  cases v <;> simp only [extractT] at h <;> (try (cases h; done))
  rename_i vs
  cases hv with
  | d v d hd =>
    simp only [TV.dv, Option.map_eq_some_iff] at hd
    obtain ⟨ds, h1, rfl⟩ := hd
    obtain ⟨e, h2, h3⟩ := dvL_get h1 i w h
    exact ⟨.d e, by simp only [evExtract, h2, Option.map_some], .d _ _ h3⟩
  | tup vs as hl hh =>
    have hi : i < vs.length := (List.getElem?_eq_some_iff.1 h).1
    have hi' : i < as.length := by omega
    have h1 := hh i _ _ h (List.getElem?_eq_getElem hi')
    unfold mkTup
    cases had : allD as with
    | some ds =>
      have : as = ds.map .d := by
        clear hh h1 hi hi' hl
        unfold allD at had
        induction as generalizing ds with
        | nil => simp only [mapO, Option.some.injEq] at had; subst had; rfl
        | cons b as ih =>
          simp only [mapO] at had
          cases b <;> simp only [AV.toD] at had <;> (try (cases had; done))
          split at had
          · rename_i ys hys
            simp only [Option.some.injEq] at had
            subst had
            rw [ih ys hys]; rfl
          · cases had
      subst this
      have hi2 : i < ds.length := by simpa using hi'
      refine ⟨.d ds[i], by simp only [evExtract, List.getElem?_eq_getElem hi2, Option.map_some], ?_⟩
      simpa using h1
    | none =>
      exact ⟨as[i], by simp only [evExtract, List.getElem?_eq_getElem hi'], h1⟩
end
end Go.Tev
namespace Go.Tev
open Go.Abs

/-- what a callee answers -/
def Meets (U : Uni) (call : CallT) (f : FuncId) (c : TCall U.X) : Prop := ∀ vs a r ds h, prjA U c.ak vs = some a → dvL U vs = some ds → c.fn a = some r → resT U c.rts = some h →
  ∃ d, (h r).dv U = some d ∧ callD call (!c.dir) f ds = some d

theorem callD_frz {call : CallT} {b : Bool} {f : FuncId} {ds : List DV} {d : DV} (h : callD call b f ds = some d) : callD call true f ds = some d := by
  cases b with
  | true => exact h
  | false =>
    unfold callD at h ⊢
    split at h
    · exact h
    · cases h
    · cases h
section
variable {x : Cx} {ρ : List Rf} {h0 : Base} {s : TSt x.X} {a : St}

theorem mfind_ok (ok : x.U.Ok x.C) {kt vt : Nat} {γ : Type} (hk : x.U.isKey kt = true) (key : x.X kt) (f : x.X vt → γ) (es : List (x.X kt × x.X vt)) :
    mfind (x.U.enc kt key) (es.map fun p => (x.U.enc kt p.1, f p.2)) = some ((mget (x.U.keq kt) key es).map f) := by
  induction es with
  | nil => rfl
  | cons p es ih =>
    obtain ⟨k', v⟩ := p
    simp only [List.map_cons, mfind, ok.keq kt key k' hk, mget]
    cases x.U.keq kt key k' with
    | true => rfl
    | false => simpa using ih
theorem mapZ {C : Abs.Ctx} {t kt vt : Nat} {z : DV} (h1 : Ctx.mapT C t = some (kt, vt)) (h2 : C.mapZero t = some z) : C.zero vt = some z := by
  unfold Ctx.mapT at h1
  unfold Abs.Ctx.mapZero at h2
  unfold Abs.Ctx.zero
  split at h1
  · rename_i k v he
    rw [he] at h2
    simp only [Option.some.injEq, Prod.mk.injEq] at h1
    obtain ⟨rfl, rfl⟩ := h1
    simp only at h2
    cases hi : C.P.info? v with
    | none => rw [hi] at h2; split at h2 <;> simp at h2
    | some i => rw [hi] at h2; split at h2 <;> simp at h2 <;> simp [h2]
  · cases h1
theorem mkTup2 (d e : DV) : mkTup [.d d, .d e] = .d (.tup [d, e]) := rfl
theorem look_res (ok : x.U.Ok x.C) {vt : Nat} {inj : x.X vt → TV x.X} (hi : x.U.inj vt = some inj) {z : DV} (hz : x.C.zero vt = some z) (hd : x.U.dok vt = true) (r : Option (x.X vt)) (b : Bool) :
    VRel x.U ρ (bif b then .tup [inj (mgetD (x.U.dflt vt) r), .b r.isSome] else inj (mgetD (x.U.dflt vt) r))
      (match r.map fun y => AV.d (x.U.enc vt y) with
       | some v => bif b then mkTup [v, .d (.bool true)] else v
       | none => .d (bif b then .tup [z, .bool false] else z)) := by
  have h1 := fun y => ok.inj vt inj y hi
  have h2 := ok.dok vt hd
  rw [hz] at h2
  simp only [Option.some.injEq] at h2
  cases r with
  | none =>
    cases b
    · exact .d _ _ (by simp only [cond_false, mgetD, h1, h2])
    · exact .d _ _ (by simp only [cond_true, mgetD, TV.dv, dvL, h1, h2]; rfl)
  | some y =>
    cases b
    · exact .d _ _ (by simp only [cond_false, mgetD, h1])
    · simp only [Option.map_some, cond_true, mkTup2]
      exact .d _ _ (by simp only [mgetD, TV.dv, dvL, h1]; rfl)
theorem look_ok (ok : x.U.Ok x.C) (r : Rel x.U ρ h0 s a) {t : Nat} {v k w : TV x.X} {vw : AV} {d : DV} {b : Bool} (hv : VRel x.U ρ v vw) (hk : k.dv x.U = some d) (h : lookT x t s.heap v k b = some w) :
    ∃ y, evLookup x.C t a.heap vw d b = some y ∧ VRel x.U ρ w y := by
  unfold lookT at h
  split at h
  · rename_i kt vt z hm hz
    split at h
    · rename_i key inj hp hinj
      cases hb : (x.U.isKey kt && x.U.dok vt && x.C.keyOk t (x.U.enc kt key)) with
      | false => rw [hb] at h; cases h
      | true =>
        rw [hb] at h
        simp only [cond_true] at h
        simp only [Bool.and_eq_true] at hb
        obtain ⟨⟨hik, hdok⟩, hko⟩ := hb
        have hdk := ok.prj _ _ _ hp
        rw [hk] at hdk
        simp only [Option.some.injEq] at hdk
        subst hdk
        have hz' := mapZ hm hz
        unfold evLookup
        rw [hz]
        simp only [hko, cond_true]
        split at h
        · rename_i r1 hr
          simp only [Option.some.injEq] at h
          subst h
          have hres := look_res (ρ := ρ) ok hinj hz' hdok r1 b
          split at hr
          · simp only [Option.some.injEq] at hr
            subst hr
            rw [hv.isD rfl]
            exact ⟨_, rfl, hres⟩
          · rename_i kt' vt' es
            split at hr
            · rename_i es1 h1
              obtain ⟨he, h1⟩ := castX_ok h1
              subst he
              simp only at h1
              subst h1
              split at hr
              · rename_i es2 h2
                obtain ⟨he, h2⟩ := castX_ok h2
                subst he
                simp only at h2
                subst h2
                simp only [Option.some.injEq] at hr
                subst hr
                rw [hv.isD rfl]
                simp only [mfind_ok ok hik key (x.U.enc vt') es, Option.map_some]
                refine ⟨_, ?_, hres⟩
                cases mget (x.U.keq kt') key es <;> rfl
              · cases hr
            · cases hr
          · rename_i j
            split at hr
            · rename_i kt' vt' es hh
              split at hr
              · rename_i es1 h1
                obtain ⟨he, h1⟩ := castX_ok h1
                subst he
                simp only at h1
                subst h1
                split at hr
                · rename_i es2 h2
                  obtain ⟨he, h2⟩ := castX_ok h2
                  subst he
                  simp only at h2
                  subst h2
                  simp only [Option.some.injEq] at hr
                  subst hr
                  cases hv with
                  | d v d hd => simp [TV.dv] at hd
                  | mp _ i hj =>
                    obtain ⟨ao, h3, h4⟩ := obj_ok r.heap hh hj
                    cases h4
                    simp only [h3, mfind_ok ok hik key (fun y => AV.d (x.U.enc vt' y)) es]
                    refine ⟨_, ?_, hres⟩
                    cases mget (x.U.keq kt') key es <;> rfl
                · cases hr
              · cases hr
            · cases hr
          · cases hr
        · cases h
    · cases h
  · cases h

/-! merged -/
theorem merge_ok (ok : x.U.Ok x.C) {t : Nat} {c : Bool} {u v w : TV x.X} {uw vw : AV} {pr : PR (TV x.X)} (h1 : c = true → VRel x.U ρ u uw) (h2 : c = false → VRel x.U ρ v vw) (h : mergeV x t c u v = some pr) (hi : PR.Is True pr w) :
    VRel x.U ρ w (bif c then uw else vw) := by
  have key : (c = true → ∀ z, VRel x.U ρ u z → VRel x.U ρ w z) ∧ (c = false → ∀ z, VRel x.U ρ v z → VRel x.U ρ w z) := by
    have same : ∀ {p q : TV x.X}, p.dv x.U = q.dv x.U → (q.dv x.U).isSome = true → ∀ z, VRel x.U ρ q z → VRel x.U ρ p z := by
      intro p q hpq hs z hz
      obtain ⟨d, hd⟩ := Option.isSome_iff_exists.1 hs
      rw [hz.isD hd]
      exact .d _ _ (by rw [hpq, hd])
    have refs : ∀ {j g e n g' e' n' : Nat}, g = g' → n = n' → ∀ z, VRel x.U ρ (.osl j g e n) z → VRel x.U ρ (.osl j g' e' n') z := by
      intro j g e n g' e' n' h1 h2 z hz
      subst h1 h2
      cases hz with
      | d v d hd => simp [TV.dv] at hd
      | osl _ i _ _ _ hj => exact .osl _ _ _ _ _ hj
    unfold mergeV at h
    split at h <;> (try (cases h; done))
    · simp only [Option.some.injEq] at h; subst h; obtain ⟨b, hb, rfl⟩ := hi; have := hb trivial; simp only [Option.some.injEq] at this; subst this
      constructor <;> (rintro rfl; exact same rfl rfl)
    · rename_i k p k' q
      cases hk : decide (k = k') with
      | false => rw [hk] at h; cases h
      | true =>
        rw [hk] at h; have hk := of_decide_eq_true hk; subst hk
        simp only [cond_true, Option.some.injEq] at h; subst h; obtain ⟨b, hb, rfl⟩ := hi; have := hb trivial; simp only [Option.some.injEq] at this; subst this
        constructor <;> (rintro rfl; exact same rfl rfl)
    · simp only [Option.some.injEq] at h; subst h; obtain ⟨b, hb, rfl⟩ := hi; have := hb trivial; simp only [Option.some.injEq] at this; subst this
      constructor <;> (rintro rfl; exact same rfl rfl)
    · split at h
      · rename_i y hy
        obtain ⟨he, hy⟩ := castX_ok hy
        subst he
        simp only at hy
        subst hy
        simp only [Option.some.injEq] at h; subst h; obtain ⟨b, hb, rfl⟩ := hi; have := hb trivial; simp only [Option.some.injEq] at this; subst this
        constructor <;> (rintro rfl; exact same rfl rfl)
      · cases h
    · split at h
      · rename_i y hy
        obtain ⟨he, hy⟩ := castL_ok hy
        subst he
        simp only at hy
        subst hy
        simp only [Option.some.injEq] at h; subst h; obtain ⟨b, hb, rfl⟩ := hi; have := hb trivial; simp only [Option.some.injEq] at this; subst this
        constructor <;> (rintro rfl; exact same rfl rfl)
      · cases h
    · simp only [Option.some.injEq] at h; subst h; obtain ⟨b, hb, rfl⟩ := hi; have := hb trivial; simp only [Option.some.injEq] at this; subst this
      constructor <;> (rintro rfl; exact same rfl rfl)
    · simp only [Option.some.injEq] at h; subst h; obtain ⟨b, hb, rfl⟩ := hi; have := hb trivial; simp only [Option.some.injEq] at this; subst this
      constructor <;> (rintro rfl; exact same rfl rfl)
    · simp only [Option.some.injEq] at h; subst h; simp only [PR.Is] at hi; subst hi; exact ⟨fun _ z h => h, fun _ z h => h⟩
    · simp only [Option.some.injEq] at h; subst h; simp only [PR.Is] at hi; subst hi; exact ⟨fun _ z h => h, fun _ z h => h⟩
    · simp only [Option.some.injEq] at h; subst h; simp only [PR.Is] at hi; subst hi; exact ⟨fun _ z h => h, fun _ z h => h⟩
    · rename_i j o j' o'
      cases hb : (Nat.beq j j' && Nat.beq o o') with
      | false => rw [hb] at h; cases h
      | true =>
        rw [hb] at h
        simp only [Bool.and_eq_true, Nat.beq_eq] at hb
        obtain ⟨rfl, rfl⟩ := hb
        simp only [cond_true, Option.some.injEq] at h; subst h; simp only [PR.Is] at hi; subst hi; exact ⟨fun _ z h => h, fun _ z h => h⟩
    · rename_i j j'
      cases hb : Nat.beq j j' with
      | false => rw [hb] at h; cases h
      | true =>
        rw [hb] at h
        rw [Nat.beq_eq] at hb
        subst hb
        simp only [cond_true, Option.some.injEq] at h; subst h; simp only [PR.Is] at hi; subst hi; exact ⟨fun _ z h => h, fun _ z h => h⟩
    · rename_i j g e n j' g' e' n'
      cases hb : (Nat.beq j j' && Nat.beq g g' && Nat.beq e e') with
      | false => rw [hb] at h; cases h
      | true =>
        rw [hb] at h
        simp only [Bool.and_eq_true, Nat.beq_eq] at hb
        obtain ⟨⟨rfl, rfl⟩, rfl⟩ := hb
        simp only [cond_true, Option.some.injEq] at h; subst h; obtain ⟨b, hb, rfl⟩ := hi; have := hb trivial; simp only [Option.some.injEq] at this; subst this
        constructor <;> (rintro rfl; exact refs rfl rfl)
  cases c with
  | true => exact key.1 rfl _ (h1 rfl)
  | false => exact key.2 rfl _ (h2 rfl)

/-! cells -/
theorem prim_dv : ∀ {cs : List (TV x.X)}, cs.all isPrim = true → ∃ ds, dvL x.U cs = some ds
  | [], _ => ⟨[], rfl⟩
  | c :: cs, h => by
    simp only [List.all_cons, Bool.and_eq_true] at h
    obtain ⟨ds, hd⟩ := prim_dv h.2
    have : ∃ d, c.dv x.U = some d := by
      have h1 := h.1
      cases c <;> simp only [isPrim] at h1 <;> (try (cases h1; done)) <;> exact ⟨_, rfl⟩
    obtain ⟨d, h1⟩ := this
    exact ⟨d :: ds, dvL_mk h1 hd⟩
theorem isD_dv (ok : x.U.Ok x.C) {v : TV x.X} (h : isD v = true) : ∃ d, v.dv x.U = some d ∧ d.cellOk = true := by
  cases v <;> simp only [isD] at h <;> (try (cases h; done)) <;> (try (exact ⟨_, rfl, rfl⟩))
  · exact ⟨_, rfl, ok.ok _ _⟩
  · obtain ⟨ds, hd⟩ := prim_dv h
    exact ⟨.agg ds, by simp only [TV.dv, hd, Option.map_some], rfl⟩
  · rename_i f caps
    cases caps with
    | nil => exact ⟨_, rfl, rfl⟩
    | cons => simp [isD] at h
theorem vcells_dv (ok : x.U.Ok x.C) {v : TV x.X} {cs : List (TV x.X)} {d : DV} (hd : v.dv x.U = some d) (h : x.vcells v = some cs) : dvL x.U cs = some d.cells := by
  unfold Cx.vcells at h
  split at h
  · rename_i ty y
    split at h
    · rename_i f hf
      simp only [Option.some.injEq] at h
      subst h
      cases hd
      exact ok.cells _ _ _ hf
    · cases h
  · rename_i cs'
    simp only [Option.some.injEq] at h
    subst h
    simp only [TV.dv, Option.map_eq_some_iff] at hd
    obtain ⟨ds, h1, rfl⟩ := hd
    exact h1
  · cases h
  · simp only [Option.some.injEq] at h
    subst h
    rename_i n1 n2 n3
    have : d.cells = [d] := by
      cases v <;> simp only [TV.dv] at hd <;> (try (cases hd; done)) <;> (try (simp only [Option.some.injEq] at hd; subst hd; rfl)) <;> (try (exact absurd rfl (n1 _ _))) <;> (try (exact absurd rfl (n2 _))) <;> (try (exact absurd rfl (n3 _)))
      simp only [Option.map_eq_some_iff] at hd
      obtain ⟨ds, h1, rfl⟩ := hd
      rfl
    rw [this]
    exact dvL_mk hd rfl
theorem av_cells (d : DV) : (AV.d d).cells = d.cells.map .d := by cases d <;> rfl
theorem load_ok (ok : x.U.Ok x.C) (r : Rel x.U ρ h0 s a) {t : Nat} {p y : TX x.X} {pw : XV} {pr : PR (Option (TX x.X))} (hp : XRel x.U ρ p pw) (h : loadT x t s p = some pr) (hi : PR.Is True pr (some y)) :
    ∃ w, evLoad x.C t a pw = some w ∧ XRel x.U ρ y (.a w) := by
  have fin : ∀ {cs : List (TV x.X)} {ds : List DV}, dvL x.U cs = some ds → ∀ off, (x.ld t (cs.drop off)).map TX.a = some y → ∃ d, ldCells x.C t (ds.drop off) = some d ∧ XRel x.U ρ y (.a (.d d)) := by
    intro cs ds hd off hl
    simp only [Option.map_eq_some_iff] at hl
    obtain ⟨v, h1, rfl⟩ := hl
    obtain ⟨d, h2, h3⟩ := ld_ok ok (dvL_drop hd off) h1
    exact ⟨d, h2, .a _ _ (.d _ _ h3)⟩
  cases hp with
  | a v w hv =>
    cases v <;> simp only [loadT] at h <;> (try (cases h; done))
    cases hv with
    | d v d hd => simp [TV.dv] at hd
    | ptr _ i _ hj =>
      split at h
      · rename_i cs hh
        simp only [Option.some.injEq] at h
        subst h
        simp only [PR.Is] at hi
        obtain ⟨ao, h3, h4⟩ := obj_ok r.heap hh hj
        cases h4 with
        | var cs as hvr =>
          have hi := hi.symm
          simp only [Option.map_eq_some_iff] at hi
          obtain ⟨v, h1, rfl⟩ := hi
          obtain ⟨w, h5, h6⟩ := ldA_ok ok (hvr.drop _) h1
          exact ⟨w, by simp only [evLoad, h3, h5], .a _ _ h6⟩
      · cases h
  | sp k off =>
    simp only [loadT] at h
    split at h
    · rename_i cs hb
      simp only [Option.some.injEq] at h
      subst h
      simp only [PR.Is] at hi
      obtain ⟨w, h1, h2⟩ := r.env _ _ hb
      cases h2 with
      | box cs ds hd =>
        obtain ⟨d, h3, h4⟩ := fin hd off hi.symm
        exact ⟨.d d, by simp only [evLoad, h1, h3, Option.map_some], h4⟩
    · cases h
  | fp cs ds hd =>
    simp only [loadT, Option.some.injEq] at h
    subst h
    simp only [PR.Is] at hi
    obtain ⟨d, h3, h4⟩ := fin hd 0 (by simpa using hi.symm)
    exact ⟨.d d, by simp only [evLoad, List.drop_zero] at h3 ⊢; simp only [h3, Option.map_some], h4⟩
  | ap j i g e n off hj =>
    simp only [loadT] at h
    split at h
    · rename_i g' ap e' xs hh
      cases hg : Nat.beq g' g with
      | false => rw [hg] at h; cases h
      | true =>
        rw [hg] at h
        simp only [cond_true] at h
        split at h
        · rename_i ys f hc hf
          obtain ⟨he, hc⟩ := castL_ok hc
          subst he
          simp only at hc
          subst hc
          simp only [Option.some.injEq] at h
          subst h
          obtain ⟨z, h1, h2⟩ := hi
          have h1 := h1 trivial
          have h2 := h2.symm
          simp only [Option.map_eq_some_iff] at h2
          obtain ⟨v, h5, rfl⟩ := h2
          obtain ⟨ao, h3, h4⟩ := obj_ok r.heap hh hj
          cases h4
          obtain ⟨w, h6, h7⟩ := ldA_ok (ρ := ρ) ok ((VRels.of_dvL (ok.cells _ _ z hf)).drop off) h5
          have hge := Nat.eq_of_beq_eq_true hg
          subst hge
          exact ⟨w, by simp only [evLoad, liveArr, h3, Nat.beq_refl, cond_true, List.getElem?_map, h1, Option.map_some, av_cells, h6], .a _ _ h7⟩
        · cases h
    · cases h
  | own => simp [loadT] at h
  | al => simp [loadT] at h
  | un => simp [loadT] at h
end
end Go.Tev
namespace Go.Tev
open Go.Abs

section
variable {x : Cx} {ρ : List Rf} {h0 : Base} {s : TSt x.X} {a : St}

theorem parts_ok (ok : x.U.Ok x.C) (r : Rel x.U ρ h0 s a) {ch : Chain} (hh : holds s ch) {f : Nat → Option (Nat × Nat)} : ∀ {ps : List (Nat × Operand)} {l : List (Nat × List (TV x.X))} {cells cs : List (TV x.X)} {ds : List DV},
    buildParts x s ch ps = some l → fillT f cells l = some cs → dvL x.U cells = some ds → ∃ vs ds', evParts a ps = some vs ∧ fillD f ds vs = some ds' ∧ dvL x.U cs = some ds'
  | [], l, cells, cs, ds, h1, h2, h3 => by
    simp only [buildParts, Option.some.injEq] at h1
    subst h1
    simp only [fillT, Option.some.injEq] at h2
    subst h2
    exact ⟨[], ds, rfl, rfl, h3⟩
  | (i, o) :: ps, l, cells, cs, ds, h1, h2, h3 => by
    simp only [buildParts] at h1
    split at h1
    · rename_i v hv
      cases hd : isD v with
      | false => rw [hd] at h1; cases h1
      | true =>
        rw [hd] at h1
        simp only [cond_true] at h1
        split at h1
        · rename_i vs hvs
          split at h1
          · rename_i l' hl
            simp only [Option.some.injEq] at h1
            subst h1
            obtain ⟨d, hd1, hd2⟩ := isD_dv ok hd
            have hc := vcells_dv ok hd1 hvs
            simp only [fillT] at h2
            split at h2
            · rename_i off size hf
              cases hb : Nat.beq vs.length size with
              | false => rw [hb] at h2; cases h2
              | true =>
                rw [hb] at h2
                simp only [cond_true] at h2
                split at h2
                · rename_i c hsp
                  obtain ⟨ds1, h4, h5⟩ := dvL_splice h3 hc hsp
                  obtain ⟨ws, ds', h6, h7, h8⟩ := parts_ok ok r hh hl h2 h5
                  obtain ⟨_, h9, _⟩ := topD_ok r hh hv hd1
                  refine ⟨(i, d) :: ws, ds', by simp only [evParts, h9, h6], ?_, h8⟩
                  rw [dvL_length hc] at hb
                  simp only [fillD, hf, hb, hd2, Bool.and_self, cond_true, h4, h7]
                · cases h2
            · cases h2
          · cases h1
        · cases h1
    · cases h1
theorem elems_ok (ok : x.U.Ok x.C) (r : Rel x.U ρ h0 s a) {ch : Chain} (hh : holds s ch) {e sz : Nat} (hc : x.U.csz e = some sz) : ∀ {ps : List (Nat × Operand)} {k : Nat} {ys : List (x.X e)},
    elemsT x e k ps s ch = some ys → ∃ vs, evParts a ps = some vs ∧ evElems sz k vs = some (ys.map (x.U.enc e))
  | [], k, ys, h => by
    simp only [elemsT, Option.some.injEq] at h
    subst h
    exact ⟨[], rfl, rfl⟩
  | (i, o) :: ps, k, ys, h => by
    simp only [elemsT] at h
    cases hb : Nat.beq i k with
    | false => rw [hb] at h; cases h
    | true =>
      rw [hb] at h
      simp only [cond_true] at h
      split at h
      · rename_i v hv
        split at h
        · rename_i y hy
          split at h
          · rename_i ys' hys
            simp only [Option.some.injEq] at h
            subst h
            have hd := ok.prj _ _ _ hy
            obtain ⟨_, h1, _⟩ := topD_ok r hh hv hd
            obtain ⟨vs, h2, h3⟩ := elems_ok ok r hh hc hys
            have hl : Nat.beq (x.U.enc e y).cells.length sz = true := by rw [Nat.beq_eq]; exact ok.csz _ _ _ hc
            exact ⟨(i, x.U.enc e y) :: vs, by simp only [evParts, h1, h2], by simp only [evElems, hb, hl, ok.ok, Bool.and_self, cond_true, h3, List.map_cons]⟩
          · cases h
        · cases h
      · cases h
theorem cszIs_ok {U : Uni} {e sz : Nat} (h : cszIs U e sz = true) : U.csz e = some sz := by
  unfold cszIs at h
  split at h
  · rename_i n hn; rw [hn, Nat.eq_of_beq_eq_true h]
  · cases h
theorem buildSlice_ok (ok : x.U.Ok x.C) (r : Rel x.U ρ h0 s a) {ch : Chain} (hh : holds s ch) {t n : Nat} {ps : List (Nat × Operand)} {e : Nat} {ys : List (x.X e)} (h : buildSliceT x t n s ch ps = some ⟨e, ys⟩) :
    evBuildSlice x.C t n a ps = some (ys.map (x.U.enc e)) := by
  unfold buildSliceT at h
  split at h
  · rename_i e' sz he hsz
    split at h
    · rename_i zs hz
      cases hb : (cszIs x.U e' sz && Nat.beq zs.length n && Nat.ble (n * sz) (2 ^ 24) && Nat.blt 0 (n * sz) && x.C.hasZero t) with
      | false => rw [hb] at h; cases h
      | true =>
        rw [hb] at h
        simp only [cond_true, Option.some.injEq, Sigma.mk.injEq] at h
        obtain ⟨rfl, h⟩ := h
        simp only [heq_eq_eq] at h
        subst h
        simp only [Bool.and_eq_true] at hb
        obtain ⟨⟨⟨⟨b1, b2⟩, b3⟩, b4⟩, b5⟩ := hb
        obtain ⟨vs, h2, h3⟩ := elems_ok ok r hh (cszIs_ok b1) hz
        simp only [evBuildSlice, hsz, h2, h3, List.length_map, b2, b3, b4, b5, Bool.and_self, cond_true]
    · cases h
  · cases h

/-! calls -/
theorem prjL_nil (U : Uni) : prjL U [] [] = some () := rfl
theorem prjL_nil1 (U : Uni) (v : TV U.X) (vs : List (TV U.X)) : prjL U [] (v :: vs) = none := rfl
theorem prjL_one (U : Uni) (t : Nat) (v : TV U.X) : prjL U [t] [v] = U.prj t v := rfl
theorem prjL_one0 (U : Uni) (t : Nat) : prjL U [t] [] = none := rfl
theorem prjL_one2 (U : Uni) (t : Nat) (v w : TV U.X) (vs : List (TV U.X)) : prjL U [t] (v :: w :: vs) = none := rfl
theorem prjL_two0 (U : Uni) (t u : Nat) (r : List Nat) : prjL U (t :: u :: r) [] = none := rfl
theorem prjL_two (U : Uni) (t u : Nat) (r : List Nat) (v : TV U.X) (vs : List (TV U.X)) : prjL U (t :: u :: r) (v :: vs) = match U.prj t v with
    | some y => match prjL U (u :: r) vs with
      | some ys => some (y, ys)
      | none => none
    | none => none := rfl
theorem dvL_one {U : Uni} {v : TV U.X} {d : DV} (h : v.dv U = some d) : dvL U [v] = some [d] := by simp only [dvL, h]
theorem prjL_dv (ok : x.U.Ok x.C) (ts : List Nat) : ∀ (vs : List (TV x.X)) (y : PX x.X ts), prjL x.U ts vs = some y → ∃ ds, dvL x.U vs = some ds := by
  induction ts with
  | nil =>
    intro vs y h
    cases vs with
    | nil => exact ⟨[], by simp only [dvL]⟩
    | cons v vs => rw [prjL_nil1] at h; cases h
  | cons t r ih =>
    intro vs y h
    cases r with
    | nil =>
      cases vs with
      | nil => rw [prjL_one0] at h; cases h
      | cons v vs =>
        cases vs with
        | nil =>
          rw [prjL_one] at h
          exact ⟨_, dvL_one (ok.prj t v y h)⟩
        | cons => rw [prjL_one2] at h; cases h
    | cons u r =>
      cases vs with
      | nil => rw [prjL_two0] at h; cases h
      | cons v vs =>
        rw [prjL_two] at h
        cases hz : x.U.prj t v with
        | none => rw [hz] at h; cases h
        | some z =>
          rw [hz] at h
          cases hzs : prjL x.U (u :: r) vs with
          | none => rw [hzs] at h; cases h
          | some zs =>
            obtain ⟨ds, hd⟩ := ih vs zs hzs
            exact ⟨_, dvL_mk (ok.prj t v z hz) hd⟩
theorem filtA_dv (ak : List AK) : ∀ (vs ws : List (TV x.X)), filtA ak vs = some ws → (∃ ds, dvL x.U ws = some ds) → ∃ ds, dvL x.U vs = some ds := by
  induction ak with
  | nil =>
    intro vs ws h _
    cases vs with
    | nil => exact ⟨[], rfl⟩
    | cons => simp [filtA] at h
  | cons k r ih =>
    intro vs ws h hd
    cases vs with
    | nil => cases k <;> simp [filtA] at h
    | cons v vs =>
      cases k with
      | ty t =>
        simp only [filtA] at h
        cases hw : filtA r vs with
        | none => rw [hw] at h; cases h
        | some ws' =>
          rw [hw] at h
          simp only [Option.some.injEq] at h
          subst h
          obtain ⟨ds, hd⟩ := hd
          obtain ⟨d, ds', h1, h2, rfl⟩ := dvL_cons hd
          obtain ⟨es, h3⟩ := ih vs ws' hw ⟨ds', h2⟩
          exact ⟨_, dvL_mk h1 h3⟩
      | fn f =>
        cases v with
        | fn f' caps =>
          cases caps with
          | cons => simp [filtA] at h
          | nil =>
            simp only [filtA] at h
            cases hb : Nat.beq f f' with
            | false => rw [hb] at h; cases h
            | true =>
              rw [hb] at h
              obtain ⟨es, h3⟩ := ih vs ws h hd
              exact ⟨_, dvL_mk (d := .fn f' []) rfl h3⟩
        | _ => simp [filtA] at h
theorem prjA_dv (ok : x.U.Ok x.C) {ak : List AK} {vs : List (TV x.X)} {y : PX x.X (AK.tys ak)} (h : prjA x.U ak vs = some y) : ∃ ds, dvL x.U vs = some ds := by
  unfold prjA at h
  split at h
  · rename_i ws hw
    exact filtA_dv _ _ _ hw (prjL_dv ok _ _ _ h)
  · cases h
theorem callT_ok (ok : x.U.Ok x.C) {call : CallT} {f : Nat} {vs : List (TV x.X)} {pr : PR (TV x.X)} {w : TV x.X} : ∀ {T : List (Nat × TCall x.X)}, (∀ p ∈ T, Meets x.U call p.1 p.2) → callT x f vs T = some pr → PR.Is True pr w →
    ∃ ds d, dvL x.U vs = some ds ∧ w.dv x.U = some d ∧ callD call true f ds = some d
  | [], _, h, _ => by simp [callT] at h
  | (f', c) :: T, hT, h, hi => by
    simp only [callT] at h
    cases hb : Nat.beq f f' with
    | false => rw [hb] at h; exact callT_ok ok (fun p hp => hT p (List.mem_cons_of_mem _ hp)) h hi
    | true =>
      rw [hb] at h
      rw [Nat.beq_eq] at hb
      subst hb
      simp only [cond_true] at h
      split at h
      · rename_i y hy
        split at h
        · rename_i g hg
          simp only [Option.some.injEq] at h
          subst h
          obtain ⟨z, h1, rfl⟩ := hi
          obtain ⟨ds, hd⟩ := prjA_dv ok hy
          obtain ⟨d, h2, h3⟩ := hT _ (List.mem_cons_self) vs y z ds g hy hd (h1 trivial) hg
          exact ⟨ds, d, hd, h2, callD_frz h3⟩
        · cases h
      · exact callT_ok ok (fun p hp => hT p (List.mem_cons_of_mem _ hp)) h hi
theorem noMapL_of {ds : List DV} (h : ∀ d ∈ ds, d.noMap = true) : DV.noMapL ds = true := by
  induction ds with
  | nil => rfl
  | cons d ds ih =>
    simp only [DV.noMapL, Bool.and_eq_true]
    exact ⟨h d (List.mem_cons_self), ih fun e he => h e (List.mem_cons_of_mem _ he)⟩
theorem injL_noMap (ok : x.U.Ok x.C) (ts : List Nat) : ∀ (g : PX x.X ts → List (TV x.X)) (y : PX x.X ts), injL x.U ts = some g → ts.all x.U.noMap = true → ∃ ds, dvL x.U (g y) = some ds ∧ DV.noMapL ds = true := by
  induction ts with
  | nil => intro g y h _; simp only [injL, Option.some.injEq] at h; subst h; exact ⟨[], rfl, rfl⟩
  | cons t r ih =>
    intro g y h hn
    rw [List.all_cons, Bool.and_eq_true] at hn
    cases r with
    | nil =>
      simp only [injL] at h
      cases hf : x.U.inj t with
      | none => rw [hf] at h; cases h
      | some f =>
        rw [hf] at h
        simp only [Option.some.injEq] at h
        subst h
        have h1 := ok.inj t f y hf
        exact ⟨_, dvL_mk h1 rfl, by simp only [DV.noMapL]; rw [ok.noMap t y hn.1]; rfl⟩
    | cons u r =>
      simp only [injL] at h
      cases hf : x.U.inj t with
      | none => rw [hf] at h; cases h
      | some f =>
        rw [hf] at h
        cases hg : injL x.U (u :: r) with
        | none => rw [hg] at h; cases h
        | some g' =>
          rw [hg] at h
          simp only [Option.some.injEq] at h
          subst h
          obtain ⟨ds, h1, h2⟩ := ih g' y.2 hg hn.2
          exact ⟨_, dvL_mk (ok.inj t f y.1 hf) h1, by simp only [DV.noMapL, h2]; rw [ok.noMap t y.1 hn.1]; rfl⟩
theorem resT_noMap (ok : x.U.Ok x.C) {ts : List Nat} {g : PX x.X ts → TV x.X} {y : PX x.X ts} {d : DV} (h : resT x.U ts = some g) (hn : ts.all x.U.noMap = true) (hd : (g y).dv x.U = some d) : d.noMap = true := by
  cases ts with
  | nil =>
    simp only [resT, Option.some.injEq] at h
    subst h
    cases hd
    rfl
  | cons t r =>
    cases r with
    | nil =>
      have h : x.U.inj t = some g := h
      have h1 := ok.inj t g y h
      rw [h1] at hd
      simp only [Option.some.injEq] at hd
      subst hd
      simp only [List.all_cons, List.all_nil, Bool.and_true] at hn
      exact ok.noMap t y hn
    | cons u r =>
      simp only [resT] at h
      cases hf : injL x.U (t :: u :: r) with
      | none => rw [hf] at h; cases h
      | some f =>
        rw [hf] at h
        simp only [Option.some.injEq] at h
        subst h
        obtain ⟨ds, h1, h2⟩ := injL_noMap ok _ f y hf hn
        simp only [TV.dv, h1, Option.map_some, Option.some.injEq] at hd
        subst hd
        exact h2
theorem callLend_ok (ok : x.U.Ok x.C) {call : CallT} {f k : Nat} {vs : List (TV x.X)} {pr : PR (TV x.X)} {w : TV x.X} : ∀ {T : List (Nat × TCall x.X)}, (∀ p ∈ T, Meets x.U call p.1 p.2) → callLend x f k vs T = some pr → PR.Is True pr w →
    ∃ ds d, dvL x.U vs = some ds ∧ w.dv x.U = some d ∧ callD call false f ds = some d ∧ okRes k d = true
  | [], _, h, _ => by simp [callLend] at h
  | (f', c) :: T, hT, h, hi => by
    simp only [callLend] at h
    cases hb : Nat.beq f f' with
    | false => rw [hb] at h; exact callLend_ok ok (fun p hp => hT p (List.mem_cons_of_mem _ hp)) h hi
    | true =>
      rw [hb] at h
      rw [Nat.beq_eq] at hb
      subst hb
      simp only [cond_true] at h
      split at h
      · rename_i y hy
        split at h
        · rename_i g hg
          cases hl : (c.dir && lendOk x k c.rts) with
          | false => rw [hl] at h; cases h
          | true =>
            rw [hl] at h
            simp only [Bool.and_eq_true] at hl
            obtain ⟨hdir, hl⟩ := hl
            simp only [cond_true, Option.some.injEq] at h
            subst h
            obtain ⟨z, h1, rfl⟩ := hi
            obtain ⟨ds, hd⟩ := prjA_dv ok hy
            obtain ⟨d, h2, h3⟩ := hT _ (List.mem_cons_self) vs y z ds g hy hd (h1 trivial) hg
            refine ⟨ds, d, hd, h2, by simpa [hdir] using h3, ?_⟩
            match k, hl with
            | 0, _ => rfl
            | 1, hl => exact resT_noMap ok hg hl h2
            | k + 2, hl => simp [lendOk] at hl
        · cases h
      · exact callLend_ok ok (fun p hp => hT p (List.mem_cons_of_mem _ hp)) h hi
theorem fnOf_ok {fv : TV x.X} {f : Nat} {caps : List (TV x.X)} {w : AV} (hv : VRel x.U ρ fv w) (h : fnOfT fv = some (f, caps)) : ∃ as, fnOf w = some (f, as) ∧ VRels x.U ρ caps as := by
  cases fv <;> simp only [fnOfT] at h <;> (try (cases h; done))
  simp only [Option.some.injEq, Prod.mk.injEq] at h
  obtain ⟨rfl, rfl⟩ := h
  cases hv with
  | d v d hd =>
    simp only [TV.dv, Option.map_eq_some_iff] at hd
    obtain ⟨ds, h1, rfl⟩ := hd
    exact ⟨_, rfl, VRels.of_dvL h1⟩
  | fn _ _ as hl hh =>
    refine ⟨as, ?_, hl, hh⟩
    unfold mkFn
    cases had : allD as with
    | none => rfl
    | some ds =>
      have : as = ds.map .d := by
        clear hh hl
        unfold allD at had
        induction as generalizing ds with
        | nil => simp only [mapO, Option.some.injEq] at had; subst had; rfl
        | cons b as ih =>
          simp only [mapO] at had
          cases b <;> simp only [AV.toD] at had <;> (try (cases had; done))
          split at had
          · rename_i ys hys
            simp only [Option.some.injEq] at had
            subst had
            rw [ih ys hys]; rfl
          · cases had
      subst this
      rfl
theorem lend_ok (r : Rel x.U ρ h0 s a) : ∀ {vs ws : List (TV x.X)} {as : List AV} {k : Nat} {ds : List DV}, VRels x.U ρ vs as → lendL x s.heap vs = some (ws, k) → dvL x.U ws = some ds → lendAll a.heap as = some (ds, k)
  | [], ws, as, k, ds, hv, h, hd => by
    simp only [lendL, Option.some.injEq, Prod.mk.injEq] at h
    obtain ⟨rfl, rfl⟩ := h
    rw [dvL_nil hd]
    cases as with
    | nil => rfl
    | cons => have := hv.1; simp at this
  | v :: vs, ws, as, k, ds, hv, h, hd => by
    simp only [lendL] at h
    split at h
    · rename_i y m hy
      split at h
      · rename_i ys n hys
        simp only [Option.some.injEq, Prod.mk.injEq] at h
        obtain ⟨rfl, rfl⟩ := h
        obtain ⟨d, ds', h1, h2, rfl⟩ := dvL_cons hd
        cases as with
        | nil => have := hv.1; simp at this
        | cons b as =>
          have hb := hv.2 0 v b rfl rfl
          have hr : VRels x.U ρ vs as := ⟨by simpa using hv.1, fun k v a h1 h2 => hv.2 (k + 1) v a (by simpa using h1) (by simpa using h2)⟩
          have ih := lend_ok r hr hys h2
          have : lendD a.heap b = some (d, m) := by
            unfold lendT at hy
            split at hy <;> (try (cases hy; done))
            · rename_i j
              split at hy
              · rename_i kt vt es hh
                simp only [Option.some.injEq, Prod.mk.injEq] at hy
                obtain ⟨rfl, rfl⟩ := hy
                cases hb with
                | d v d hd => simp [TV.dv] at hd
                | mp _ i hj =>
                  obtain ⟨ao, h3, h4⟩ := obj_ok r.heap hh hj
                  cases h4
                  cases h1
                  have : mapO (fun e => e.2.toD.map fun v => (e.1, v)) (es.map fun p => (x.U.enc kt p.1, AV.d (x.U.enc vt p.2))) = some (es.map fun p => (x.U.enc kt p.1, x.U.enc vt p.2)) := by
                    clear h3 hh hd
                    induction es with
                    | nil => rfl
                    | cons p es ih => simp only [List.map_cons, mapO, AV.toD, Option.map_some] at ih ⊢; rw [ih]
                  simp only [lendD, h3, this, Option.map_some]
              · cases hy
            · simp only [Option.some.injEq, Prod.mk.injEq] at hy
              obtain ⟨rfl, rfl⟩ := hy
              rw [hb.isD h1]
              rfl
          simp only [lendAll, this, ih]
      · cases h
    · cases h
end
end Go.Tev
namespace Go.Tev
open Go.Abs

section
variable {x : Cx} {ρ : List Rf} {h0 : Base} {s : TSt x.X} {a : St}

theorem prV_is {X : Nat → Type} {q : Option (PR (TV X))} {pr : PR (Option (TX X))} {y : TX X} (h : prV q = some pr) (hi : PR.Is True pr (some y)) : ∃ r v, q = some r ∧ PR.Is True r v ∧ y = .a v := by
  cases q with
  | none => cases h
  | some r =>
    simp only [prV, Option.some.injEq] at h
    subst h
    obtain ⟨v, h1, h2⟩ := PR.Is_map.1 hi
    simp only [Option.some.injEq] at h2
    exact ⟨r, v, rfl, h1, h2⟩
theorem prO_is {X : Nat → Type} {q : Option (TX X)} {pr : PR (Option (TX X))} {y : TX X} (h : prO q = some pr) (hi : PR.Is True pr (some y)) : q = some y := by
  cases q with
  | none => cases h
  | some r =>
    simp only [prO, Option.some.injEq] at h
    subst h
    exact hi.symm
theorem prA_is {X : Nat → Type} {q : Option (TV X)} {pr : PR (Option (TX X))} {y : TX X} (h : prA q = some pr) (hi : PR.Is True pr (some y)) : ∃ v, q = some v ∧ y = .a v := by
  cases q with
  | none => cases h
  | some r =>
    simp only [prA, Option.some.injEq] at h
    subst h
    simp only [PR.Is, Option.some.injEq] at hi
    exact ⟨r, rfl, hi⟩
theorem opd_of {o : Operand} {w : AV} (h : opA a o = some w) : opd a o = some (.a w) := by
  unfold opA at h
  split at h
  · rename_i v' h4
    simp only [Option.some.injEq] at h
    rw [h4, h]
  · cases h
theorem mapO_opD : ∀ {os : List Operand} {ds : List DV}, evArgs a os = some (ds.map .d) → mapO (opD a) os = some ds
  | [], ds, h => by
    simp only [evArgs, Option.some.injEq] at h
    cases ds with
    | nil => rfl
    | cons => simp at h
  | o :: os, ds, h => by
    simp only [evArgs] at h
    cases h1 : opA a o with
    | none => rw [h1] at h; cases h
    | some v =>
      rw [h1] at h
      simp only at h
      cases h2 : evArgs a os with
      | none => rw [h2] at h; cases h
      | some vs =>
        rw [h2] at h
        simp only [Option.some.injEq] at h
        cases ds with
        | nil => simp at h
        | cons d ds =>
          simp only [List.map_cons, List.cons.injEq] at h
          obtain ⟨rfl, rfl⟩ := h
          simp only [mapO, mapO_opD h2, opD, opd_of h1]
theorem holds_ext {X : Nat → Type} {s : TSt X} {ch : Chain} (hh : holds s ch) {c : Operand} {cb : Bool} (w : Bool) (h : topA s ch c = some (.b cb)) (hw : cb = w) (hk : isTmp s c = true) : holds s (extc w c ch) := by
  cases c with
  | tmp t =>
    intro p hp
    rcases List.mem_cons.1 hp with rfl | hp
    · simp only [isTmp] at hk ⊢
      cases ht : alook s.tmp t with
      | none => rw [ht] at hk; cases hk
      | some e =>
        refine ⟨e.g, ?_⟩
        simp only [topA, topd, topx, ht] at h
        cases hs : subB e.g ch with
        | false => rw [hs] at h; simp at h
        | true =>
          rw [hs] at h
          simp only [cond_true] at h
          obtain ⟨g, y⟩ := e
          cases y <;> simp only [TX.copy, TX.flat, Option.some.injEq] at h <;> (try (cases h; done))
          subst h
          subst hw
          rfl
    · exact hh p hp
  | _ => exact hh

theorem valT_ok (ok : x.U.Ok x.C) {call : CallT} (hT : ∀ p ∈ x.T, Meets x.U call p.1 p.2) (r : Rel x.U ρ h0 s a) {fa : FA} {ch : Chain} (hh : holds s ch) {o : Oper} {pr : PR (Option (TX x.X))} {y : TX x.X}
    (h : valT x fa s ch o = some pr) (hi : PR.Is True pr (some y)) : ∃ z, evVal x.C call fa o a = some z ∧ XRel x.U ρ y z := by
  obtain ⟨dst, op, ty, pos, after, guard⟩ := o
  cases op with
  | move v =>
    simp only [valT] at h
    simp only [evVal]
    cases ht : takes fa dst with
    | true => rw [ht] at h; cases h
    | false =>
      rw [ht] at h
      simp only [cond_false] at h ⊢
      split at h
      · rename_i y' hy
        obtain ⟨z, h1, h2⟩ := topx_ok r hh hy
        exact ⟨z, h1, coerceX_ok ok h2 (prO_is h hi)⟩
      · cases h
  | assign v =>
    simp only [valT] at h
    simp only [evVal]
    cases ht : takes fa dst with
    | true => rw [ht] at h; cases h
    | false =>
      rw [ht] at h
      simp only [cond_false] at h ⊢
      split at h
      · rename_i y' hy
        obtain ⟨z, h1, h2⟩ := topx_ok r hh hy
        exact ⟨z, h1, coerceX_ok ok h2 (prO_is h hi)⟩
      · cases h
  | pick c p q =>
    simp only [valT] at h
    simp only [evVal]
    cases hin : isTmp s c with
    | false => rw [hin] at h; cases h
    | true =>
      rw [hin] at h
      simp only [cond_true] at h
      split at h
      · rename_i cb va vb hc hp hq
        obtain ⟨q1, v, h1, h2, rfl⟩ := prV_is h hi
        obtain ⟨_, hcd, _⟩ := topD_ok r hh hc (d := .bool cb) rfl
        rw [hcd]
        cases cb with
        | true =>
          obtain ⟨w, h3, h4⟩ := topA_ok r (holds_ext hh true hc rfl hin) hp
          refine ⟨.a w, by simpa using opd_of h3, .a _ _ ?_⟩
          exact merge_ok ok (uw := w) (vw := w) (fun _ => h4) (fun h => by cases h) h1 h2
        | false =>
          obtain ⟨w, h3, h4⟩ := topA_ok r (holds_ext hh false hc rfl hin) hq
          refine ⟨.a w, by simpa using opd_of h3, .a _ _ ?_⟩
          exact merge_ok ok (uw := w) (vw := w) (fun h => by cases h) (fun _ => h4) h1 h2
      · cases h
  | build t ps =>
    simp only [valT] at h
    simp only [evVal]
    split at h
    · rename_i z f hz hf hag
      split at h
      · rename_i l hl
        split at h
        · rename_i cs hcs
          split at h
          · rename_i w hw
            simp only [Option.some.injEq] at h
            subst h
            simp only [PR.Is, Option.some.injEq] at hi
            subst hi
            obtain ⟨z0, k1, k2, k3, k4⟩ := ok.zcells _ _ hz
            have k4 := k4 hag
            obtain ⟨vs, ds', k5, k6, k7⟩ := parts_ok ok r hh hl hcs k2
            have k8 := pack_dv ok hw k7
            refine ⟨.a (.d (.agg ds')), ?_, .a _ _ (.d _ _ (by simp only [TV.dv, k8]))⟩
            rw [k4] at k1
            simp only [evBuild, k1, hf, k5, k6, oD]
          · cases h
        · cases h
      · cases h
    · cases h
  | buildSlice t n ps =>
    simp only [valT] at h
    simp only [evVal]
    cases ht : takes fa dst with
    | true => rw [ht] at h; cases h
    | false =>
      rw [ht] at h
      simp only [cond_false] at h ⊢
      split at h
      · rename_i e ys hb
        simp only [Option.some.injEq] at h
        subst h
        simp only [PR.Is, Option.some.injEq] at hi
        subst hi
        rw [buildSlice_ok ok r hh hb]
        exact ⟨_, rfl, .a _ _ (.d _ _ rfl)⟩
      · cases h
  | load t p =>
    simp only [valT] at h
    simp only [evVal]
    split at h
    · rename_i q hq
      obtain ⟨z, h1, h2⟩ := topd_ok r hh hq
      obtain ⟨w, h3, h4⟩ := load_ok ok r h2 h hi
      exact ⟨.a w, by simp only [h1, h3, oA], h4⟩
    · cases h
  | nilCheck v =>
    simp only [valT] at h
    simp only [evVal]
    split at h
    · rename_i q hq
      obtain ⟨z, h1, h2⟩ := topd_ok r hh hq
      obtain ⟨w, h3, h4⟩ := check_ok h2 (prO_is h hi)
      exact ⟨w, by simp only [h1, h3], h4⟩
    · cases h
  | binOp op t p q t' =>
    simp only [valT] at h
    simp only [evVal]
    split at h
    · rename_i u v hu hv
      obtain ⟨r1, w, h1, h2, rfl⟩ := prV_is h hi
      obtain ⟨uw, h3, h4⟩ := topA_ok r hh hu
      obtain ⟨vw, h5, h6⟩ := topA_ok r hh hv
      obtain ⟨d, h7, h8⟩ := bin_ok ok h4 h6 h1 h2
      exact ⟨.a (.d d), by simp only [h3, h5, h7, oD], .a _ _ (.d _ _ h8)⟩
    · cases h
  | unOp op t p =>
    simp only [valT] at h
    simp only [evVal]
    split at h
    · rename_i u hu
      obtain ⟨r1, w, h1, h2, rfl⟩ := prV_is h hi
      obtain ⟨uw, h3, h4⟩ := topA_ok r hh hu
      obtain ⟨e, d, rfl, h7, h8⟩ := un_ok h4 h1 h2
      have : opD a p = some e := by simp only [opD, opd_of h3]
      exact ⟨.a (.d d), by simp only [this, h7, oD], .a _ _ (.d _ _ h8)⟩
    · cases h
  | convert s' t p =>
    simp only [valT] at h
    simp only [evVal]
    split at h
    · rename_i u hu
      obtain ⟨r1, w, h1, h2, rfl⟩ := prV_is h hi
      obtain ⟨uw, h3, h4⟩ := topA_ok r hh hu
      obtain ⟨d, h7, h8⟩ := conv_ok ok r h4 h1 h2
      exact ⟨.a (.d d), by simp only [h3, h7, oD], .a _ _ (.d _ _ h8)⟩
    · cases h
  | makeFunc fn first captured =>
    cases fn <;> simp only [valT] at h <;> (try (cases h; done))
    simp only [evVal]
    split at h
    · rename_i vs hf hv
      simp only [Option.some.injEq] at h
      subst h
      simp only [PR.Is, Option.some.injEq] at hi
      subst hi
      obtain ⟨ws, h1, h2⟩ := topL_ok r hh hv
      exact ⟨_, by simp only [hf, h1], .a _ _ (.fn _ _ _ h2.1 h2.2)⟩
    · cases h
  | slice t p lo hi' m =>
    cases m with
    | some m => simp [valT] at h
    | none =>
      simp only [valT] at h
      simp only [evVal]
      split at h
      · rename_i v l hg hv hl hhg
        obtain ⟨r1, w, h1, h2, rfl⟩ := prV_is h hi
        have : ∃ e, v.dv x.U = some e := by
          unfold sliceT at h1
          split at h1
          · exact ⟨_, rfl⟩
          · exact ⟨_, rfl⟩
          · cases h1
        obtain ⟨e, he⟩ := this
        obtain ⟨_, h3, _⟩ := topD_ok r hh hv he
        obtain ⟨dl, dh, d, k1, k2, k3, k4⟩ := slice_ok ok r hh he hl hhg h1 h2
        exact ⟨.a (.d d), by simp only [h3, k1, k2, k3, oD], .a _ _ (.d _ _ k4)⟩
      · cases h
  | fieldAddr t p f =>
    simp only [valT] at h
    simp only [evVal]
    split at h
    · rename_i q hq
      obtain ⟨z, h1, h2⟩ := topd_ok r hh hq
      obtain ⟨w, h3, h4⟩ := fieldAddr_ok h2 (prO_is h hi)
      exact ⟨w, by simp only [h1, h3], h4⟩
    · cases h
  | field t p f =>
    simp only [valT] at h
    simp only [evVal]
    split at h
    · rename_i v hv
      obtain ⟨w, h1, rfl⟩ := prA_is h hi
      have : ∃ e, v.dv x.U = some e := by
        unfold fieldT at h1
        split at h1
        · cases h1
        · split at h1
          · exact ⟨_, rfl⟩
          · rename_i fd _ cs
            cases hd : (TV.g cs : TV x.X).dv x.U with
            | some e => exact ⟨e, rfl⟩
            | none =>
              obtain ⟨u, hu, h5⟩ := topA_ok r hh hv
              cases h5 with
              | d v d h6 => rw [hd] at h6; cases h6
          · cases h1
      obtain ⟨e, he⟩ := this
      obtain ⟨_, h3, _⟩ := topD_ok r hh hv he
      obtain ⟨d, h4, h5⟩ := field_ok ok he h1
      exact ⟨.a (.d d), by simp only [h3, h4, oD], .a _ _ (.d _ _ h5)⟩
    · cases h
  | indexAddr t p i =>
    simp only [valT] at h
    simp only [evVal]
    split at h
    · rename_i v k n hv hn
      obtain ⟨vw, h1, h2⟩ := topA_ok r hh hv
      obtain ⟨_, h3, _⟩ := topD_ok r hh hn (d := .int k n) rfl
      obtain ⟨w, h4, h5⟩ := indexAddr_ok ok r h2 h hi
      exact ⟨w, by simp only [h1, h3, h4], h5⟩
    · cases h
  | index t p i =>
    simp only [valT] at h
    simp only [evVal]
    split at h
    · rename_i v k n hv hn
      obtain ⟨r1, w, h1, h2, rfl⟩ := prV_is h hi
      have : ∃ e, v.dv x.U = some e := by
        unfold indexT at h1
        split at h1
        · exact ⟨_, rfl⟩
        · cases h1
      obtain ⟨e, he⟩ := this
      obtain ⟨_, h3, _⟩ := topD_ok r hh hn (d := .int k n) rfl
      obtain ⟨_, h4, _⟩ := topD_ok r hh hv he
      obtain ⟨d, h5, h6⟩ := index_ok he h1 h2
      exact ⟨.a (.d d), by simp only [h3, h4, h5, oD], .a _ _ (.d _ _ h6)⟩
    · cases h
  | lookup t p k b =>
    simp only [valT] at h
    simp only [evVal]
    split at h
    · rename_i m key hm hk
      obtain ⟨w, h1, rfl⟩ := prA_is h hi
      have : ∃ e, key.dv x.U = some e := by
        unfold lookT at h1
        split at h1
        · split at h1
          · rename_i hp _; exact ⟨_, ok.prj _ _ _ hp⟩
          · cases h1
        · cases h1
      obtain ⟨e, he⟩ := this
      obtain ⟨mw, h2, h3⟩ := topA_ok r hh hm
      obtain ⟨_, h4, _⟩ := topD_ok r hh hk he
      obtain ⟨z, h5, h6⟩ := look_ok ok r h3 he h1
      exact ⟨.a z, by simp only [h2, h4, h5, oA], .a _ _ h6⟩
    · cases h
  | extract p i =>
    simp only [valT] at h
    simp only [evVal]
    split at h
    · rename_i v hv
      obtain ⟨w, h1, rfl⟩ := prA_is h hi
      obtain ⟨vw, h2, h3⟩ := topA_ok r hh hv
      obtain ⟨z, h4, h5⟩ := extract_ok h3 h1
      exact ⟨.a z, by simp only [h2, h4, oA], .a _ _ h5⟩
    · cases h
  | call c =>
    obtain ⟨callee, args, types⟩ := c
    cases callee with
    | builtin b =>
      simp only [valT] at h
      simp only [evVal]
      obtain ⟨r1, w, h1, h2, rfl⟩ := prV_is h hi
      unfold builtinT at h1
      split at h1
      · split at h1
        · rename_i o t ho ht
          split at h1
          · rename_i v hv
            obtain ⟨vw, h3, h4⟩ := topA_ok r hh hv
            obtain ⟨d, h5, h6⟩ := len_ok r h4 h1 h2
            exact ⟨.a (.d d), by simp only [evBuiltinV, ho, ht, h3, h5, oD], .a _ _ (.d _ _ h6)⟩
          · cases h1
        · cases h1
      · split at h1
        · rename_i vs hv
          obtain ⟨ws, h3, h4⟩ := topL_ok r hh hv
          obtain ⟨ds, d, rfl, h6, h7⟩ := dmax_ok h4 h1 h2
          exact ⟨.a (.d d), by simp only [evBuiltinV, mapO_opD h3, h6, oD], .a _ _ (.d _ _ h7)⟩
        · cases h1
      · split at h1
        · rename_i vs hv
          obtain ⟨ws, h3, h4⟩ := topL_ok r hh hv
          obtain ⟨ds, d, rfl, h6, h7⟩ := dmin_ok h4 h1 h2
          exact ⟨.a (.d d), by simp only [evBuiltinV, mapO_opD h3, h6, oD], .a _ _ (.d _ _ h7)⟩
        · cases h1
      · cases h1
    | invoke => simp [valT] at h
    | value g =>
      simp only [valT] at h
      simp only [evVal]
      split at h
      · rename_i fv vs hg hv
        obtain ⟨fw, h1, h2⟩ := topA_ok r hh hg
        obtain ⟨ws, h3, h4⟩ := topL_ok r hh hv
        split at h
        · rename_i f caps hf
          obtain ⟨as, h5, h6⟩ := fnOf_ok h2 hf
          have h7 := h4.append h6
          simp only [h1, h3, h5]
          cases hl : flagged fa.lend dst with
          | true =>
            rw [hl] at h
            simp only [cond_true] at h ⊢
            split at h
            · rename_i us k hk
              obtain ⟨r1, w, k1, k2, rfl⟩ := prV_is h hi
              obtain ⟨ds, d, k3, k4, k5, k6⟩ := callLend_ok ok hT k1 k2
              have k7 := lend_ok r h7 hk k3
              rw [k7]
              simp only [k5, k6, cond_true]
              exact ⟨_, rfl, .a _ _ (.d _ _ k4)⟩
            · cases h
          | false =>
            rw [hl] at h
            simp only [cond_false] at h ⊢
            cases hz : flagged fa.frz dst with
            | false => rw [hz] at h; cases h
            | true =>
              rw [hz] at h
              simp only [cond_true] at h
              obtain ⟨r1, w, k1, k2, rfl⟩ := prV_is h hi
              obtain ⟨ds, d, k3, k4, k5⟩ := callT_ok ok hT k1 k2
              rw [h7.dv k3, allD_map]
              simp only [k5, oD]
              exact ⟨_, rfl, .a _ _ (.d _ _ k4)⟩
        · cases h
      · cases h
  | _ => simp [valT] at h
end
end Go.Tev
namespace Go.Tev
open Go.Abs

section
variable {x : Cx} {ρ : List Rf} {h0 : Base} {s s' : TSt x.X} {a : St}

/-! a new slot for what is between -/
def isSp {X : Nat → Type} (k : Nat) : TX X → Bool
  | .sp k' _ => Nat.beq k' k
  | _ => false
def isSpA (k : Nat) : XV → Bool
  | .sp k' _ => Nat.beq k' k
  | _ => false
theorem noSpT_cons {X : Nat → Type} (k t : Nat) (e : TE X) (r : List (Nat × TE X)) : noSpT k ((t, e) :: r) = (!isSp k e.x && noSpT k r) := by
  obtain ⟨g, y⟩ := e
  cases y <;> simp only [noSpT, isSp] <;> (try simp)
theorem noSp_cons (k t : Nat) (e : XV) (r : List (Nat × XV)) : noSp k ((t, e) :: r) = (!isSpA k e && noSp k r) := by
  cases e <;> simp only [noSp, isSpA] <;> (try simp)
theorem noSpT_ins {X : Nat → Type} (k t : Nat) (e : TE X) : ∀ (l : List (Nat × TE X)), (∀ e', alook l t = some e' → isSp k e'.x = false) → noSpT k (ins l t e) = (!isSp k e.x && noSpT k l)
  | [], _ => by simp only [ins, noSpT_cons, noSpT]
  | (t', e') :: r, h => by
    simp only [ins]
    cases hb : Nat.blt t' t with
    | true => simp only [cond_true, noSpT_cons]
    | false =>
      simp only [cond_false]
      simp only [alook] at h
      cases he : Nat.beq t' t with
      | true =>
        rw [he] at h
        have := h e' rfl
        simp only [cond_true, noSpT_cons, this, Bool.not_false, Bool.true_and]
      | false =>
        rw [he] at h
        simp only [cond_false, noSpT_cons, noSpT_ins k t e r (by simpa using h)]
        cases isSp k e'.x <;> cases isSp k e.x <;> simp
theorem noSp_ins (k t : Nat) (e : XV) : ∀ (l : List (Nat × XV)), (∀ e', alook l t = some e' → isSpA k e' = false) → noSp k (ins l t e) = (!isSpA k e && noSp k l)
  | [], _ => by simp only [ins, noSp_cons, noSp]
  | (t', e') :: r, h => by
    simp only [ins]
    cases hb : Nat.blt t' t with
    | true => simp only [cond_true, noSp_cons]
    | false =>
      simp only [cond_false]
      simp only [alook] at h
      cases he : Nat.beq t' t with
      | true =>
        rw [he] at h
        have := h e' rfl
        simp only [cond_true, noSp_cons, this, Bool.not_false, Bool.true_and]
      | false =>
        rw [he] at h
        simp only [cond_false, noSp_cons, noSp_ins k t e r (by simpa using h)]
        cases isSpA k e' <;> cases isSpA k e <;> simp
theorem isSp_rel {y : TX x.X} {z : XV} (h : XRel x.U ρ y z) (k : Nat) : isSpA k z = isSp k y := by cases h <;> rfl

def chOk {X : Nat → Type} (s : TSt X) (ch : Chain) : Prop := ∀ p ∈ ch, (alook s.tmp p.1).isSome = true
theorem holds_ins {X : Nat → Type} {s : TSt X} {t : Nat} {e : TE X} {g : Chain} (hn : alook s.tmp t = none) (hg : chOk s g) : holds { s with tmp := ins s.tmp t e } g ↔ holds s g := by
  unfold holds
  constructor
  · intro h p hp
    obtain ⟨c, hc⟩ := h p hp
    simp only [alook_ins] at hc
    have := hg p hp
    cases hb : Nat.beq t p.1 with
    | true => rw [← Nat.eq_of_beq_eq_true hb, hn] at this; cases this
    | false => rw [hb] at hc; exact ⟨c, by simpa using hc⟩
  · intro h p hp
    obtain ⟨c, hc⟩ := h p hp
    refine ⟨c, ?_⟩
    simp only [alook_ins]
    cases hb : Nat.beq t p.1 with
    | true => rw [← Nat.eq_of_beq_eq_true hb, hn] at hc; cases hc
    | false => simpa using hc
theorem ER.put {e : List (Nat × TSV x.X)} {env : List (Nat × SV)} (h : ER x.U ρ e env) (t : Nat) {v : TSV x.X} {w : SV} (hv : SRel x.U ρ v w) : ER x.U ρ (aput e t v) (aput env t w) := by
  intro t' v' h'
  rw [alook_aput] at h'
  rw [alook_aput]
  cases hb : Nat.beq t t' with
  | true => rw [hb] at h'; simp only [cond_true, Option.some.injEq] at h'; subst h'; exact ⟨w, rfl, hv⟩
  | false => rw [hb] at h'; exact h t' v' (by simpa using h')
theorem TR.put {tmp : List (Nat × XV)} (h : TR x.U ρ s tmp) {t : Nat} {ch : Chain} {y : TX x.X} {z : XV} (hn : alook s.tmp t = none) (hc : chOk s ch) (h1 : holds s ch → XRel x.U ρ y z) (h2 : ¬ holds s ch → z = .un) :
    TR x.U ρ { s with tmp := ins s.tmp t ⟨ch, y⟩ } (ins tmp t z) := by
  refine ⟨fun t' h' => ?_, fun t' e h' => ?_, fun t' e h' p hp => ?_, fun k h' => ?_⟩
  · simp only [alook_ins] at h' ⊢
    cases hb : Nat.beq t t' with
    | true => rw [hb] at h'; cases h'
    | false => rw [hb] at h'; exact h.no t' (by simpa using h')
  · simp only [alook_ins] at h' ⊢
    cases hb : Nat.beq t t' with
    | true =>
      rw [hb] at h'
      simp only [cond_true, Option.some.injEq] at h'
      subst h'
      refine ⟨z, rfl, fun hh => h1 ((holds_ins hn hc).1 hh), fun hh => h2 fun h3 => hh ((holds_ins hn hc).2 h3)⟩
    | false =>
      rw [hb] at h'
      obtain ⟨w, k1, k2, k3⟩ := h.yes t' e (by simpa using h')
      have hwf : chOk s e.g := h.wf t' e (by simpa using h')
      exact ⟨w, k1, fun hh => k2 ((holds_ins hn hwf).1 hh), fun hh => k3 fun h4 => hh ((holds_ins hn hwf).2 h4)⟩
  · simp only [alook_ins] at h' ⊢
    cases hb : Nat.beq t t' with
    | true =>
      rw [hb] at h'
      simp only [cond_true, Option.some.injEq] at h'
      subst h'
      cases Nat.beq t p.1 with
      | true => rfl
      | false => exact hc p hp
    | false =>
      rw [hb] at h'
      cases Nat.beq t p.1 with
      | true => rfl
      | false => exact h.wf t' e (by simpa using h') p hp
  · simp only at h'
    rw [noSpT_ins _ _ _ _ (fun e' he => by rw [hn] at he; cases he), Bool.and_eq_true] at h'
    rw [noSp_ins _ _ _ _ (fun e' he => by rw [h.no t hn] at he; cases he), Bool.and_eq_true]
    refine ⟨?_, h.nosp k h'.2⟩
    by_cases hh : holds s ch
    · rw [isSp_rel (h1 hh)]; exact h'.1
    · rw [h2 hh]; rfl
theorem put_act (r : Rel x.U ρ h0 s a) {fa : FA} {ch : Chain} {dst : Option Tmp} {y : TX x.X} {z : XV} (hc : chOk s ch) (hh : holds s ch) (hy : XRel x.U ρ y z) (h : putT fa ch s dst y = some s') :
    ∃ a', a.put fa dst z = some a' ∧ Rel x.U ρ h0 s' a' := by
  cases dst with
  | none => simp only [putT, Option.some.injEq] at h; subst h; exact ⟨a, rfl, r⟩
  | some t =>
    simp only [putT] at h
    simp only [St.put]
    cases hb : Nat.blt t fa.nt with
    | false => rw [hb] at h; cases h
    | true =>
      rw [hb] at h
      simp only [cond_true] at h ⊢
      cases hk : has fa.keep t with
      | true =>
        rw [hk] at h
        simp only [cond_true] at h ⊢
        split at h
        · rename_i v hv
          simp only [Option.some.injEq] at h
          subst h
          have := hy.flat
          rw [hv] at this
          obtain ⟨w, hw, h1⟩ := this.isA
          rw [hw]
          exact ⟨_, rfl, r.env.put t (.val _ _ h1), ⟨r.tmp.no, r.tmp.yes, r.tmp.wf, r.tmp.nosp⟩, r.heap⟩
        · cases h
      | false =>
        rw [hk] at h
        simp only [cond_false] at h ⊢
        split at h
        · rename_i hn
          simp only [Option.some.injEq] at h
          subst h
          exact ⟨_, rfl, r.env, r.tmp.put hn hc (fun _ => hy) (fun h => absurd hh h), r.heap⟩
        · cases h
theorem put_un (r : Rel x.U ρ h0 s a) {fa : FA} {ch : Chain} {dst : Option Tmp} {y : TX x.X} (hc : chOk s ch) (hh : ¬ holds s ch) (h : putT fa ch s dst y = some s') :
    ∃ a', a.put fa dst .un = some a' ∧ Rel x.U ρ h0 s' a' := by
  cases dst with
  | none => simp only [putT, Option.some.injEq] at h; subst h; exact ⟨a, rfl, r⟩
  | some t =>
    simp only [putT] at h
    simp only [St.put]
    cases hb : Nat.blt t fa.nt with
    | false => rw [hb] at h; cases h
    | true =>
      rw [hb] at h
      simp only [cond_true] at h ⊢
      cases hk : has fa.keep t with
      | true =>
        rw [hk] at h
        simp only [cond_true] at h
        split at h
        · exact absurd (fun p hp => by simp at hp) hh
        · cases h
      | false =>
        rw [hk] at h
        simp only [cond_false] at h ⊢
        split at h
        · rename_i hn
          simp only [Option.some.injEq] at h
          subst h
          exact ⟨_, rfl, r.env, r.tmp.put hn hc (fun h => absurd h hh) (fun _ => rfl), r.heap⟩
        · cases h

/-! what one owns -/
theorem alook_unalT {X : Nat → Type} (k : Nat) (l : List (Nat × TE X)) (t : Nat) : alook (unalT k l) t = (alook l t).map fun e => match e.x with
    | .al k' e' xs => ⟨e.g, bif Nat.beq k' k then .a (.l e' xs) else .al k' e' xs⟩
    | _ => e := by
  induction l with
  | nil => rfl
  | cons e l ih =>
    obtain ⟨t', g, u⟩ := e
    cases u <;> simp only [unalT, alook, ih] <;> cases Nat.beq t' t <;> simp
theorem noSpT_unal {X : Nat → Type} (k k' : Nat) (l : List (Nat × TE X)) : noSpT k (unalT k' l) = noSpT k l := by
  induction l with
  | nil => rfl
  | cons e l ih =>
    obtain ⟨t', g, u⟩ := e
    cases u <;> simp only [unalT, noSpT_cons, ih, isSp]
    rename_i k2 e xs
    cases Nat.beq k2 k' <;> simp [isSp]
theorem noSp_unal (k k' : Nat) (l : List (Nat × XV)) : noSp k (unal k' l) = noSp k l := by
  induction l with
  | nil => rfl
  | cons e l ih =>
    obtain ⟨t', u⟩ := e
    cases u <;> simp only [unal, noSp_cons, ih, isSpA]
    rename_i k2 xs
    cases Nat.beq k2 k' <;> simp [isSpA]
theorem holds_unal {X : Nat → Type} {s : TSt X} {k : Nat} {g : Chain} {env : List (Nat × TSV X)} : holds { s with env := env, tmp := unalT k s.tmp } g ↔ holds s g := by
  unfold holds
  constructor
  · intro h p hp
    obtain ⟨c, hc⟩ := h p hp
    simp only [alook_unalT, Option.map_eq_some_iff] at hc
    obtain ⟨e, h1, h2⟩ := hc
    refine ⟨e.g, ?_⟩
    rw [h1]
    obtain ⟨g', y⟩ := e
    cases y <;> simp only [TE.mk.injEq] at h2 ⊢ <;> (try (cases h2.2; done))
    · simp [h2.2]
    · rename_i k2 e xs
      cases hb : Nat.beq k2 k <;> rw [hb] at h2 <;> simp at h2
  · intro h p hp
    obtain ⟨c, hc⟩ := h p hp
    refine ⟨c, ?_⟩
    simp only [alook_unalT, hc, Option.map_some]
theorem TR.unal {tmp : List (Nat × XV)} (h : TR x.U ρ s tmp) (k : Nat) (env : List (Nat × TSV x.X)) : TR x.U ρ { s with env := env, tmp := unalT k s.tmp } (unal k tmp) := by
  refine ⟨fun t' h' => ?_, fun t' e h' => ?_, fun t' e h' p hp => ?_, fun k h' => ?_⟩
  · simp only [alook_unalT, Option.map_eq_none_iff] at h'
    rw [alook_unal, h.no t' h']; rfl
  · simp only [alook_unalT, Option.map_eq_some_iff] at h'
    obtain ⟨e', h1, h2⟩ := h'
    obtain ⟨y, k1, k2, k3⟩ := h.yes t' e' h1
    rw [alook_unal, k1]
    have hg : e.g = e'.g := by
      obtain ⟨g', y'⟩ := e'
      cases y' <;> simp only at h2 <;> subst h2 <;> rfl
    refine ⟨_, rfl, fun hh => ?_, fun hh => ?_⟩
    · have := k2 (by rw [← hg]; exact holds_unal.1 hh)
      obtain ⟨g', y'⟩ := e'
      cases this <;> simp only at h2 <;> subst h2 <;> (try exact this)
      · rename_i hv; exact .a _ _ hv
      · exact .sp _ _
      · rename_i hd; exact .fp _ _ hd
      · rename_i hj; exact .ap _ _ _ _ _ _ hj
      · exact .own _ _
      · rename_i k' e xs
        cases hb : Nat.beq k' k with
        | true => simp only [hb, cond_true]; exact .a _ _ (.d _ _ rfl)
        | false => simp only [hb, cond_false]; exact .al _ _ _
      · exact .un
    · have := k3 fun h3 => hh (holds_unal.2 (by rw [hg]; exact h3))
      subst this
      rfl
  · simp only [alook_unalT, Option.map_eq_some_iff] at h'
    obtain ⟨e', h1, h2⟩ := h'
    have hg : e.g = e'.g := by
      obtain ⟨g', y'⟩ := e'
      cases y' <;> simp only at h2 <;> subst h2 <;> rfl
    have := h.wf t' e' h1 p (hg ▸ hp)
    simp only [alook_unalT, Option.isSome_map]
    exact this
  · simp only [noSpT_unal] at h'
    rw [noSp_unal]
    exact h.nosp k h'
theorem putOwn_ok (r : Rel x.U ρ h0 s a) {fa : FA} {dst : Option Tmp} {e : Nat} {xs : List (x.X e)} (h : putOwnT fa s dst e xs = some s') : ∃ a', a.putOwn fa dst (xs.map (x.U.enc e)) = some a' ∧ Rel x.U ρ h0 s' a' := by
  cases dst with
  | none => simp [putOwnT] at h
  | some t =>
    simp only [putOwnT] at h
    simp only [St.putOwn]
    cases hb : Nat.blt t fa.nt with
    | false => rw [hb] at h; cases h
    | true =>
      rw [hb] at h
      simp only [cond_true] at h ⊢
      cases hk : has fa.keep t with
      | true =>
        rw [hk] at h
        simp only [cond_true, Option.some.injEq] at h ⊢
        subst h
        exact ⟨_, rfl, r.env.put t (.own _ _), r.tmp.unal _ _, r.heap⟩
      | false =>
        rw [hk] at h
        simp only [cond_false] at h ⊢
        split at h
        · rename_i hn
          simp only [Option.some.injEq] at h
          subst h
          exact ⟨_, rfl, r.env, r.tmp.put hn (fun p hp => by simp at hp) (fun _ => .own _ _) (fun h => absurd (fun p hp => by simp at hp) h), r.heap⟩
        · cases h
theorem holds_nil {X : Nat → Type} (s : TSt X) : holds s [] := fun p hp => by simp at hp
theorem loseEnv_ok (r : Rel x.U ρ h0 s a) (k : Nat) : Rel x.U ρ h0 (loseEnvT s k) (a.loseEnv k) := by
  unfold loseEnvT St.loseEnv
  cases hk : alook s.env k with
  | none =>
    simp only
    cases ha : alook a.env k with
    | none => exact r
    | some w =>
      cases w with
      | own es =>
        refine ⟨fun t v hv => ?_, ⟨r.tmp.no, r.tmp.yes, r.tmp.wf, r.tmp.nosp⟩, r.heap⟩
        obtain ⟨w, h1, h2⟩ := r.env t v hv
        refine ⟨w, ?_, h2⟩
        simp only [alook_aput]
        cases hb : Nat.beq k t with
        | true => rw [← Nat.eq_of_beq_eq_true hb, hk] at hv; cases hv
        | false => simpa using h1
      | _ => exact r
  | some v =>
    obtain ⟨w, h1, h2⟩ := r.env k v hk
    cases h2 with
    | val v w h3 => simp only [h1]; exact r
    | own e xs =>
      simp only [h1]
      exact ⟨r.env.put k (.val _ _ (.d _ _ rfl)), ⟨r.tmp.no, r.tmp.yes, r.tmp.wf, r.tmp.nosp⟩, r.heap⟩
    | box cs ds h3 => simp only [h1]; exact r
theorem own_ok (r : Rel x.U ρ h0 s a) {ty : Nat} {o : Operand} {e : Nat} {xs : List (x.X e)} (h : ownT x s ty o = some ⟨e, xs⟩) :
    ownOf a o = some (xs.map (x.U.enc e)) ∧ Rel x.U ρ h0 (loseT s o) (a.lose o) ∧ ∃ es, opd a o = some (.a (.d (.slc es))) := by
  cases o with
  | tmp t =>
    simp only [ownT] at h
    cases ht : alook s.tmp t with
    | some en =>
      rw [ht] at h
      obtain ⟨g, y⟩ := en
      obtain ⟨z, h1, h2, -⟩ := r.tmp.yes t _ ht
      cases g with
      | cons => simp at h
      | nil =>
        replace h2 := h2 (holds_nil s)
        cases y <;> simp only at h <;> (try (cases h; done))
        · rename_i e' xs'
          simp only [Option.some.injEq, Sigma.mk.injEq] at h
          obtain ⟨rfl, h⟩ := h
          simp only [heq_eq_eq] at h
          subst h
          cases h2
          refine ⟨by simp only [ownOf, h1], ?_, ⟨xs'.map (x.U.enc e'), by simp only [opd, opx, h1]; rfl⟩⟩
          simp only [loseT, ht, St.lose, h1]
          refine ⟨r.env, ⟨fun t' h' => ?_, fun t' en h' => ?_, fun t' en h' p hp => ?_, fun k h' => ?_⟩, r.heap⟩
          · simp only [alook_ins] at h' ⊢
            cases hb : Nat.beq t t' with
            | true => rw [hb] at h'; cases h'
            | false => rw [hb] at h'; exact r.tmp.no t' (by simpa using h')
          · have hold : ∀ g, holds { s with tmp := ins s.tmp t ⟨[], .a (.l e' xs')⟩ } g ↔ holds s g := by
              intro g
              unfold holds
              constructor
              · intro h p hp
                obtain ⟨c, hc⟩ := h p hp
                simp only [alook_ins] at hc
                cases hb : Nat.beq t p.1 with
                | true => rw [hb] at hc; simp at hc
                | false => rw [hb] at hc; exact ⟨c, by simpa using hc⟩
              · intro h p hp
                obtain ⟨c, hc⟩ := h p hp
                refine ⟨c, ?_⟩
                simp only [alook_ins]
                cases hb : Nat.beq t p.1 with
                | true => rw [← Nat.eq_of_beq_eq_true hb, ht] at hc; simp at hc
                | false => simpa using hc
            simp only [alook_ins] at h' ⊢
            cases hb : Nat.beq t t' with
            | true =>
              rw [hb] at h'
              simp only [cond_true, Option.some.injEq] at h'
              subst h'
              exact ⟨_, rfl, fun _ => .a _ _ (.d _ _ rfl), fun hh => absurd (holds_nil _) hh⟩
            | false =>
              rw [hb] at h'
              obtain ⟨w, k1, k2, k3⟩ := r.tmp.yes t' en (by simpa using h')
              exact ⟨w, k1, fun hh => k2 ((hold _).1 hh), fun hh => k3 fun h4 => hh ((hold _).2 h4)⟩
          · simp only [alook_ins] at h' ⊢
            cases hb : Nat.beq t t' with
            | true =>
              rw [hb] at h'
              simp only [cond_true, Option.some.injEq] at h'
              subst h'
              simp at hp
            | false =>
              rw [hb] at h'
              cases Nat.beq t p.1 with
              | true => rfl
              | false => exact r.tmp.wf t' en (by simpa using h') p hp
          · simp only at h'
            rw [noSpT_ins _ _ _ _ (fun e' he => by rw [ht] at he; cases he; rfl), Bool.and_eq_true] at h'
            rw [noSp_ins _ _ _ _ (fun e' he => by rw [h1] at he; cases he; rfl), Bool.and_eq_true]
            exact ⟨rfl, r.tmp.nosp k h'.2⟩
        · rename_i k e' xs'
          cases h2
          split at h
          · rename_i e2 xs2 hk
            simp only [Option.some.injEq, Sigma.mk.injEq] at h
            obtain ⟨rfl, h⟩ := h
            simp only [heq_eq_eq] at h
            subst h
            obtain ⟨w, h3, h4⟩ := r.env _ _ hk
            cases h4
            exact ⟨by simp only [ownOf, h1, h3], by simp only [loseT, ht, St.lose, h1]; exact loseEnv_ok r k, ⟨xs'.map (x.U.enc e'), by simp only [opd, opx, h1]; rfl⟩⟩
          · cases h
    | none =>
      rw [ht] at h
      have h1 := r.tmp.no t ht
      simp only at h
      split at h
      · rename_i e2 xs2 hk
        simp only [Option.some.injEq, Sigma.mk.injEq] at h
        obtain ⟨rfl, h⟩ := h
        simp only [heq_eq_eq] at h
        subst h
        obtain ⟨w, h3, h4⟩ := r.env _ _ hk
        cases h4
        exact ⟨by simp only [ownOf, h1, h3], by simp only [loseT, ht, St.lose, h1]; exact loseEnv_ok r t, ⟨_, by simp only [opd, opx, h1, h3]; rfl⟩⟩
      · cases h
  | const v =>
    cases v <;> simp only [ownT] at h <;> (try (cases h; done))
    rename_i ad l c
    cases ad with
    | some ad => simp [ownT] at h
    | none =>
      cases l with
      | succ l => simp [ownT] at h
      | zero =>
        cases c with
        | succ c => simp [ownT] at h
        | zero =>
          simp only [ownT] at h
          split at h
          · rename_i e' he
            simp only [Option.some.injEq, Sigma.mk.injEq] at h
            obtain ⟨rfl, h⟩ := h
            simp only [heq_eq_eq] at h
            subst h
            exact ⟨rfl, r, ⟨[], rfl⟩⟩
          · cases h
  | func f => simp [ownT] at h
  | global g => simp [ownT] at h
theorem notOwn_ok (r : Rel x.U ρ h0 s a) {o : Operand} (h : notOwn s o = true) : ownOf a o = none := by
  cases o with
  | tmp t =>
    simp only [notOwn] at h
    cases ht : alook s.tmp t with
    | some en =>
      rw [ht] at h
      obtain ⟨g, y⟩ := en
      obtain ⟨z, h1, h2, -⟩ := r.tmp.yes t _ ht
      cases g with
      | cons => simp at h
      | nil =>
        replace h2 := h2 (holds_nil s)
        cases y <;> simp only at h <;> (try (cases h; done))
        cases h2
        simp only [ownOf, h1]
    | none =>
      rw [ht] at h
      simp only at h
      have h1 := r.tmp.no t ht
      split at h
      · rename_i v hk
        obtain ⟨w, h3, h4⟩ := r.env _ _ hk
        cases h4
        simp only [ownOf, h1, h3]
      · cases h
  | const v =>
    cases v <;> (try rfl)
    rename_i ad l c
    cases ad with
    | some ad => rfl
    | none =>
      cases l with
      | succ l => rfl
      | zero =>
        cases c with
        | succ c => rfl
        | zero => simp [notOwn] at h
  | func f => rfl
  | global g => rfl
end
end Go.Tev
namespace Go.Tev
open Go.Abs

section
variable {x : Cx} {ρ : List Rf} {h0 : Base} {s s' : TSt x.X} {a : St}

theorem bif_some0 {α : Type} {b : Bool} {q : Option α} {y : α} (h : (bif b then q else none) = some y) : b = true ∧ q = some y := by
  cases b with
  | false => cases h
  | true => exact ⟨rfl, h⟩
theorem alook_mem0 {α : Type} : ∀ {l : List (Nat × α)} {t : Nat} {v : α}, alook l t = some v → (t, v) ∈ l
  | [], t, v, h => by simp [alook] at h
  | (k, u) :: l, t, v, h => by
    simp only [alook] at h
    cases hb : Nat.beq k t with
    | true =>
      rw [hb] at h
      simp only [cond_true, Option.some.injEq] at h
      subst h
      rw [Nat.eq_of_beq_eq_true hb]
      exact List.mem_cons_self
    | false => rw [hb] at h; exact List.mem_cons_of_mem _ (alook_mem0 h)
theorem injL_dv0 (ok : x.U.Ok x.C) (ts : List Nat) : ∀ (ws : List (TV x.X)) (y : PX x.X ts) (f : PX x.X ts → List (TV x.X)), prjL x.U ts ws = some y → injL x.U ts = some f → dvL x.U (f y) = dvL x.U ws := by
  induction ts with
  | nil =>
    intro ws y f h hf
    cases ws with
    | nil => simp only [injL, Option.some.injEq] at hf; subst hf; rfl
    | cons => rw [prjL_nil1] at h; cases h
  | cons t r ih =>
    intro ws y f h hf
    cases r with
    | nil =>
      cases ws with
      | nil => rw [prjL_one0] at h; cases h
      | cons v ws =>
        cases ws with
        | cons => rw [prjL_one2] at h; cases h
        | nil =>
          rw [prjL_one] at h
          simp only [injL] at hf
          cases hg : x.U.inj t with
          | none => rw [hg] at hf; cases hf
          | some g =>
            rw [hg] at hf
            simp only [Option.some.injEq] at hf
            subst hf
            have h1 := ok.inj t g y hg
            have h2 := ok.prj t v y h
            rw [dvL_one h1, dvL_one h2]
    | cons u r =>
      cases ws with
      | nil => rw [prjL_two0] at h; cases h
      | cons v ws =>
        rw [prjL_two] at h
        cases hz : x.U.prj t v with
        | none => rw [hz] at h; cases h
        | some y1 =>
          rw [hz] at h
          cases hzs : prjL x.U (u :: r) ws with
          | none => rw [hzs] at h; cases h
          | some ys =>
            rw [hzs] at h
            have hy : y = (y1, ys) := (Option.some.inj h).symm
            subst hy
            simp only [injL] at hf
            cases hg : x.U.inj t with
            | none => rw [hg] at hf; cases hf
            | some g =>
              rw [hg] at hf
              cases hg2 : injL x.U (u :: r) with
              | none => rw [hg2] at hf; cases hf
              | some g2 =>
                rw [hg2] at hf
                simp only [Option.some.injEq] at hf
                subst hf
                have h1 := ok.inj t g y1 hg
                have h2 := ok.prj t v y1 hz
                have h3 := ih ws ys g2 hzs hg2
                simp only [dvL]
                rw [h1, h2, h3]
theorem chOk_nil {X : Nat → Type} (s : TSt X) : chOk s [] := fun p hp => by simp at hp
theorem TR.same {s t : TSt x.X} {tmp : List (Nat × XV)} (h : TR x.U ρ s tmp) (ht : t.tmp = s.tmp) : TR x.U ρ t tmp := by
  obtain ⟨e, tm, hp⟩ := s
  obtain ⟨e', tm', hp'⟩ := t
  simp only at ht
  subst ht
  exact ⟨h.no, h.yes, h.wf, h.nosp⟩
theorem Rel.heap_env (r : Rel x.U ρ h0 s a) {σ : List Rf} (hs : ρ <+: σ) {H : List (TObj x.X)} {h : List AObj} (hh : HR x.U σ h0 H h) : Rel x.U σ h0 { s with heap := H } { a with heap := h } :=
  ⟨r.env.mono hs, (r.tmp.mono hs).same rfl, hh⟩
theorem one_is {α : Type} {q : Option α} {pr : PR (Option α)} {y : α} (h : one q = some pr) (hi : PR.Is True pr (some y)) : q = some y := by
  cases q with
  | none => cases h
  | some b =>
    simp only [one, Option.some.injEq] at h
    subst h
    exact hi.symm

theorem vcellsA (ok : x.U.Ok x.C) {v : TV x.X} {w : AV} {cs : List (TV x.X)} (hv : VRel x.U ρ v w) (h : x.vcells v = some cs) : w.cellOk = true ∧ VRels x.U ρ cs w.cells := by
  cases hv with
  | d v d hd =>
    have h1 := vcells_dv ok hd h
    refine ⟨?_, by rw [av_cells]; exact VRels.of_dvL h1⟩
    cases v <;> simp only [TV.dv] at hd <;> (try (cases hd; done)) <;> (try (simp only [Option.some.injEq] at hd; subst hd; first | rfl | exact ok.ok _ _))
    · simp only [Option.map_eq_some_iff] at hd; obtain ⟨ds, _, rfl⟩ := hd; rfl
    · simp only [Option.map_eq_some_iff] at hd; obtain ⟨ds, _, rfl⟩ := hd; rfl
    · simp [Cx.vcells] at h
  | ptr j i off hj =>
    simp only [Cx.vcells, Option.some.injEq] at h; subst h
    exact ⟨rfl, rfl, fun k v a h1 h2 => by cases k <;> simp [AV.cells] at h1 h2; subst h1; subst h2; exact .ptr _ _ _ hj⟩
  | osl j i g e n hj =>
    simp only [Cx.vcells, Option.some.injEq] at h; subst h
    exact ⟨rfl, rfl, fun k v a h1 h2 => by cases k <;> simp [AV.cells] at h1 h2; subst h1; subst h2; exact .osl _ _ _ _ _ hj⟩
  | mp j i hj =>
    simp only [Cx.vcells, Option.some.injEq] at h; subst h
    exact ⟨rfl, rfl, fun k v a h1 h2 => by cases k <;> simp [AV.cells] at h1 h2; subst h1; subst h2; exact .mp _ _ hj⟩
  | fn f caps as hl hh =>
    simp only [Cx.vcells, Option.some.injEq] at h; subst h
    have h1 : (mkFn f as).cells = [mkFn f as] ∧ (mkFn f as).cellOk = true := by unfold mkFn; split <;> exact ⟨rfl, rfl⟩
    refine ⟨h1.2, by rw [h1.1]; rfl, fun k v a h2 h3 => ?_⟩
    rw [h1.1] at h3
    cases k <;> simp at h2 h3
    subst h2; subst h3; exact .fn _ _ _ hl hh
  | tup => simp [Cx.vcells] at h
theorem alloc_ok (r : Rel x.U ρ h0 s a) {fa : FA} {dst : Option Tmp} {cs : List (TV x.X)} {w : AV} (h1 : w.cellOk = true) (h2 : VRels x.U ρ cs w.cells) (h3 : cs.all isD = true → ∃ d, w = .d d) (hc : (∃ ds, dvL x.U cs = some ds) ∨ cs.all isD = false) (h : allocT x fa s dst cs = some s') :
    ∃ σ a', ρ <+: σ ∧ evAlloc fa a dst w = some a' ∧ Rel x.U σ h0 s' a' := by
  unfold allocT at h
  unfold evAlloc
  rw [h1]
  simp only [Bool.not_true, cond_false]
  cases hp : isHeapy fa dst with
  | true =>
    rw [hp] at h
    simp only [cond_true] at h ⊢
    have hs : ρ <+: ρ ++ [Rf.mk a.heap.length 0] := List.prefix_append _ _
    have hr := r.heap_env hs (r.heap.push (.var 0 cs w.cells ⟨h2.1, fun k v a h3 h4 => (h2.2 k v a h3 h4).mono hs⟩))
    obtain ⟨a', k1, k2⟩ := put_act (z := .a (.ptr a.heap.length 0)) hr (chOk_nil _) (holds_nil _) (.a _ _ (.ptr _ ⟨a.heap.length, 0⟩ _ (by rw [← r.heap.len]; simp))) h
    exact ⟨_, a', hs, k1, k2⟩
  | false =>
    rw [hp] at h
    simp only [cond_false] at h ⊢
    split at h
    · rename_i t
      cases hb : (has fa.keep t && noSpT t s.tmp && Nat.blt t fa.nt && cs.all isD) with
      | false => rw [hb] at h; cases h
      | true =>
        rw [hb] at h
        simp only [cond_true, Option.some.injEq] at h
        subst h
        simp only [Bool.and_eq_true] at hb
        obtain ⟨⟨⟨b1, b2⟩, b3⟩, b4⟩ := hb
        obtain ⟨d, rfl⟩ := h3 b4
        rcases hc with ⟨ds, hd⟩ | hc
        · have h5 := h2.dv hd
          rw [av_cells] at h5
          have h5 : d.cells = ds := List.map_inj_right (fun p q h => by cases h; rfl) |>.1 h5
          simp only [b1, r.tmp.nosp _ b2, b3, Bool.and_self, cond_true, h5]
          exact ⟨ρ, _, List.prefix_rfl, rfl, r.env.put t (.box _ _ hd), r.tmp.same rfl, r.heap⟩
        · rw [hc] at b4; cases b4
    · cases h
theorem take_ok (ok : x.U.Ok x.C) (r : Rel x.U ρ h0 s a) {fa : FA} {dst : Option Tmp} {ty : Nat} {o : Operand} (h : takeT x fa s dst ty o = some s') : ∃ a', evTake fa a dst o = some a' ∧ Rel x.U ρ h0 s' a' := by
  unfold takeT at h
  unfold evTake
  split at h
  · rename_i e xs ho
    obtain ⟨h1, h2, _⟩ := own_ok r ho
    rw [h1]
    exact putOwn_ok h2 h
  · cases hn : notOwn s o with
    | false => rw [hn] at h; cases h
    | true =>
      rw [hn] at h
      simp only [cond_true] at h
      rw [notOwn_ok r hn]
      split at h
      · rename_i y hy
        split at h
        · rename_i z hz
          obtain ⟨w, h1, h2⟩ := topd_ok r (holds_nil _) hy
          simp only [h1]
          exact put_act r (chOk_nil _) (holds_nil _) (coerceX_ok ok h2 hz) h
        · cases h
      · cases h
theorem av_single {d : DV} (h : ∀ cs, d ≠ .agg cs) : (AV.d d).single = true ∧ d.cells = [d] := by
  cases d <;> first | exact ⟨rfl, rfl⟩ | exact absurd rfl (h _)
theorem spliceA {cs vs cs' : List (TV x.X)} {as ws : List AV} {off : Nat} (h1 : VRels x.U ρ cs as) (h2 : VRels x.U ρ vs ws) (h : splice cs off vs = some cs') : ∃ as', splice as off ws = some as' ∧ VRels x.U ρ cs' as' := by
  unfold splice at h ⊢
  rw [h1.1, h2.1] at h
  cases hb : Nat.ble (off + ws.length) as.length with
  | false => rw [hb] at h; cases h
  | true =>
    rw [hb] at h
    simp only [cond_true, Option.some.injEq] at h ⊢
    subst h
    exact ⟨_, rfl, ((h1.take _).append h2).append (h1.drop _)⟩
theorem allD_inv : ∀ {as : List AV} {ds : List DV}, allD as = some ds → as = ds.map .d
  | [], ds, h => by simp only [allD, mapO, Option.some.injEq] at h; subst h; rfl
  | b :: as, ds, h => by
    unfold allD at h
    simp only [mapO] at h
    cases b <;> simp only [AV.toD] at h <;> (try (cases h; done))
    split at h
    · rename_i ys hys
      simp only [Option.some.injEq] at h
      subst h
      rw [allD_inv hys]; rfl
    · cases h
theorem set_map {α β : Type} (f : α → β) (l : List α) (i : Nat) (y : α) : (l.map f).set i (f y) = (l.set i y).map f := by rw [List.map_set]
theorem store_ok (ok : x.U.Ok x.C) (r : Rel x.U ρ h0 s a) {t : Nat} {p : TX x.X} {pw : XV} {v : TV x.X} {w : AV} {pr : PR (Option (TSt x.X))} (hp : XRel x.U ρ p pw) (hv : VRel x.U ρ v w) (h : storeT x t s p v = some pr) (hi : PR.Is True pr (some s')) :
    ∃ a', evStore x.C t a pw w = some a' ∧ Rel x.U ρ h0 s' a' := by
  unfold storeT at h
  unfold evStore
  split at h
  · rename_i n vs hn hvs
    rw [hn]
    obtain ⟨hc1, hc2⟩ := vcellsA ok hv hvs
    cases hb : Nat.beq n vs.length with
    | false => rw [hb] at h; cases h
    | true =>
      rw [hb] at h
      have hb' := hb
      rw [hc2.1] at hb'
      simp only [cond_true, hb', hc1, Bool.and_self] at h ⊢
      cases hp with
      | sp k off =>
        simp only at h ⊢
        split at h
        · rename_i cs hk
          cases hd : vs.all isD with
          | false => rw [hd] at h; cases h
          | true =>
            rw [hd] at h
            simp only [cond_true] at h
            split at h
            · rename_i cs' hsp
              simp only [Option.some.injEq] at h
              subst h
              simp only [PR.Is, Option.some.injEq] at hi
              subst hi
              obtain ⟨b, h1, h2⟩ := r.env _ _ hk
              cases h2 with
              | box _ ds hds =>
                simp only [h1]
                have : ∃ es, dvL x.U vs = some es := by
                  clear hsp hvs hc2 hb hb'
                  induction vs with
                  | nil => exact ⟨[], by simp only [dvL]⟩
                  | cons u vs ih =>
                    simp only [List.all_cons, Bool.and_eq_true] at hd
                    obtain ⟨d, h3, _⟩ := isD_dv ok hd.1
                    obtain ⟨es, h4⟩ := ih hd.2
                    exact ⟨_, dvL_mk h3 h4⟩
                obtain ⟨es, hes⟩ := this
                obtain ⟨ds', h5, h6⟩ := dvL_splice hds hes hsp
                rw [hc2.dv hes, allD_map]
                simp only [h5]
                exact ⟨_, rfl, r.env.put _ (.box _ _ h6), r.tmp.same rfl, r.heap⟩
            · cases h
        · cases h
      | ap j i g e ix off hj =>
        simp only at h ⊢
        split at h
        · rename_i g' ap e' xs hh
          cases hg : Nat.beq g' g with
          | false => rw [hg] at h; cases h
          | true =>
            rw [hg] at h
            simp only [cond_true] at h
            split at h
            · rename_i ys hcast
              obtain ⟨he, hcast⟩ := castL_ok hcast
              subst he
              simp only at hcast
              subst hcast
              obtain ⟨ao, k1, k2⟩ := obj_ok r.heap hh hj
              cases k2
              have hgg := Nat.eq_of_beq_eq_true hg
              subst hgg
              simp only [liveArr, k1, Nat.beq_refl, cond_true, setArr]
              split at h
              · rename_i hag
                cases ho : (Nat.beq off 0 && cszIs x.U e' 1) with
                | false => rw [ho] at h; cases h
                | true =>
                  rw [ho] at h
                  simp only [cond_true] at h
                  simp only [Bool.and_eq_true, Nat.beq_eq] at ho
                  obtain ⟨rfl, hcs⟩ := ho
                  have hcs := cszIs_ok hcs
                  split at h
                  · rename_i y hy
                    simp only [Option.some.injEq] at h
                    subst h
                    obtain ⟨zs, h1, h2⟩ := hi
                    have h1 := h1 trivial
                    simp only [Option.some.injEq] at h2
                    subst h2
                    split at h1
                    · rename_i hlt
                      simp only [Option.some.injEq] at h1
                      subst h1
                      have hwd := hv.isD (ok.prj _ _ _ hy)
                      subst hwd
                      have s1 := av_single (fun cs => ok.noagg e' 1 y hag hcs cs)
                      have s2 := av_single (fun cs => ok.noagg e' 1 xs[ix] hag hcs cs)
                      have hpk : packCells (AV.d (x.U.enc e' xs[ix])) [AV.d (x.U.enc e' y)] = some (AV.d (x.U.enc e' y)) := by
                        unfold packCells
                        have hne := fun cs => ok.noagg e' 1 xs[ix] hag hcs cs
                        split
                        · rename_i cs heq; simp only [AV.d.injEq] at heq; exact absurd heq (hne _)
                        · simp only [s1.1, cond_true]
                      simp only [List.getElem?_map, List.getElem?_eq_getElem hlt, Option.map_some, av_cells, s1.2, s2.2, List.map_cons, List.map_nil, splice, List.length_cons, List.length_nil]
                      simp only [Nat.zero_add, show Nat.ble 1 1 = true from rfl, cond_true, List.take_zero, List.nil_append, List.drop_succ_cons, List.drop_zero, List.append_nil, List.drop_nil, hpk]
                      refine ⟨_, rfl, r.env, r.tmp.same rfl, ?_⟩
                      have := set_map (fun y => AV.d (x.U.enc e' y)) xs ix y
                      rw [this]
                      exact r.heap.set hj (.arr _ _ _ _ _)
                    · cases h1
                  · cases h
              · rename_i hag
                split at h
                · rename_i f hf
                  simp only [Option.some.injEq] at h
                  subst h
                  obtain ⟨z, h1, h2⟩ := hi
                  have h1 := h1 trivial
                  have h2 := h2.symm
                  simp only at h2
                  split at h2
                  · rename_i cs' hsp
                    split at h2
                    · rename_i y' hy'
                      simp only [Option.some.injEq] at h2
                      subst h2
                      have hagg := ok.agg _ f z hag hf
                      obtain ⟨as', h5, h6⟩ := spliceA (VRels.of_dvL (ok.cells _ _ z hf)) hc2 hsp
                      obtain ⟨ds, h7, h8⟩ := ok.pack _ _ _ hy'
                      have h9 := h6.dv h7
                      subst h9
                      have hpk : packCells (AV.d (x.U.enc e' z)) (ds.map .d) = some (AV.d (x.U.enc e' y')) := by
                        unfold packCells
                        rw [hagg]
                        simp only [allD_map, Option.map_some, h8]
                      simp only [List.getElem?_map, h1, Option.map_some, av_cells, h5, hpk]
                      refine ⟨_, rfl, r.env, r.tmp.same rfl, ?_⟩
                      have := set_map (fun y => AV.d (x.U.enc e' y)) xs ix y'
                      rw [this]
                      exact r.heap.set hj (.arr _ _ _ _ _)
                    · cases h2
                  · cases h2
                · cases h
              · cases h
            · cases h
        · cases h
      | a u uw hu =>
        cases u <;> simp only at h <;> (try (cases h; done))
        cases hu with
        | d v d hd => simp [TV.dv] at hd
        | ptr _ i _ hj =>
          split at h
          · rename_i cs hh
            split at h
            · rename_i cs' hsp
              simp only [Option.some.injEq] at h
              subst h
              simp only [PR.Is, Option.some.injEq] at hi
              subst hi
              obtain ⟨ao, k1, k2⟩ := obj_ok r.heap hh hj
              cases k2 with
              | var _ as has =>
                obtain ⟨as', h5, h6⟩ := spliceA has hc2 hsp
                simp only [k1, h5]
                exact ⟨_, rfl, r.env, r.tmp.same rfl, r.heap.set hj (.var _ _ _ h6)⟩
            · cases h
          · cases h
      | fp => simp at h
      | own => simp at h
      | al => simp at h
      | un => simp at h
  · cases h
end
end Go.Tev
namespace Go.Tev
open Go.Abs

def EncR (U : Uni) : (r : RK) → r.T U.X → AObj → Prop
  | .map k v, es, ao => ao = .map ((show List (U.X k × U.X v) from es).map fun p => (U.enc k p.1, AV.d (U.enc v p.2)))
  | .var ts, y, ao => ∃ f ds, injL U ts = some f ∧ dvL U (f y) = some ds ∧ ao = .var (ds.map .d)
def EncRs (U : Uni) : (rs : List RK) → PR' U.X rs → List Nat → List AObj → Prop
  | [], _, [], _ => True
  | r :: rs, y, i :: ids, h => (∃ ao, h[i]? = some ao ∧ EncR U r y.1 ao) ∧ EncRs U rs y.2 ids h
  | _, _, _, _ => False
def argsR : List AR → List DV → List Nat → Option (List AV)
  | [], [], [] => some []
  | .fn f :: r, ds, ids => match argsR r ds ids with
    | some as => some (.d (.fn f []) :: as)
    | none => none
  | .ty _ :: r, d :: ds, ids => match argsR r ds ids with
    | some as => some (.d d :: as)
    | none => none
  | .ref (.map _ _) :: r, ds, i :: ids => match argsR r ds ids with
    | some as => some (.mp i :: as)
    | none => none
  | .ref (.var _) :: r, ds, i :: ids => match argsR r ds ids with
    | some as => some (.ptr i 0 :: as)
    | none => none
  | _, _, _ => none
/-- what a callee that writes answers, and leaves -/
def MeetsR (U : Uni) (call : CallT) (f : FuncId) (c : TCallR U.X) : Prop := ∀ vs a ds ids as cs (h : List AObj) r g, prjL U (AR.tys c.ak) vs = some a → dvL U vs = some ds → argsR c.ak ds ids = some as → ids.Nodup → EncRs U (AR.refs c.ak) cs ids h →
  c.fn a cs = some r → resT U c.rts = some g → ∃ d h', (g r.1).dv U = some d ∧ call f as h = some (.d d, h') ∧ EncRs U (AR.refs c.ak) r.2 ids h' ∧ (∀ (i : Nat), i < h.length → i ∉ ids → h'[i]? = h[i]?) ∧ h.length ≤ h'.length
structure CallsOk (x : Cx) (call : CallT) : Prop where
  t : ∀ p ∈ x.T, Meets x.U call p.1 p.2
  r : ∀ p ∈ x.TR, MeetsR x.U call p.1 p.2

section
variable {x : Cx} {ρ : List Rf} {h0 : Base} {s s' : TSt x.X} {a : St}

inductive At (ρ : List Rf) : List Nat → List Nat → Prop where
  | nil : At ρ [] []
  | cons (j : Nat) (i : Rf) (js ids) (h : ρ[j]? = some i) (t : At ρ js ids) : At ρ (j :: js) (i.id :: ids)
theorem At.mem {js ids : List Nat} (h : At ρ js ids) : ∀ i ∈ ids, ∃ j ∈ js, ∃ f, ρ[j]? = some f ∧ f.id = i := by
  induction h with
  | nil => intro i hi; simp at hi
  | cons j i js ids h t ih =>
    intro k hk
    rcases List.mem_cons.1 hk with rfl | hk
    · exact ⟨j, List.mem_cons_self, _, h, rfl⟩
    · obtain ⟨j', h1, h2⟩ := ih k hk
      exact ⟨j', List.mem_cons_of_mem _ h1, h2⟩
theorem id_inj (hn : (ρ.map Rf.id).Nodup) {j j' : Nat} {i i' : Rf} (h1 : ρ[j]? = some i) (h2 : ρ[j']? = some i') (h : i.id = i'.id) : j = j' := by
  obtain ⟨a1, a2⟩ := List.getElem?_eq_some_iff.1 h1
  obtain ⟨b1, b2⟩ := List.getElem?_eq_some_iff.1 h2
  refine (List.getElem_inj hn (i := j) (j := j') (h₀ := by simpa using a1) (h₁ := by simpa using b1)).1 ?_
  simp only [List.getElem_map, a2, b2, h]
theorem At.nodup (hn : (ρ.map Rf.id).Nodup) {js ids : List Nat} (h : At ρ js ids) (hj : js.Nodup) : ids.Nodup := by
  induction h with
  | nil => exact List.nodup_nil
  | cons j i js ids h t ih =>
    rw [List.nodup_cons] at hj ⊢
    refine ⟨fun hm => ?_, ih hj.2⟩
    obtain ⟨j', h1, f, h2, h3⟩ := t.mem i.id hm
    have := id_inj hn h h2 h3.symm
    subst this
    exact hj.1 h1
theorem nodupB_ok : ∀ {js : List Nat}, nodupB js = true → js.Nodup
  | [], _ => List.nodup_nil
  | j :: js, h => by
    simp only [nodupB, Bool.and_eq_true, Bool.not_eq_true'] at h
    rw [List.nodup_cons]
    exact ⟨fun hm => by rw [has_iff.2 hm] at h; exact absurd h.1 (by simp), nodupB_ok h.2⟩
theorem split_ok (ak : List AR) : ∀ (vs us : List (TV x.X)) (as : List AV) (js : List Nat) (ds : List DV), VRels x.U ρ vs as → splitR ak vs = some (us, js) → dvL x.U us = some ds → ∃ ids, argsR ak ds ids = some as ∧ At ρ js ids := by
  induction ak with
  | nil =>
    intro vs us as js ds hv h hd
    cases vs with
    | cons => simp [splitR] at h
    | nil =>
      simp only [splitR, Option.some.injEq, Prod.mk.injEq] at h
      obtain ⟨rfl, rfl⟩ := h
      rw [dvL_nil hd]
      cases as with
      | nil => exact ⟨[], rfl, .nil⟩
      | cons => have := hv.1; simp at this
  | cons k r ih =>
    intro vs us as js ds hv h hd
    cases vs with
    | nil => cases k with
      | ref k => cases k <;> simp [splitR] at h
      | _ => simp [splitR] at h
    | cons v vs =>
      cases as with
      | nil => have := hv.1; simp at this
      | cons b as =>
        have hb := hv.2 0 v b rfl rfl
        have hr : VRels x.U ρ vs as := ⟨by simpa using hv.1, fun k v a h1 h2 => hv.2 (k + 1) v a (by simpa using h1) (by simpa using h2)⟩
        cases k with
        | ty t =>
          simp only [splitR] at h
          split at h
          · rename_i ws js' hsp
            simp only [Option.some.injEq, Prod.mk.injEq] at h
            obtain ⟨rfl, rfl⟩ := h
            obtain ⟨d, ds', h1, h2, rfl⟩ := dvL_cons hd
            obtain ⟨ids, h3, h4⟩ := ih vs ws as js' ds' hr hsp h2
            rw [hb.isD h1]
            exact ⟨ids, by simp only [argsR, h3], h4⟩
          · cases h
        | fn f =>
          cases v with
          | fn f' caps =>
            cases caps with
            | cons => simp [splitR] at h
            | nil =>
              simp only [splitR] at h
              obtain ⟨hf, h'⟩ := bif_some0 h
              rw [Nat.beq_eq] at hf
              subst hf
              obtain ⟨ids, h3, h4⟩ := ih vs us as js ds hr h' hd
              rw [hb.isD (d := .fn f []) rfl]
              exact ⟨ids, by simp only [argsR, h3], h4⟩
          | _ => simp [splitR] at h
        | ref k =>
          cases k with
          | map kt vt =>
            cases v <;> simp only [splitR] at h <;> (try (cases h; done))
            split at h
            · rename_i j ws js' hsp
              simp only [Option.some.injEq, Prod.mk.injEq] at h
              obtain ⟨rfl, rfl⟩ := h
              obtain ⟨ids, h3, h4⟩ := ih vs ws as js' ds hr hsp hd
              cases hb with
              | d v d hd => simp [TV.dv] at hd
              | mp _ i hj => exact ⟨i.id :: ids, by simp only [argsR, h3], .cons _ _ _ _ hj h4⟩
            · cases h
          | var ts =>
            cases v with
            | ptr j off =>
              cases off with
              | succ => simp [splitR] at h
              | zero =>
                simp only [splitR] at h
                split at h
                · rename_i ws js' hsp
                  simp only [Option.some.injEq, Prod.mk.injEq] at h
                  obtain ⟨rfl, rfl⟩ := h
                  obtain ⟨ids, h3, h4⟩ := ih vs ws as js' ds hr hsp hd
                  cases hb with
                  | d v d hd => simp [TV.dv] at hd
                  | ptr _ i _ hj => exact ⟨i.id :: ids, by simp only [argsR, h3], .cons _ _ _ _ hj h4⟩
                · cases h
            | _ => simp [splitR] at h
theorem getRef_ok (ok : x.U.Ok x.C) {r : RK} {o : TObj x.X} {y : r.T x.X} {ao : AObj} (h : getRef x.U r o = some y) {d : Nat} (ho : ORel x.U ρ d o ao) : EncR x.U r y ao := by
  cases r with
  | map k v =>
    cases o <;> simp only [getRef] at h <;> (try (cases h; done))
    rename_i k' v' es
    cases h1 : castX (X := fun n => List (x.U.X n × x.U.X v')) k' k es with
    | none => rw [h1] at h; cases h
    | some e1 =>
      rw [h1] at h
      obtain ⟨he, h1⟩ := castX_ok h1
      subst he
      cases h1
      obtain ⟨he, h2⟩ := castX_ok h
      subst he
      cases h2
      cases ho
      rfl
  | var ts =>
    cases o <;> simp only [getRef] at h <;> (try (cases h; done))
    rename_i cs
    cases hf : injL x.U ts with
    | none => rw [hf] at h; cases h
    | some f =>
      rw [hf] at h
      cases ho with
      | var _ as has =>
        obtain ⟨ds, h1⟩ := prjL_dv ok _ _ _ h
        have := has.dv h1
        subst this
        exact ⟨f, ds, hf, by rw [injL_dv0 ok ts cs y f h hf, h1], rfl⟩
theorem getRefs_ok (ok : x.U.Ok x.C) {H : List (TObj x.X)} {h : List AObj} (hr : HR x.U ρ h0 H h) : ∀ {rs : List RK} {js ids : List Nat} {cs : PR' x.X rs}, At ρ js ids → getRefs x.U H rs js = some cs → EncRs x.U rs cs ids h
  | [], _, _, cs, .nil, _ => trivial
  | [], _, _, cs, .cons _ _ _ _ _ _, h => by simp [getRefs] at h
  | r :: rs, _, _, cs, .nil, h => by simp [getRefs] at h
  | r :: rs, _, _, cs, .cons j i js ids hj ht, h => by
    simp only [getRefs] at h
    split at h
    · rename_i o ho
      split at h
      · rename_i y hy
        split at h
        · rename_i ys hys
          cases h
          obtain ⟨i', ao, k1, k2, k3⟩ := hr.obj j o ho
          rw [hj] at k1
          cases k1
          exact ⟨⟨ao, k2, getRef_ok ok hy k3⟩, getRefs_ok ok hr ht hys⟩
        · cases h
      · cases h
    · cases h
theorem setRef_ok {r : RK} {y : r.T x.X} {ao : AObj} (h : EncR x.U r y ao) (d : Nat) : ORel x.U ρ d (setRef x.U r y) ao := by
  cases r with
  | map k v =>
    have h : ao = _ := h
    subst h
    exact .map _ _ _ _
  | var ts =>
    obtain ⟨f, ds, h1, h2, rfl⟩ := h
    simp only [setRef, h1]
    exact .var _ _ _ (VRels.of_dvL h2)
theorem setRefs_len : ∀ {rs : List RK} {H : List (TObj x.X)} {js : List Nat} {y : PR' x.X rs}, (setRefs x.U H rs js y).length = H.length
  | [], H, js, y => rfl
  | r :: rs, H, [], y => rfl
  | r :: rs, H, j :: js, y => by simp only [setRefs]; rw [setRefs_len]; simp
theorem setRefs_out : ∀ {rs : List RK} {H : List (TObj x.X)} {js : List Nat} {y : PR' x.X rs} {j : Nat}, j ∉ js → (setRefs x.U H rs js y)[j]? = H[j]?
  | [], H, js, y, j, _ => rfl
  | r :: rs, H, [], y, j, _ => rfl
  | r :: rs, H, k :: js, y, j, hj => by
    simp only [setRefs]
    rw [setRefs_out (fun h => hj (List.mem_cons_of_mem _ h)), List.getElem?_set_ne (fun he => hj (by rw [← he]; exact List.mem_cons_self))]
/-- the heap behind a call -/
theorem setRefs_ok {H : List (TObj x.X)} {h h' : List AObj} (hr : HR x.U ρ h0 H h) {rs : List RK} {js ids : List Nat} {y : PR' x.X rs} (hat : At ρ js ids) (hn : js.Nodup) (he : EncRs x.U rs y ids h') (hf : ∀ (i : Nat), i < h.length → i ∉ ids → h'[i]? = h[i]?) (hl : h.length ≤ h'.length) :
    HR x.U ρ h0 (setRefs x.U H rs js y) h' := by
  have one : ∀ {rs : List RK} {H : List (TObj x.X)} {js ids : List Nat} {y : PR' x.X rs}, At ρ js ids → js.Nodup → EncRs x.U rs y ids h' → ∀ j ∈ js, ∀ o, (setRefs x.U H rs js y)[j]? = some o → ∃ i ao, ρ[j]? = some i ∧ h'[i.id]? = some ao ∧ ORel x.U ρ i.off o ao := by
    intro rs
    induction rs with
    | nil =>
      intro H js ids y hat hn he j hj o ho
      cases hat with
      | nil => simp at hj
      | cons => exact absurd he (by simp [EncRs])
    | cons r rs ih =>
      intro H js ids y hat hn he j hj o ho
      cases hat with
      | nil => simp at hj
      | cons k i js ids hk ht =>
        obtain ⟨⟨ao, e1, e2⟩, e3⟩ := he
        rw [List.nodup_cons] at hn
        simp only [setRefs] at ho
        rcases List.mem_cons.1 hj with rfl | hj
        · rw [setRefs_out hn.1, List.getElem?_set] at ho
          simp only [if_true] at ho
          split at ho
          · cases ho
            exact ⟨i, ao, hk, e1, setRef_ok e2 _⟩
          · cases ho
        · exact ih ht hn.2 e3 j hj o ho
  refine ⟨by rw [setRefs_len]; exact hr.len, hr.nd, fun j o hj => ?_, fun i hi hm => ?_, Nat.le_trans hr.grow hl, hr.fresh, hr.pre⟩
  · by_cases hm : j ∈ js
    · exact one hat hn he j hm o hj
    · rw [setRefs_out hm] at hj
      obtain ⟨i, ao, k1, k2, k3⟩ := hr.obj j o hj
      refine ⟨i, ao, k1, ?_, k3⟩
      rw [hf i.id (hr.lt (mem_id k1)) fun hmi => ?_, k2]
      obtain ⟨j', h1, f, h2, h3⟩ := hat.mem i.id hmi
      have := hr.inj k1 h2 h3.symm
      subst this
      exact hm h1
  · rw [hf i (Nat.lt_of_lt_of_le hi hr.grow) fun hmi => ?_]
    · exact hr.frame i hi hm
    · obtain ⟨j', h1, f, h2, h3⟩ := hat.mem i hmi
      exact hm (h3 ▸ mem_id h2)
theorem argsR_notD (ak : List AR) : ∀ {ds : List DV} {ids : List Nat} {as : List AV}, argsR ak ds ids = some as → ids ≠ [] → allD as = none := by
  induction ak with
  | nil =>
    intro ds ids as h hi
    cases ids with
    | nil => exact absurd rfl hi
    | cons => cases ds <;> simp [argsR] at h
  | cons k r ih =>
    intro ds ids as h hi
    have cons : ∀ {b : AV} {as : List AV}, allD as = none → allD (b :: as) = none := by
      intro b as h
      unfold allD at h ⊢
      simp only [mapO]
      cases b.toD with
      | none => rfl
      | some d => simp only [h]
    cases k with
    | ty t =>
      cases ds with
      | nil => simp [argsR] at h
      | cons d ds =>
        simp only [argsR] at h
        split at h
        · rename_i as' h1; cases h; exact cons (ih h1 hi)
        · cases h
    | fn f =>
      simp only [argsR] at h
      split at h
      · rename_i as' h1; cases h; exact cons (ih h1 hi)
      · cases h
    | ref k =>
      cases ids with
      | nil => exact absurd rfl hi
      | cons i ids =>
        cases k <;> simp only [argsR] at h <;> split at h <;> cases h <;> rfl
theorem callR_ok (ok : x.U.Ok x.C) {call : CallT} (hT : ∀ p ∈ x.TR, MeetsR x.U call p.1 p.2) (r : Rel x.U ρ h0 s a) {fa : FA} {dst : Option Tmp} {f : FuncId} {c : TCallR x.X} (hc : alook x.TR f = some c) {vs : List (TV x.X)} {as : List AV} (hv : VRels x.U ρ vs as)
    {pr : PR (Option (TSt x.X))} (h : callR x fa s dst c vs = some pr) (hi : PR.Is True pr (some s')) :
    allD as = none ∧ ∃ d h', call f as a.heap = some (.d d, h') ∧ ∃ a', { a with heap := h' }.put fa dst (.a (.d d)) = some a' ∧ Rel x.U ρ h0 s' a' := by
  unfold callR at h
  split at h
  · rename_i us js hsp
    cases hb : (nodupB js && !js.isEmpty) with
    | false => rw [hb] at h; cases h
    | true =>
      rw [hb] at h
      simp only [cond_true] at h
      simp only [Bool.and_eq_true] at hb
      split at h
      · rename_i y cs g hy hcs hg
        simp only [Option.some.injEq] at h
        subst h
        obtain ⟨rr, k1, k2⟩ := hi
        have k1 := k1 trivial
        have k2 := k2.symm
        simp only at k2
        obtain ⟨ds, hd⟩ := prjL_dv ok _ _ _ hy
        obtain ⟨ids, e1, e2⟩ := split_ok (ρ := ρ) c.ak vs us as js ds hv hsp hd
        have hn := nodupB_ok hb.1
        have hne : ids ≠ [] := by
          intro he
          subst he
          cases e2
          simp at hb
        obtain ⟨d, h', m1, m2, m3, m4, m5⟩ := hT (f, c) (alook_mem0 hc) us y ds ids as cs a.heap rr g hy hd e1 (e2.nodup r.heap.nd hn) (getRefs_ok ok r.heap e2 hcs) k1 hg
        have r2 := r.heap_env List.prefix_rfl (setRefs_ok r.heap e2 hn m3 m4 m5)
        obtain ⟨a', p1, p2⟩ := put_act (z := .a (.d d)) r2 (chOk_nil _) (holds_nil _) (.a _ _ (.d _ _ m1)) k2
        exact ⟨argsR_notD _ e1 hne, d, h', m2, a', p1, p2⟩
      · cases h
  · cases h
end
end Go.Tev
namespace Go.Tev
open Go.Abs

section
variable {x : Cx} {ρ : List Rf} {h0 : Base} {s s' : TSt x.X} {a : St}

theorem room_ok {C : Abs.Ctx} {t b n : Nat} (hb : C.elemBytes t = some b) {u : Unit} (h : room b n = some u) : roomOk C t n = true := by
  unfold room at h
  unfold roomOk
  rw [hb]
  split at h
  · rename_i hc
    simp only [Bool.and_eq_true, Nat.ble_eq]
    exact hc
  · cases h
theorem enc_map {e : Nat} (xs : List (x.X e)) : (xs.map (x.U.enc e)).map AV.d = xs.map fun y => AV.d (x.U.enc e y) := by simp [List.map_map, Function.comp_def]
theorem enc_head {e n : Nat} (ok : x.U.Ok x.C) (hc : x.U.csz e = some n) (xs : List (x.X e)) : headOk n (xs.map fun y => AV.d (x.U.enc e y)) = true := by
  cases xs with
  | nil => rfl
  | cons y xs =>
    simp only [List.map_cons, headOk, av_cells, List.length_map, Nat.beq_eq]
    exact ok.csz _ _ _ hc
theorem append_ok (ok : x.U.Ok x.C) (r : Rel x.U ρ h0 s a) {fa : FA} {dst : Option Tmp} {t : Nat} {so xo : Operand} {pr : PR (Option (TSt x.X))} (h : appendT x fa s dst t so xo = some pr) (hi : PR.Is True pr (some s')) :
    ∃ σ a', ρ <+: σ ∧ evAppend x.C fa a dst t so xo = some a' ∧ Rel x.U σ h0 s' a' := by
  unfold appendT at h
  split at h
  · rename_i e sz b he hsz hbt
    cases hb : (x.C.elemOk t sz && cszIs x.U e sz) with
    | false => rw [hb] at h; cases h
    | true =>
      rw [hb] at h
      simp only [cond_true] at h
      simp only [Bool.and_eq_true] at hb
      obtain ⟨heo, hcs⟩ := hb
      have hcs := cszIs_ok hcs
      split at h
      · rename_i nv hnv
        split at h
        · rename_i new hnew
          have hnd : nv.dv x.U = some (.slc (new.map (x.U.enc e))) := by
            split at hnew
            · rename_i e' ys
              obtain ⟨hee, hc⟩ := castL_ok hnew
              subst hee
              simp only at hc
              subst hc
              rfl
            · simp only [Option.some.injEq] at hnew; subst hnew; rfl
            · cases hnew
          obtain ⟨-, hxo, -⟩ := topD_ok r (holds_nil _) hnv hnd
          unfold evAppend
          rw [hsz, hxo]
          simp only
          split at h
          · rename_i j g eo n hso
            obtain ⟨z, hz1, hz2⟩ := topd_ok r (holds_nil _) hso
            obtain ⟨w, rfl, hz3⟩ := hz2.isA
            cases hz3 with
            | d v d hd => simp [TV.dv] at hd
            | osl _ i _ _ _ hj =>
              rw [hz1]
              simp only
              split at h
              · rename_i g' e' xs hh
                cases hg : (Nat.beq g g' && Nat.beq eo e) with
                | false => rw [hg] at h; cases h
                | true =>
                  rw [hg] at h
                  simp only [cond_true] at h
                  split at h
                  · rename_i ys hcast
                    obtain ⟨hee, hc⟩ := castL_ok hcast
                    subst hee
                    simp only at hc
                    subst hc
                    simp only [Option.some.injEq] at h
                    subst h
                    obtain ⟨zs, k1, k2⟩ := hi
                    have k1 := k1 trivial
                    have k2 := k2.symm
                    simp only at k2
                    split at k1
                    · rename_i hn
                      cases hr : room b (xs.length + new.length) with
                      | none => rw [hr] at k1; cases k1
                      | some u =>
                        rw [hr] at k1
                        simp only [Option.bind_some, Option.some.injEq] at k1
                        subst k1
                        obtain ⟨ao, k3, k4⟩ := obj_ok r.heap hh hj
                        cases k4
                        rw [k3]
                        subst hn
                        simp only [Bool.and_eq_true] at hg
                        have hgg := Nat.eq_of_beq_eq_true hg.1
                        subst hgg
                        have hlen : Nat.beq xs.length (xs.map fun y => AV.d (x.U.enc e' y)).length = true := by simp
                        simp only [Nat.beq_refl, hlen, enc_head ok hcs, sizes_enc ok hcs, List.length_map, room_ok hbt hr, heo, Bool.and_self, cond_true]
                        have hgo : g + i.off + 1 = g + 1 + i.off := by omega
                        have hm : (xs.map fun y => AV.d (x.U.enc e' y)) ++ (new.map (x.U.enc e')).map AV.d = (xs ++ new).map fun y => AV.d (x.U.enc e' y) := by rw [enc_map, List.map_append]
                        rw [hm]
                        have hr2 := r.heap_env List.prefix_rfl (r.heap.set hj (.arr i.off (g + 1) true e' (xs ++ new)))
                        have hb2 : Nat.beq xs.length xs.length = true := by simp
                        have hl2 : xs.length + new.length = (xs ++ new).length := by simp
                        rw [hl2, hgo]
                        obtain ⟨a', m1, m2⟩ := put_act (z := .a (.osl i.id (g + 1 + i.off) (xs ++ new).length)) hr2 (chOk_nil _) (holds_nil _) (.a _ _ (.osl j i (g + 1) e' _ hj)) k2
                        exact ⟨ρ, a', List.prefix_rfl, m1, m2⟩
                    · cases k1
                  · cases h
              · cases h
          · rename_i hno
            split at h
            · rename_i e' xs ho
              obtain ⟨o1, o2, es, o3⟩ := own_ok r ho
              rw [o3]
              simp only [o1]
              split at h
              · rename_i ys hcast
                obtain ⟨hee, hc⟩ := castL_ok hcast
                subst hee
                simp only at hc
                subst hc
                have q1 := sizes_enc ok hcs new
                have q2 := sizes_take 1 (sizes_enc ok hcs xs)
                cases hp : isHeapy fa dst with
                | true =>
                  rw [hp] at h
                  simp only [cond_true] at h
                  split at h
                  · rename_i y ys'
                    simp only [Option.some.injEq] at h
                    subst h
                    obtain ⟨u, k1, k2⟩ := hi
                    have k1 := k1 trivial
                    have k2 := k2.symm
                    simp only at k2
                    have hro : roomOk x.C t (([] : List (x.X e')).map (x.U.enc e')).length.succ.pred.succ = roomOk x.C t 1 := rfl
                    have hro2 : roomOk x.C t ((([] : List (x.X e')).map (x.U.enc e')).length + ((y :: ys').map (x.U.enc e')).length) = true := by
                      simp only [List.map_nil, List.length_nil, Nat.zero_add, List.length_map]
                      exact room_ok hbt k1
                    simp only [q1, q2, hro2, heo, Bool.and_self, cond_true]
                    simp only [List.map_nil, List.map_cons]
                    have hs : ρ <+: ρ ++ [Rf.mk a.heap.length 0] := List.prefix_append _ _
                    have hlh : (a.lose so).heap = a.heap := by unfold St.lose; split <;> (try split) <;> (try rfl) <;> (unfold St.loseEnv; split <;> rfl)
                    have hth : (loseT s so).heap = s.heap := by unfold loseT; split <;> (try split) <;> (try rfl) <;> (unfold loseEnvT; split <;> rfl)
                    have hpush := o2.heap.push (.arr 0 0 true e' (y :: ys'))
                    rw [hlh, hth] at hpush
                    have hr2 := o2.heap_env hs hpush
                    obtain ⟨a', m1, m2⟩ := put_act (z := .a (.osl a.heap.length 0 (y :: ys').length)) hr2 (chOk_nil _) (holds_nil _) (.a _ _ (.osl _ ⟨a.heap.length, 0⟩ _ _ _ (by rw [← r.heap.len]; simp))) k2
                    refine ⟨_, a', hs, ?_, m2⟩
                    have e1 : (AV.d (x.U.enc e' y) :: (ys'.map (x.U.enc e')).map AV.d) = (y :: ys').map fun y => AV.d (x.U.enc e' y) := by simp [List.map_map, Function.comp_def]
                    rw [e1]
                    simp only [List.length_cons, List.length_map] at m1 ⊢
                    exact m1
                  · cases h
                | false =>
                  rw [hp] at h
                  simp only [cond_false, Option.some.injEq] at h
                  subst h
                  obtain ⟨zs, k1, k2⟩ := hi
                  have k1 := k1 trivial
                  have k2 := k2.symm
                  simp only at k2
                  cases hr : room b (xs.length + new.length) with
                  | none => rw [hr] at k1; cases k1
                  | some u =>
                    rw [hr] at k1
                    simp only [Option.bind_some, Option.some.injEq] at k1
                    subst k1
                    have hro2 : roomOk x.C t ((xs.map (x.U.enc e')).length + (new.map (x.U.enc e')).length) = true := by
                      simp only [List.length_map]
                      exact room_ok hbt hr
                    simp only [q1, q2, hro2, heo, Bool.and_self, cond_true, cond_false]
                    obtain ⟨a', m1, m2⟩ := putOwn_ok o2 k2
                    rw [List.map_append] at m1
                    exact ⟨ρ, a', List.prefix_rfl, m1, m2⟩
              · cases h
            · cases h
        · cases h
      · cases h
  · cases h
theorem mset_ok (ok : x.U.Ok x.C) {kt vt : Nat} (hk : x.U.isKey kt = true) (key : x.X kt) (y : x.X vt) (es : List (x.X kt × x.X vt)) :
    mset (x.U.enc kt key) (.d (x.U.enc vt y)) (es.map fun p => (x.U.enc kt p.1, AV.d (x.U.enc vt p.2))) = some ((mput (x.U.keq kt) key y es).map fun p => (x.U.enc kt p.1, AV.d (x.U.enc vt p.2))) := by
  induction es with
  | nil => rfl
  | cons p es ih =>
    obtain ⟨k', v⟩ := p
    simp only [List.map_cons, mset, ok.keq kt key k' hk, mput]
    cases x.U.keq kt key k' with
    | true => rfl
    | false => simp only [ih, Option.map_some, cond_false, List.map_cons]
theorem mdel_ok (ok : x.U.Ok x.C) {kt vt : Nat} (hk : x.U.isKey kt = true) (key : x.X kt) (es : List (x.X kt × x.X vt)) :
    mdel (x.U.enc kt key) (es.map fun p => (x.U.enc kt p.1, AV.d (x.U.enc vt p.2))) = some ((mrem (x.U.keq kt) key es).map fun p => (x.U.enc kt p.1, AV.d (x.U.enc vt p.2))) := by
  induction es with
  | nil => rfl
  | cons p es ih =>
    obtain ⟨k', v⟩ := p
    simp only [List.map_cons, mdel, ok.keq kt key k' hk, mrem]
    cases x.U.keq kt key k' with
    | true => rfl
    | false => simp only [ih, Option.map_some, cond_false, List.map_cons]
theorem VRel.isMp {j : Nat} {w : AV} (h : VRel x.U ρ (.mp j) w) : ∃ i : Rf, w = .mp i.id ∧ ρ[j]? = some i := by
  cases h with
  | d v d hd => simp [TV.dv] at hd
  | mp _ i hj => exact ⟨i, rfl, hj⟩
theorem opA_opD {o : Operand} {d : DV} (h : opA a o = some (.d d)) : opD a o = some d := by
  simp only [opD, opd_of h]
theorem upd_ok (ok : x.U.Ok x.C) (r : Rel x.U ρ h0 s a) {call : CallT} {fa : FA} {dst : Option Tmp} {t : Nat} {m k v : Operand} {ty : Nat} {pos : String} {after : Array Edge} {guard : Option (Nat × Bool)} (h : mapUpdT x fa s dst t m k v = some s') :
    ∃ a', evEff x.C call fa ⟨dst, .mapUpdate t m k v, ty, pos, after, guard⟩ a = some a' ∧ Rel x.U ρ h0 s' a' := by
  unfold mapUpdT at h
  split at h
  · rename_i kt vt z j kv vv hm hz hmo hk hv
    split at h
    · rename_i key y kt' vt' es hpk hpv hh
      split at h
      · rename_i es1 h1
        obtain ⟨he, h1⟩ := castX_ok h1
        subst he
        simp only at h1
        subst h1
        split at h
        · rename_i es2 h2
          obtain ⟨he, h2⟩ := castX_ok h2
          subst he
          simp only at h2
          subst h2
          cases hb : (x.U.isKey kt' && x.C.keyOk t (x.U.enc kt' key)) with
          | false => rw [hb] at h; cases h
          | true =>
            rw [hb] at h
            simp only [cond_true] at h
            simp only [Bool.and_eq_true] at hb
            obtain ⟨mw, k1, k2⟩ := topA_ok r (holds_nil _) hmo
            obtain ⟨i, rfl, hj⟩ := k2.isMp
            obtain ⟨_, k3, _⟩ := topD_ok r (holds_nil _) hk (ok.prj _ _ _ hpk)
            obtain ⟨k4, _, _⟩ := topD_ok r (holds_nil _) hv (ok.prj _ _ _ hpv)
            obtain ⟨ao, k5, k6⟩ := obj_ok r.heap hh hj
            cases k6
            have hco : AV.cellOk (.d (x.U.enc vt' y)) = true := ok.ok _ _
            simp only [evEff, hz, k1, k3, k4, hco, Bool.not_true, cond_false, k5, mset_ok ok hb.1 key y es, hb.2, cond_true]
            have hr2 := r.heap_env List.prefix_rfl (r.heap.set hj (.map _ kt' vt' (mput (x.U.keq kt') key y es)))
            exact put_act hr2 (chOk_nil _) (holds_nil _) .un h
        · cases h
      · cases h
    · cases h
  · cases h
theorem del_ok (ok : x.U.Ok x.C) (r : Rel x.U ρ h0 s a) {fa : FA} {dst : Option Tmp} {t : Nat} {m k : Operand} (h : deleteT x fa s dst t m k = some s') :
    ∃ a', evDelete x.C fa a dst t m k = some a' ∧ Rel x.U ρ h0 s' a' := by
  unfold deleteT at h
  split at h
  · rename_i kt vt z j kv hm hz hmo hk
    split at h
    · rename_i key kt' vt' es hpk hh
      split at h
      · rename_i es1 h1
        obtain ⟨he, h1⟩ := castX_ok h1
        subst he
        simp only at h1
        subst h1
        cases hb : (x.U.isKey kt' && x.C.keyOk t (x.U.enc kt' key)) with
        | false => rw [hb] at h; cases h
        | true =>
          rw [hb] at h
          simp only [cond_true] at h
          simp only [Bool.and_eq_true] at hb
          obtain ⟨mw, k1, k2⟩ := topA_ok r (holds_nil _) hmo
          obtain ⟨i, rfl, hj⟩ := k2.isMp
          obtain ⟨_, k3, _⟩ := topD_ok r (holds_nil _) hk (ok.prj _ _ _ hpk)
          obtain ⟨ao, k5, k6⟩ := obj_ok r.heap hh hj
          cases k6
          simp only [evDelete, hz, k1, k3, k5, mdel_ok ok hb.1 key es, hb.2, cond_true]
          have hr2 := r.heap_env List.prefix_rfl (r.heap.set hj (.map _ kt' vt' (mrem (x.U.keq kt') key es)))
          exact put_act hr2 (chOk_nil _) (holds_nil _) (.a _ _ (.d _ _ rfl)) h
      · cases h
    · cases h
  · cases h
theorem elemT_zero {C : Abs.Ctx} {t e : Nat} (h : Ctx.elemT C t = some e) : C.elemZero t = C.zero e := by
  unfold Ctx.elemT at h
  unfold Abs.Ctx.elemZero Abs.Ctx.zero
  split at h
  · rename_i e' he; rw [he]; simp only [Option.some.injEq] at h; subst h; rfl
  · cases h
theorem mkSlice_ok (ok : x.U.Ok x.C) (r : Rel x.U ρ h0 s a) {call : CallT} {fa : FA} {dst : Option Tmp} {t : Nat} {l c : Operand} {ty : Nat} {pos : String} {after : Array Edge} {guard : Option (Nat × Bool)} {pr : PR (Option (TSt x.X))}
    (h : mkSliceT x fa s dst t l c = some pr) (hi : PR.Is True pr (some s')) :
    ∃ σ a', ρ <+: σ ∧ evEff x.C call fa ⟨dst, .makeSlice t l c, ty, pos, after, guard⟩ a = some a' ∧ Rel x.U σ h0 s' a' := by
  unfold mkSliceT at h
  split at h
  · rename_i e z sz b k1 n k2 m he hz hsz hbt hl hc
    cases hb : (x.C.elemOk t sz && x.U.dok e) with
    | false => rw [hb] at h; cases h
    | true =>
      rw [hb] at h
      simp only [cond_true, Option.some.injEq] at h
      subst h
      simp only [Bool.and_eq_true] at hb
      obtain ⟨zs, k3, k4⟩ := hi
      have k3 := k3 trivial
      have k4 := k4.symm
      simp only at k4
      split at k3
      · rename_i hn
        cases hr : room b n.toNat with
        | none => rw [hr] at k3; cases k3
        | some u =>
          rw [hr] at k3
          simp only [Option.bind_some, Option.some.injEq] at k3
          subst k3
          obtain ⟨_, l1, _⟩ := topD_ok r (holds_nil _) hl (d := .int k1 n) rfl
          obtain ⟨_, l2, _⟩ := topD_ok r (holds_nil _) hc (d := .int k2 m) rfl
          have hzz : z = x.U.enc e (x.U.dflt e) := by
            rw [elemT_zero he, ok.dok _ hb.2] at hz
            simp only [Option.some.injEq] at hz
            exact hz.symm
          simp only [evEff, hz, hsz, l1, l2]
          rw [if_pos ⟨hn.1, hn.2, room_ok hbt hr, hb.1⟩]
          have hs : ρ <+: ρ ++ [Rf.mk a.heap.length 0] := List.prefix_append _ _
          have hr2 := r.heap_env hs (r.heap.push (.arr 0 0 true e (List.replicate n.toNat (x.U.dflt e))))
          obtain ⟨a', m1, m2⟩ := put_act (z := .a (.osl a.heap.length 0 n.toNat)) hr2 (chOk_nil _) (holds_nil _) (by rw [List.length_replicate]; exact .a _ _ (.osl _ ⟨a.heap.length, 0⟩ _ _ _ (by rw [← r.heap.len]; simp))) k4
          refine ⟨_, a', hs, ?_, m2⟩
          rw [List.map_replicate, ← hzz] at m1
          exact m1
      · cases k3
  · cases h
theorem mapT_is {C : Abs.Ctx} {t k v : Nat} (h : Ctx.mapT C t = some (k, v)) : C.isMap t = true := by
  unfold Ctx.mapT at h
  unfold Abs.Ctx.isMap
  split at h
  · rename_i k' v' he; rw [he]
  · cases h
theorem bytesD_eq : ∀ (b : List UInt8), bytesD b = b.map fun c => AV.d (.int .u8 c.toNat)
  | [] => rfl
  | c :: b => by simp only [bytesD, List.map_cons, bytesD_eq b]
theorem bytes_notStr {C : Abs.Ctx} {t : Nat} (h : C.isBytes t = true) : C.isStr t = false := by
  unfold Abs.Ctx.isBytes at h
  unfold Abs.Ctx.isStr
  split at h
  · rename_i e he; rw [he]
  · cases h
theorem eff_ok (ok : x.U.Ok x.C) {call : CallT} (hT : ∀ p ∈ x.TR, MeetsR x.U call p.1 p.2) (r : Rel x.U ρ h0 s a) {fa : FA} {o : Oper} {pr : PR (Option (TSt x.X))} (h : effT x fa s o = some pr) (hi : PR.Is True pr (some s')) :
    evVal x.C call fa o a = none ∧ ∃ σ a', ρ <+: σ ∧ evEff x.C call fa o a = some a' ∧ Rel x.U σ h0 s' a' := by
  obtain ⟨dst, op, ty, pos, after, guard⟩ := o
  cases op with
  | move v =>
    simp only [effT] at h
    cases ht : takes fa dst with
    | false => rw [ht] at h; cases h
    | true =>
      rw [ht] at h
      obtain ⟨a', h1, h2⟩ := take_ok ok r (one_is h hi)
      exact ⟨by simp only [evVal, ht, cond_true], ρ, a', List.prefix_rfl, h1, h2⟩
  | assign v =>
    simp only [effT] at h
    cases ht : takes fa dst with
    | false => rw [ht] at h; cases h
    | true =>
      rw [ht] at h
      obtain ⟨a', h1, h2⟩ := take_ok ok r (one_is h hi)
      exact ⟨by simp only [evVal, ht, cond_true], ρ, a', List.prefix_rfl, h1, h2⟩
  | alloc t =>
    simp only [effT] at h
    split at h
    · rename_i z hz
      obtain ⟨z0, k1, k2, k3, _⟩ := ok.zcells _ _ hz
      obtain ⟨σ, a', h1, h2, h3⟩ := alloc_ok (w := .d z0) r k3 (by rw [av_cells]; exact VRels.of_dvL k2) (fun _ => ⟨z0, rfl⟩) (.inl ⟨_, k2⟩) (one_is h hi)
      exact ⟨rfl, σ, a', h1, by simp only [evEff, k1, h2], h3⟩
    · cases h
  | box t v =>
    simp only [effT] at h
    split at h
    · rename_i u hu
      split at h
      · rename_i cs hcs
        obtain ⟨w, h1, h2⟩ := topA_ok r (holds_nil _) hu
        obtain ⟨h3, h4⟩ := vcellsA ok h2 hcs
        have hdd : cs.all isD = true → ∃ d, w = .d d := by
          intro hd
          cases h2 with
          | d v d hd => exact ⟨d, rfl⟩
          | ptr => simp only [Cx.vcells, Option.some.injEq] at hcs; subst hcs; simp [isD] at hd
          | osl => simp only [Cx.vcells, Option.some.injEq] at hcs; subst hcs; simp [isD] at hd
          | mp => simp only [Cx.vcells, Option.some.injEq] at hcs; subst hcs; simp [isD] at hd
          | fn f caps as hl hh =>
            simp only [Cx.vcells, Option.some.injEq] at hcs; subst hcs
            cases caps with
            | nil => cases as with
              | nil => exact ⟨_, rfl⟩
              | cons => simp at hl
            | cons => simp [isD] at hd
          | tup => simp [Cx.vcells] at hcs
        have hdv : (∃ ds, dvL x.U cs = some ds) ∨ cs.all isD = false := by
          cases hd : cs.all isD with
          | false => exact .inr rfl
          | true =>
            left
            cases hud : u.dv x.U with
            | some d => exact ⟨_, vcells_dv ok hud hcs⟩
            | none =>
              cases h2 with
              | d v d hd2 => rw [hd2] at hud; cases hud
              | ptr => simp only [Cx.vcells, Option.some.injEq] at hcs; subst hcs; simp [isD] at hd
              | osl => simp only [Cx.vcells, Option.some.injEq] at hcs; subst hcs; simp [isD] at hd
              | mp => simp only [Cx.vcells, Option.some.injEq] at hcs; subst hcs; simp [isD] at hd
              | fn f caps as hl hh =>
                simp only [Cx.vcells, Option.some.injEq] at hcs; subst hcs
                cases caps with
                | nil => simp only [TV.dv, dvL, Option.map_some] at hud; cases hud
                | cons => simp [isD] at hd
              | tup => simp [Cx.vcells] at hcs
        obtain ⟨σ, a', k1, k2, k3⟩ := alloc_ok r h3 h4 hdd hdv (one_is h hi)
        exact ⟨rfl, σ, a', k1, by simp only [evEff, h1, k2], k3⟩
      · cases h
    · cases h
  | buildSlice t n ps =>
    simp only [effT] at h
    cases ht : takes fa dst with
    | false => rw [ht] at h; cases h
    | true =>
      rw [ht] at h
      simp only [cond_true] at h
      split at h
      · rename_i e ys hb
        obtain ⟨a', h1, h2⟩ := putOwn_ok r (one_is h hi)
        exact ⟨by simp only [evVal, ht, cond_true], ρ, a', List.prefix_rfl, by simp only [evEff, buildSlice_ok ok r (holds_nil _) hb, h1], h2⟩
      · cases h
  | store t p v =>
    simp only [effT] at h
    split at h
    · rename_i q u hq hu
      split at h
      · rename_i r1 hr1
        simp only [Option.some.injEq] at h
        subst h
        obtain ⟨so, h1, h2⟩ := PR.Is_map.1 hi
        cases so with
        | none => simp at h2
        | some s1 =>
          have h2 := h2.symm
          simp only at h2
          obtain ⟨z, k1, k2⟩ := topd_ok r (holds_nil _) hq
          obtain ⟨w, k3, k4⟩ := topA_ok r (holds_nil _) hu
          obtain ⟨a1, k5, k6⟩ := store_ok ok r k2 k4 hr1 h1
          obtain ⟨a', k7, k8⟩ := put_act (z := .un) k6 (chOk_nil _) (holds_nil _) .un h2
          exact ⟨rfl, ρ, a', List.prefix_rfl, by simp only [evEff, k1, k3, k5, k7], k8⟩
      · cases h
    · cases h
  | convert s1 t v =>
    simp only [effT] at h
    split at h
    · rename_i b hb
      cases hc : (x.C.isStr s1 && x.C.isBytes t && x.C.elemOne t) with
      | false => rw [hc] at h; cases h
      | true =>
        rw [hc] at h
        simp only [cond_true] at h
        have hc' := hc
        simp only [Bool.and_eq_true] at hc'
        split at h
        · rename_i e he
          split at h
          · rename_i f g hby
            obtain ⟨k1, k2, _⟩ := topD_ok r (holds_nil _) hb (d := .str b) rfl
            have hs : ρ <+: ρ ++ [Rf.mk a.heap.length 0] := List.prefix_append _ _
            have hr2 := r.heap_env hs (r.heap.push (.arr 0 0 false e (f b)))
            obtain ⟨a', m1, m2⟩ := put_act (z := .a (.osl a.heap.length 0 b.length)) hr2 (chOk_nil _) (holds_nil _) (.a _ _ (.osl _ ⟨a.heap.length, 0⟩ _ _ _ (by rw [← r.heap.len]; simp))) (one_is h hi)
            refine ⟨?_, _, a', hs, ?_, m2⟩
            · simp only [evVal, k1, evConvertV, bytes_notStr hc'.1.2, Bool.and_false, cond_false, oD]
            · have hbb : bytesD b = (f b).map fun y => AV.d (x.U.enc e y) := by
                rw [← enc_map, (ok.bytes _ _ _ hby).1, bytesD_eq, List.map_map]; rfl
              simp only [evEff, k2, hc, cond_true, hbb]
              exact m1
          · cases h
        · cases h
    · cases h
  | makeMap t rv =>
    cases rv with
    | some rv => simp [effT] at h
    | none =>
      simp only [effT] at h
      cases hm : x.C.isMap t with
      | false => rw [hm] at h; cases h
      | true =>
        rw [hm] at h
        simp only [cond_true] at h
        split at h
        · rename_i k v hkv
          have hs : ρ <+: ρ ++ [Rf.mk a.heap.length 0] := List.prefix_append _ _
          have hr2 := r.heap_env hs (r.heap.push (.map 0 k v []))
          obtain ⟨a', m1, m2⟩ := put_act (z := .a (.mp a.heap.length)) hr2 (chOk_nil _) (holds_nil _) (.a _ _ (.mp _ ⟨a.heap.length, 0⟩ (by rw [← r.heap.len]; simp))) (one_is h hi)
          exact ⟨rfl, _, a', hs, by simp only [evEff, hm, cond_true]; exact m1, m2⟩
        · cases h
  | makeSlice t l c =>
    simp only [effT] at h
    exact ⟨rfl, mkSlice_ok ok r h hi⟩
  | mapUpdate t m k v =>
    simp only [effT] at h
    obtain ⟨a', h1, h2⟩ := upd_ok (call := call) (ty := ty) (pos := pos) (after := after) (guard := guard) ok r (one_is h hi)
    exact ⟨rfl, ρ, a', List.prefix_rfl, h1, h2⟩
  | call c =>
    obtain ⟨callee, args, types⟩ := c
    cases callee with
    | value g =>
      cases g with
      | func f =>
        simp only [effT] at h
        split at h
        · rename_i cr vs hcr hvs
          cases hl : flagged fa.lend dst with
          | true => rw [hl] at h; cases h
          | false =>
            rw [hl] at h
            simp only [cond_false] at h
            obtain ⟨ws, h1, h2⟩ := topL_ok r (holds_nil _) hvs
            obtain ⟨k0, d, h', k1, a', k2, k3⟩ := callR_ok ok hT r hcr h2 h hi
            have hf : opA a (.func f) = some (.d (.fn f [])) := rfl
            refine ⟨by simp only [evVal, hf, h1, fnOf, List.map_nil, List.append_nil, hl, cond_false, k0], ρ, a', List.prefix_rfl, ?_, k3⟩
            simp only [evEff, hf, h1, fnOf, List.map_nil, List.append_nil, hl, cond_false, callH, k0, k1]
            exact k2
        · cases h
      | _ => simp [effT] at h
    | invoke => simp [effT] at h
    | builtin b =>
      simp only [effT] at h
      split at h
      · split at h
        · rename_i so xo t t' ha ht
          cases hb : Nat.beq t t' with
          | false => rw [hb] at h; cases h
          | true =>
            rw [hb] at h
            obtain ⟨σ, a', h1, h2, h3⟩ := append_ok ok r h hi
            exact ⟨rfl, σ, a', h1, by simp only [evEff, ha, ht, hb, cond_true, h2], h3⟩
        · cases h
      · split at h
        · rename_i m k t _ ha ht
          obtain ⟨a', h2, h3⟩ := del_ok ok r (one_is h hi)
          exact ⟨rfl, ρ, a', List.prefix_rfl, by simp only [evEff, ha, ht, h2], h3⟩
        · cases h
      · cases h
  | _ => simp [effT] at h
end
end Go.Tev
namespace Go.Tev
open Go.Abs

section
variable {x : Cx} {ρ : List Rf} {h0 : Base} {s s' : TSt x.X} {a : St}

theorem bif_some {α : Type} {b : Bool} {q : Option α} {y : α} (h : (bif b then q else none) = some y) : b = true ∧ q = some y := by
  cases b with
  | false => cases h
  | true => exact ⟨rfl, h⟩
/-! what stays -/
def Keep {X : Nat → Type} (P : Nat → Prop) (s s' : TSt X) : Prop := ∀ t v, P t → alook s.env t = some (.val v) → alook s'.env t = some (.val v)
theorem Keep.refl {X : Nat → Type} (P : Nat → Prop) (s : TSt X) : Keep P s s := fun _ _ _ h => h
theorem Keep.trans {X : Nat → Type} {P : Nat → Prop} {s t u : TSt X} (h : Keep P s t) (k : Keep P t u) : Keep P s u := fun n v p e => k n v p (h n v p e)
theorem Keep.imp {X : Nat → Type} {P Q : Nat → Prop} {s t : TSt X} (hpq : ∀ n, Q n → P n) (h : Keep P s t) : Keep Q s t := fun n v p e => h n v (hpq n p) e
theorem aput_keep {X : Nat → Type} {s : TSt X} {t : Nat} {v : TSV X} {tmp heap} : Keep (fun n => t ≠ n) s ⟨aput s.env t v, tmp, heap⟩ := fun n w p e => by
  simp only [alook_aput]
  rw [beq_ne.2 p]
  exact e
theorem put_keep {fa : FA} {ch : Chain} {dst : Option Tmp} {y : TX x.X} (h : putT fa ch s dst y = some s') : Keep (fun n => dst ≠ some n) s s' ∧ s'.heap = s.heap := by
  cases dst with
  | none => simp only [putT, Option.some.injEq] at h; subst h; exact ⟨Keep.refl _ _, rfl⟩
  | some t =>
    simp only [putT] at h
    cases hb : Nat.blt t fa.nt with
    | false => rw [hb] at h; cases h
    | true =>
      rw [hb] at h
      simp only [cond_true] at h
      cases hk : has fa.keep t with
      | true =>
        rw [hk] at h
        simp only [cond_true] at h
        split at h
        · simp only [Option.some.injEq] at h; subst h
          exact ⟨aput_keep.imp fun n hn he => hn (congrArg some he), rfl⟩
        · cases h
      | false =>
        rw [hk] at h
        simp only [cond_false] at h
        split at h
        · simp only [Option.some.injEq] at h; subst h; exact ⟨fun _ _ _ h => h, rfl⟩
        · cases h
theorem putOwn_keep {fa : FA} {dst : Option Tmp} {e : Nat} {xs : List (x.X e)} (h : putOwnT fa s dst e xs = some s') : Keep (fun n => dst ≠ some n) s s' ∧ s'.heap = s.heap := by
  cases dst with
  | none => simp [putOwnT] at h
  | some t =>
    simp only [putOwnT] at h
    cases hb : Nat.blt t fa.nt with
    | false => rw [hb] at h; cases h
    | true =>
      rw [hb] at h
      simp only [cond_true] at h
      cases hk : has fa.keep t with
      | true =>
        rw [hk] at h
        simp only [cond_true, Option.some.injEq] at h; subst h
        exact ⟨aput_keep.imp fun n hn he => hn (congrArg some he), rfl⟩
      | false =>
        rw [hk] at h
        simp only [cond_false] at h
        split at h
        · simp only [Option.some.injEq] at h; subst h; exact ⟨fun _ _ _ h => h, rfl⟩
        · cases h
theorem loseEnv_keep (k : Nat) (P : Nat → Prop) : Keep P s (loseEnvT s k) ∧ (loseEnvT s k).heap = s.heap := by
  unfold loseEnvT
  split
  · rename_i e xs hk
    refine ⟨fun n v _ he => ?_, rfl⟩
    simp only [alook_aput]
    cases hb : Nat.beq k n with
    | true => rw [← Nat.eq_of_beq_eq_true hb, hk] at he; simp at he
    | false => exact he
  · exact ⟨Keep.refl _ _, rfl⟩
theorem lose_keep (o : Operand) (P : Nat → Prop) : Keep P s (loseT s o) ∧ (loseT s o).heap = s.heap := by
  unfold loseT
  split
  · split
    · exact ⟨fun _ _ _ h => h, rfl⟩
    · exact loseEnv_keep _ _
    · exact ⟨Keep.refl _ _, rfl⟩
    · exact loseEnv_keep _ _
  · exact ⟨Keep.refl _ _, rfl⟩
theorem take_keep {fa : FA} {dst : Option Tmp} {ty : Nat} {o : Operand} (h : takeT x fa s dst ty o = some s') : Keep (fun n => dst ≠ some n) s s' ∧ s'.heap = s.heap := by
  unfold takeT at h
  split at h
  · obtain ⟨h1, h2⟩ := putOwn_keep h
    obtain ⟨h3, h4⟩ := lose_keep (s := s) o (fun n => dst ≠ some n)
    exact ⟨h3.trans h1, h2.trans h4⟩
  · cases hn : notOwn s o with
    | false => rw [hn] at h; cases h
    | true =>
      rw [hn] at h
      simp only [cond_true] at h
      split at h
      · split at h
        · exact put_keep h
        · cases h
      · cases h
theorem alloc_keep {fa : FA} {dst : Option Tmp} {cs : List (TV x.X)} (h : allocT x fa s dst cs = some s') : Keep (fun n => dst ≠ some n) s s' := by
  unfold allocT at h
  cases hp : isHeapy fa dst with
  | true => rw [hp] at h; simp only [cond_true] at h; exact fun n v p e => (put_keep h).1 n v p e
  | false =>
    rw [hp] at h
    simp only [cond_false] at h
    split at h
    · rename_i t
      cases hb : (has fa.keep t && noSpT t s.tmp && Nat.blt t fa.nt && cs.all isD) with
      | false => rw [hb] at h; cases h
      | true =>
        rw [hb] at h
        simp only [cond_true, Option.some.injEq] at h
        subst h
        exact aput_keep.imp fun n hn he => hn (congrArg some he)
    · cases h
theorem store_keep {t : Nat} {p : TX x.X} {v : TV x.X} {pr : PR (Option (TSt x.X))} {P : Prop} (h : storeT x t s p v = some pr) (hi : PR.Is P pr (some s')) (Q : Nat → Prop) : Keep Q s s' := by
  unfold storeT at h
  split at h
  · rename_i n vs hn hvs
    cases hb : Nat.beq n vs.length with
    | false => rw [hb] at h; cases h
    | true =>
      rw [hb] at h
      simp only [cond_true] at h
      cases p with
      | sp k off =>
        simp only at h
        split at h
        · rename_i cs hk
          cases hd : vs.all isD with
          | false => rw [hd] at h; cases h
          | true =>
            rw [hd] at h
            simp only [cond_true] at h
            split at h
            · simp only [Option.some.injEq] at h
              subst h
              simp only [PR.Is, Option.some.injEq] at hi
              subst hi
              intro n v _ he
              simp only [alook_aput]
              cases hb : Nat.beq k n with
              | true => rw [← Nat.eq_of_beq_eq_true hb, hk] at he; simp at he
              | false => exact he
            · cases h
        · cases h
      | ap j g e i off =>
        simp only at h
        split at h
        · rename_i g' ap e' xs hh
          cases hg : Nat.beq g' g with
          | false => rw [hg] at h; cases h
          | true =>
            rw [hg] at h
            simp only [cond_true] at h
            split at h
            · split at h
              · cases ho : (Nat.beq off 0 && cszIs x.U e 1) with
                | false => rw [ho] at h; cases h
                | true =>
                  rw [ho] at h
                  simp only [cond_true] at h
                  split at h
                  · simp only [Option.some.injEq] at h
                    subst h
                    obtain ⟨zs, h1, h2⟩ := hi
                    simp only [Option.some.injEq] at h2
                    subst h2
                    exact fun _ _ _ h => h
                  · cases h
              · split at h
                · simp only [Option.some.injEq] at h
                  subst h
                  obtain ⟨zs, h1, h2⟩ := hi
                  have h2 := h2.symm
                  simp only at h2
                  split at h2
                  · split at h2
                    · simp only [Option.some.injEq] at h2
                      subst h2
                      exact fun _ _ _ h => h
                    · cases h2
                  · cases h2
                · cases h
              · cases h
            · cases h
        · cases h
      | a u =>
        cases u <;> simp only at h <;> (try (cases h; done))
        split at h
        · split at h
          · simp only [Option.some.injEq] at h
            subst h
            simp only [PR.Is, Option.some.injEq] at hi
            subst hi
            exact fun _ _ _ h => h
          · cases h
        · cases h
      | fp => simp at h
      | own => simp at h
      | al => simp at h
      | un => simp at h
  · cases h
theorem append_keep {fa : FA} {dst : Option Tmp} {t : Nat} {so xo : Operand} {pr : PR (Option (TSt x.X))} {P : Prop} (h : appendT x fa s dst t so xo = some pr) (hi : PR.Is P pr (some s')) : Keep (fun n => dst ≠ some n) s s' := by
  unfold appendT at h
  split at h
  · rename_i e sz b he hsz hbt
    cases hb : (x.C.elemOk t sz && cszIs x.U e sz) with
    | false => rw [hb] at h; cases h
    | true =>
      rw [hb] at h
      simp only [cond_true] at h
      split at h
      · split at h
        · split at h
          · rename_i j g eo n hso
            split at h
            · rename_i g' e' xs hh
              cases hg : (Nat.beq g g' && Nat.beq eo e) with
              | false => rw [hg] at h; cases h
              | true =>
                rw [hg] at h
                simp only [cond_true] at h
                split at h
                · simp only [Option.some.injEq] at h
                  subst h
                  obtain ⟨zs, k1, k2⟩ := hi
                  exact fun n v p e => (put_keep k2.symm).1 n v p e
                · cases h
            · cases h
          · split at h
            · split at h
              · cases hp : isHeapy fa dst with
                | true =>
                  rw [hp] at h
                  simp only [cond_true] at h
                  split at h
                  · simp only [Option.some.injEq] at h
                    subst h
                    obtain ⟨u, k1, k2⟩ := hi
                    obtain ⟨h3, h4⟩ := lose_keep (s := s) so (fun n => dst ≠ some n)
                    exact fun n v p e => (put_keep k2.symm).1 n v p (h3 n v p e)
                  · cases h
                | false =>
                  rw [hp] at h
                  simp only [cond_false, Option.some.injEq] at h
                  subst h
                  obtain ⟨zs, k1, k2⟩ := hi
                  obtain ⟨h3, h4⟩ := lose_keep (s := s) so (fun n => dst ≠ some n)
                  exact h3.trans (putOwn_keep k2.symm).1
              · cases h
            · cases h
        · cases h
      · cases h
  · cases h
/-- it may change the heap -/
def heapOp (x : Cx) (o : Oper) : Bool := match o.op with
  | .store _ _ _ => true
  | .mapUpdate _ _ _ _ => true
  | .alloc _ => true
  | .box _ _ => true
  | .makeMap _ _ => true
  | .makeSlice _ _ _ => true
  | .convert _ _ _ => true
  | .call { callee := .builtin .append, .. } => true
  | .call { callee := .builtin .delete, .. } => true
  | .call { callee := .value (.func f), .. } => (alook x.TR f).isSome
  | _ => false
theorem one_isP {α : Type} {q : Option α} {pr : PR (Option α)} {y : α} {P : Prop} (h : one q = some pr) (hi : PR.Is P pr (some y)) : q = some y := by
  cases q with
  | none => cases h
  | some b =>
    simp only [one, Option.some.injEq] at h
    subst h
    exact hi.symm
theorem eff_keep {fa : FA} {o : Oper} {pr : PR (Option (TSt x.X))} {P : Prop} (h : effT x fa s o = some pr) (hi : PR.Is P pr (some s')) : Keep (fun n => o.dst ≠ some n) s s' ∧ (heapOp x o = false → s'.heap = s.heap) := by
  obtain ⟨dst, op, ty, pos, after, guard⟩ := o
  cases op with
  | move v =>
    simp only [effT] at h
    cases ht : takes fa dst with
    | false => rw [ht] at h; cases h
    | true =>
      rw [ht] at h
      obtain ⟨h1, h2⟩ := take_keep (one_isP h hi)
      exact ⟨h1, fun _ => h2⟩
  | assign v =>
    simp only [effT] at h
    cases ht : takes fa dst with
    | false => rw [ht] at h; cases h
    | true =>
      rw [ht] at h
      obtain ⟨h1, h2⟩ := take_keep (one_isP h hi)
      exact ⟨h1, fun _ => h2⟩
  | alloc t =>
    simp only [effT] at h
    split at h
    · exact ⟨alloc_keep (one_isP h hi), fun h => by simp [heapOp] at h⟩
    · cases h
  | box t v =>
    simp only [effT] at h
    split at h
    · split at h
      · exact ⟨alloc_keep (one_isP h hi), fun h => by simp [heapOp] at h⟩
      · cases h
    · cases h
  | buildSlice t n ps =>
    simp only [effT] at h
    cases ht : takes fa dst with
    | false => rw [ht] at h; cases h
    | true =>
      rw [ht] at h
      simp only [cond_true] at h
      split at h
      · obtain ⟨h1, h2⟩ := putOwn_keep (one_isP h hi)
        exact ⟨h1, fun _ => h2⟩
      · cases h
  | store t p v =>
    simp only [effT] at h
    split at h
    · split at h
      · rename_i r1 hr1
        simp only [Option.some.injEq] at h
        subst h
        obtain ⟨so, h1, h2⟩ := PR.Is_map.1 hi
        cases so with
        | none => simp at h2
        | some s1 =>
          have h2 := h2.symm
          simp only at h2
          exact ⟨(store_keep hr1 h1 _).trans (put_keep h2).1, fun h => by simp [heapOp] at h⟩
      · cases h
    · cases h
  | convert s1 t v =>
    simp only [effT] at h
    split at h
    · cases hc : (x.C.isStr s1 && x.C.isBytes t && x.C.elemOne t) with
      | false => rw [hc] at h; cases h
      | true =>
        rw [hc] at h
        simp only [cond_true] at h
        split at h
        · split at h
          · exact ⟨fun n v p e => (put_keep (one_isP h hi)).1 n v p e, fun h => by simp [heapOp] at h⟩
          · cases h
        · cases h
    · cases h
  | makeMap t rv =>
    cases rv with
    | some rv => simp [effT] at h
    | none =>
      simp only [effT] at h
      cases hm : x.C.isMap t with
      | false => rw [hm] at h; cases h
      | true =>
        rw [hm] at h
        simp only [cond_true] at h
        split at h
        · exact ⟨fun n v p e => (put_keep (one_isP h hi)).1 n v p e, fun h => by simp [heapOp] at h⟩
        · cases h
  | makeSlice t l c =>
    simp only [effT] at h
    refine ⟨?_, fun h => by simp [heapOp] at h⟩
    unfold mkSliceT at h
    split at h
    · rename_i e z sz b k1 n k2 m he hz hsz hbt hl hc
      cases hb : (x.C.elemOk t sz && x.U.dok e) with
      | false => rw [hb] at h; cases h
      | true =>
        rw [hb] at h
        simp only [cond_true, Option.some.injEq] at h
        subst h
        obtain ⟨zs, k3, k4⟩ := hi
        exact fun n v p e => (put_keep k4.symm).1 n v p e
    · cases h
  | mapUpdate t m k v =>
    simp only [effT] at h
    refine ⟨?_, fun h => by simp [heapOp] at h⟩
    have h := one_isP h hi
    unfold mapUpdT at h
    split at h
    · split at h
      · split at h
        · split at h
          · exact fun n v p e => (put_keep (bif_some h).2).1 n v p e
          · cases h
        · cases h
      · cases h
    · cases h
  | call c =>
    obtain ⟨callee, args, types⟩ := c
    cases callee with
    | value g =>
      cases g with
      | func f =>
        simp only [effT] at h
        split at h
        · rename_i cr vs hcr hvs
          refine ⟨?_, fun hh => by simp [heapOp, hcr] at hh⟩
          cases hl : flagged fa.lend dst with
          | true => rw [hl] at h; cases h
          | false =>
            rw [hl] at h
            simp only [cond_false] at h
            unfold callR at h
            split at h
            · rename_i ws js hsp
              revert h
              cases (nodupB js && !js.isEmpty) with
              | false => intro h; cases h
              | true =>
                intro h
                simp only [cond_true] at h
                split at h
                · simp only [Option.some.injEq] at h
                  subst h
                  obtain ⟨b, k1, k2⟩ := hi
                  exact fun n v p e => (put_keep k2.symm).1 n v p e
                · cases h
            · cases h
        · cases h
      | _ => simp [effT] at h
    | invoke => simp [effT] at h
    | builtin b =>
      simp only [effT] at h
      split at h
      · split at h
        · rename_i so xo t t' ha ht
          cases hb : Nat.beq t t' with
          | false => rw [hb] at h; cases h
          | true => rw [hb] at h; exact ⟨append_keep h hi, fun h => by simp [heapOp] at h⟩
        · cases h
      · split at h
        · refine ⟨?_, fun h => by simp [heapOp] at h⟩
          have h := one_isP h hi
          unfold deleteT at h
          split at h
          · split at h
            · split at h
              · exact fun n v p e => (put_keep (bif_some h).2).1 n v p e
              · cases h
            · cases h
          · cases h
        · cases h
      · cases h
  | _ => simp [effT] at h
end
end Go.Tev
