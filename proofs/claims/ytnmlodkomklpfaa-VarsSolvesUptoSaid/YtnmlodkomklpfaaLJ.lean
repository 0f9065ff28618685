/- A certified evaluator for the walked functions, and their contracts, for the laws of the variables. -/
import Derived.Test.YtnmlodkomklpfaaLE
import Derived.Maps.Own
import Derived.Sort.KeysCollected
import Derived.Laws.AppendOwn
import Derived.Below
import Derived.Test.YtnmlodkomklpfaaLI
import Derived.Test.YtnmlodkomklpfaaLF
set_option linter.unusedVariables false
set_option linter.unusedSimpArgs false
namespace Go.Abs
open Go.Proofs (encStr)
open Go.RowKit (Below)
def Yim (ks : List (List UInt8)) : Prop := ks.Nodup ∧ ks.length ≤ 2 ^ 40 ∧ ∀ k ∈ ks, k.length ≤ 2 ^ 40
noncomputable instance (ks : List (List UInt8)) : Decidable (Yim ks) := Classical.propDecidable _
end Go.Abs
namespace Go.Tev
open Go.Abs
def Zj6 (h : Bm) : List (List UInt8) := h.map Prod.fst
end Go.Tev
namespace Go.Tev.S1
open Go.Abs Go.Proofs
end Go.Tev.S1
namespace Go.Tev.S1
open Go.Abs Go.Proofs
end Go.Tev.S1
namespace Go.Abs
theorem A25 : (ann 25).nt = 118 ∧ (ann 25).keep = [0, 2, 3, 4, 5, 6, 7, 9, 11, 12, 13, 14, 16, 17, 18, 19, 21, 22, 23, 30, 32, 36, 39, 40, 41, 42, 53, 60, 62, 71, 72, 89, 95, 96, 97, 98, 108] ∧ (ann 25).take = [19] ∧ (ann 25).heapy = [] ∧ (ann 25).frz = [25, 28, 58, 80, 87] ∧ (ann 25).lend = [80] := ⟨rfl, rfl, rfl, rfl, rfl, rfl⟩
theorem A44 : (ann 44).nt = 52 ∧ (ann 44).keep = [0, 2, 3, 5, 6, 8, 9, 10, 12, 13, 14, 15, 31, 32, 33, 34] ∧ (ann 44).take = [] ∧ (ann 44).heapy = [3, 9, 10] ∧ (ann 44).frz = [28, 42] ∧ (ann 44).lend = [] := ⟨rfl, rfl, rfl, rfl, rfl, rfl⟩
theorem A48 : (ann 48).nt = 90 ∧ (ann 48).keep = [0, 2, 3, 4, 5, 6, 7, 8, 9, 10, 11, 18, 35, 45, 54, 59, 64, 82] ∧ (ann 48).take = [] ∧ (ann 48).heapy = [] ∧ (ann 48).frz = [31, 43] ∧ (ann 48).lend = [] := ⟨rfl, rfl, rfl, rfl, rfl, rfl⟩
theorem A68 : (ann 68).nt = 29 ∧ (ann 68).keep = [0, 1, 2, 3, 5, 9, 11, 23] ∧ (ann 68).take = [] ∧ (ann 68).heapy = [] ∧ (ann 68).frz = [28] ∧ (ann 68).lend = [] := ⟨rfl, rfl, rfl, rfl, rfl, rfl⟩
def sq1 : Code → Code
  | .seq a _ => a
  | c => c
def sq2 : Code → Code
  | .seq _ b => b
  | c => c
def cn1 : Code → Code
  | .cond _ a _ => a
  | c => c
def inn : Code → Code
  | .block _ c => c
  | .loop c => c
  | .scope c => c
  | c => c
def ops : Code → Array Oper
  | .region _ o _ => o
  | _ => #[]
def opsL (c : Code) : List Oper := (ops c).toList
def op0 (l : List Oper) : Oper := l.headD ⟨none, .move (.const .nilFunc), 0, "", #[], none⟩
def opZ (l : List Oper) : Oper := l.getLastD ⟨none, .move (.const .nilFunc), 0, "", #[], none⟩
end Go.Abs
namespace Go.Tev.S1
open Go.Abs Go.Proofs
noncomputable abbrev B68 : Code := Zab Try.f68
noncomputable abbrev ZrC : Code := sq1 B68
noncomputable abbrev L68 : Code := inn (inn (sq2 B68))
noncomputable abbrev Zsb : Code := sq1 L68
noncomputable abbrev K68 : Code := inn (sq2 (sq2 L68))
noncomputable abbrev Zs3 : Code := sq1 K68
noncomputable abbrev Yes : Code := sq1 (sq2 K68)
noncomputable abbrev Yc4 : Code := sq1 (cn1 (sq2 (sq2 K68)))
noncomputable abbrev Zr5 : Code := sq2 (cn1 (sq2 (sq2 K68)))
theorem Yg6 : Try.f68.body = some (.seq (.region 0 (ops ZrC) false) (.block 0 (.loop (.seq (.region 1 (ops Zsb) false) (.seq (.cond (.tmp 11) .skip (.exit 0)) (.block 1 (.seq (.region 2 (ops Zs3) false) (.seq (.region 3 (ops Yes) false) (.cond (.tmp 23) (.seq (.region 4 (ops Yc4) false) (.region 5 (ops Zr5) false)) .skip))))))))) := by kernel_rfl
theorem Yjf : (ops ZrC).toList = (opsL ZrC).take 3 ++ [opZ (opsL ZrC)] := by kernel_rfl
theorem Yi2 : (ops Zsb).toList = op0 (opsL Zsb) :: (opsL Zsb).drop 1 := by kernel_rfl
theorem Yjp : (ops Zs3).toList = op0 (opsL Zs3) :: (opsL Zs3).drop 1 := by kernel_rfl
theorem Yjk : (ops Zr5).toList = (opsL Zr5).take 2 ++ [opZ (opsL Zr5)] := by kernel_rfl
end Go.Tev.S1
namespace Go.Tev.S1
open Go.Abs Go.Proofs
abbrev Nd := List (List UInt8 × Bm)
def Zhh (u : Bm) : List (DV × DV) := u.map fun p => (.str p.1, .bool p.2)
def ZrI (G : Nd) : List (DV × AV) := G.map fun p => (.str p.1, .d (.fmap (Zhh p.2)))
def encSW (S : List (List UInt8)) : List (DV × AV) := S.map fun n => (.str n, .d (.bool true))
theorem Zg1 (a : List UInt8) : ∀ G : Nd, ZhF (.str a) (ZrI G) = some ((Zbd BEq.beq a G).map fun u => .d (.fmap (Zhh u)))
  | [] => rfl
  | (k, u) :: r => by
    have ih := Zg1 a r
    simp only [ZrI, List.map_cons, ZhF, Ze0, Zbd] at ih ⊢
    cases (a == k)
    · simpa using ih
    · rfl
theorem Zhe (a : List UInt8) : ∀ S, ZhF (.str a) (encSW S) = some (if a ∈ S then some (.d (.bool true)) else none)
  | [] => rfl
  | k :: r => by
    have ih := Zhe a r
    simp only [encSW, List.map_cons, ZhF, Ze0] at ih ⊢
    by_cases h : a = k
    · subst h; simp
    · have : (a == k) = false := by simpa using h
      rw [this]
      simp only [ih, List.mem_cons, h, false_or]
theorem ZtY (a : List UInt8) : ∀ S, a ∉ S → ZvJ (.str a) (.d (.bool true)) (encSW S) = some (encSW (S ++ [a]))
  | [], _ => rfl
  | k :: r, h => by
    have ih := ZtY a r (fun hm => h (List.mem_cons_of_mem _ hm))
    simp only [encSW, List.map_cons, List.cons_append, ZvJ, Ze0] at ih ⊢
    have : (a == k) = false := by rw [beq_eq_false_iff_ne]; intro e; exact h (by rw [e]; exact List.mem_cons_self)
    rw [this]
    simp only [ih, Option.map_some]
def H68 (G : Nd) (out : List (DV × AV)) (S : List (List UInt8)) : List AObj := [.map (ZrI G), .var [.mp 0], .map out, .map (encSW S), .var [.mp 3], .var [.fn 68 [.ptr 1 0, .ptr 4 0, .ptr 5 0]]]
def YhS (name : List UInt8) : List AV := [.d (.str name), .ptr 1 0, .ptr 4 0, .ptr 5 0]
theorem k98 (a : List UInt8) : C.keyOk 98 (.str a) = true := by
  have h : C.P.underlying 98 = some (.map 9 61) := by kernel_rfl
  have h2 : C.P.underlying 9 = some .string := by kernel_rfl
  simp only [Ctx.keyOk, h, h2]
theorem k61 (a : List UInt8) : C.keyOk 61 (.str a) = true := by
  have h : C.P.underlying 61 = some (.map 9 4) := by kernel_rfl
  have h2 : C.P.underlying 9 = some .string := by kernel_rfl
  simp only [Ctx.keyOk, h, h2]
theorem z98 : C.mapZero 98 = some .nilm := by kernel_rfl
theorem z61 : C.mapZero 61 = some (.bool false) := by kernel_rfl
theorem YiL : C.isAgg 98 = some false := by kernel_rfl
theorem YhP : C.isAgg 61 = some false := by kernel_rfl
theorem ag99 : C.isAgg 99 = some false := by kernel_rfl
theorem m98 : C.isMap 98 = true := by kernel_rfl
section
attribute [local simp] List.getElem?_cons_zero Option.bind_some YaF ZgN Zdw ZbJ Zh6 Zga Zeg Zoo Zh7 Zge Zit Ziu Zo8 Ziq ZcU Zb5 ZnB Za1 Zbi ZpA Zbb Zdv Zfq Zfw ZcI has opx opd opA opD XV.flat XV.copy oD oA Zae ins ZpY Zii St.put St.putOwn St.lose St.loseEnv unal ZnM Znz ZvL dUn Zjn ZaI ZcJ ZbH ZbA Za2 Zdt Zb8 ZcZ ZkK Zb2 AV.cells AV.cellOk AV.single DV.cellOk YaO Yba YaP DV.cells ZaY ZgY ZaU Zc0 ZaT Zbe ZnP Zba ZfO mapO AV.toD ZaL ZcC Zgn optD Zc2 Zbq Zh4 ZaC ZcD Zci ZaQ Zfs Zeq ZbT St.trim Out.st
theorem Yf1 {call : Zaa} {all : List Oper} (G : Nd) (out : List (DV × AV)) (S : List (List UInt8)) (name : List UInt8) (u : Bm) (hu : Zbd BEq.beq name G = some u) :
    Zaq C call (ann 68) all ((opsL ZrC).take 3) ⟨Zke 0 (YhS name), [], H68 G out S⟩ = some ⟨Zke 0 (YhS name), [(8, .a (.d (.fmap (Zhh u)))), (7, .a (.d (.str name))), (6, .a (.mp 0))], H68 G out S⟩ := by
  unfold opsL Go.Abs.ops ZrC B68 Zab Try.f68 YhS H68
  simp only [Option.getD_some, sq1, Zke]
  simp [-getElem?_pos, A68, Zaq, Zbz, Zg1, hu, k98, z98, YiL, Option.bind_some]
theorem Yf5 : C.isMap 61 = true := by kernel_rfl
theorem Yjo : C.P.underlying 61 = some (.map 9 4) := by kernel_rfl
theorem o68_0 : (opZ (opsL ZrC)).op = .range 61 (.tmp 8) ∧ (opZ (opsL ZrC)).guard = none ∧ (opZ (opsL ZrC)).dst = some 9 := by
  refine ⟨?_, ?_, ?_⟩ <;> kernel_rfl
theorem o68_1 : (op0 (opsL Zsb)).op = .next (.tmp 9) false ∧ (op0 (opsL Zsb)).guard = none ∧ (op0 (opsL Zsb)).dst = some 10 := by
  refine ⟨?_, ?_, ?_⟩ <;> kernel_rfl
theorem o68_2 : (op0 (opsL Zs3)).op = .entry (.tmp 9) ∧ (op0 (opsL Zs3)).guard = none ∧ (op0 (opsL Zs3)).dst = some 12 := by
  refine ⟨?_, ?_, ?_⟩ <;> kernel_rfl
def e68 (name : List UInt8) (p : Value) : List (Nat × SV) := [(0, .val (.d (.str name))), (1, .val (.ptr 1 0)), (2, .val (.ptr 4 0)), (3, .val (.ptr 5 0)), (9, .val (.raw p))]
theorem Yaa {call : Zaa} {all : List Oper} (name : List UInt8) (p : Value) (h : List AObj) (b : Bool) (vs : List DV) :
    Zaq C call (ann 68) all ((opsL Zsb).drop 1) ⟨e68 name p, [(10, .a (.d (.tup (.bool b :: vs))))], h⟩ = some ⟨e68 name p ++ [(11, .val (.d (.bool b)))], [(10, .a (.d (.tup (.bool b :: vs))))], h⟩ := by
  unfold opsL Go.Abs.ops Zsb L68 B68 Zab Try.f68 e68
  simp only [Option.getD_some, sq1, sq2, inn]
  simp [-getElem?_pos, A68, Zaq]
theorem Yhh {call : Zaa} {all : List Oper} (name : List UInt8) (p : Value) (h : List AObj) (k v : DV) :
    Zaq C call (ann 68) all ((opsL Zs3).drop 1) ⟨e68 name p ++ [(11, .val (.d (.bool true)))], [(12, .a (.d (.tup [k, v])))], h⟩ = some ⟨e68 name p ++ [(11, .val (.d (.bool true))), (5, .val (.d k))], [(13, .a (.d k)), (12, .a (.d (.tup [k, v])))], h⟩ := by
  unfold opsL Go.Abs.ops Zs3 K68 L68 B68 Zab Try.f68 e68
  simp only [Option.getD_some, sq1, sq2, inn]
  simp [-getElem?_pos, A68, Zaq]
theorem Yg3 {call : Zaa} (G : Nd) (out : List (DV × AV)) (S : List (List UInt8)) (name nx : List UInt8) (p : Value) :
    evQ C call (ann 68) 0 (.region 3 (ops Yes) false) ⟨e68 name p ++ [(11, .val (.d (.bool true))), (5, .val (.d (.str nx)))], [], H68 G out S⟩ = some (.norm ⟨e68 name p ++ [(11, .val (.d (.bool true))), (5, .val (.d (.str nx))), (23, .val (.d (.bool ((Zbd BEq.beq nx G).isSome && !decide (nx ∈ S)))))], [], H68 G out S⟩) := by
  unfold Go.Abs.ops Yes K68 L68 B68 Zab Try.f68 e68 H68
  simp only [Option.getD_some, sq1, sq2, inn]
  cases hm : Zbd BEq.beq nx G with
  | none => simp [-getElem?_pos, A68, Zaq, Zbz, Zg1, hm, k98, z98, k61, z61, YiL, YhP, m98, ZnM, Znz, Yf5]
  | some u =>
    by_cases hs : nx ∈ S
    · simp [-getElem?_pos, A68, Zaq, Zbz, Zg1, Zhe, hm, hs, k98, z98, k61, z61, YiL, YhP, m98, ZnM, Znz, Yf5]
    · simp [-getElem?_pos, A68, Zaq, Zbz, Zg1, Zhe, hm, hs, k98, z98, k61, z61, YiL, YhP, m98, ZnM, Znz, Yf5]
theorem Yhm {call : Zaa} (G : Nd) (out : List (DV × AV)) (S : List (List UInt8)) {nx : List UInt8} (hs : nx ∉ S) (env : List (Nat × SV)) (h2 : Zae env 2 = some (.val (.ptr 4 0))) (h5 : Zae env 5 = some (.val (.d (.str nx)))) :
    evQ C call (ann 68) 0 (.region 4 (ops Yc4) false) ⟨env, [], H68 G out S⟩ = some (.norm ⟨env, [], H68 G out (S ++ [nx])⟩) := by
  unfold Go.Abs.ops Yc4 K68 L68 B68 Zab Try.f68 H68
  simp only [Option.getD_some, sq1, sq2, inn, cn1]
  simp [-getElem?_pos, A68, Zaq, h2, h5, ZtY nx S hs, k61, z61, YhP]
theorem Ygp {call : Zaa} {all : List Oper} (G : Nd) (out : List (DV × AV)) (S : List (List UInt8)) (nx : List UInt8) (env : List (Nat × SV)) (h3 : Zae env 3 = some (.val (.ptr 5 0))) (h5 : Zae env 5 = some (.val (.d (.str nx)))) :
    Zaq C call (ann 68) all ((opsL Zr5).take 2) ⟨env, [], H68 G out S⟩ = some ⟨env, [(27, .a (.d (.str nx))), (26, .a (.fn 68 [.ptr 1 0, .ptr 4 0, .ptr 5 0]))], H68 G out S⟩ := by
  unfold opsL Go.Abs.ops Zr5 K68 L68 B68 Zab Try.f68 H68
  simp only [Option.getD_some, sq1, sq2, inn, cn1]
  simp [-getElem?_pos, A68, Zaq, h3, h5, ag99]
end
end Go.Tev.S1
namespace Go.Tev.S1
open Go.Abs Go.Proofs
theorem Zwn (t : Tok) : Tok.eqb t t = true := by
  cases t
  simp [Tok.eqb]
mutual
theorem Yel : ∀ v : Val, v.eqb v = true
  | .mk t l => by
    simp only [Val.eqb, Zwn, Zov l, Bool.and_self]
theorem Zov : ∀ l : List Val, Zy8 l l = true
  | [] => rfl
  | v :: r => by simp only [Zy8, Yel v, Zov r, Bool.and_self]
end
end Go.Tev.S1
