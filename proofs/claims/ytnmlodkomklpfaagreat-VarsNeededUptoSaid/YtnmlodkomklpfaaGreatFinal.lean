/- The law VarsNeeded returns true for every input: the list is given, of bulk at most 1048576. -/
import Derived.Test.YtnmlodkomklpfaaGreatLL
import Derived.Test.YtnmlodkomklpfaaGreatLK
import Derived.WalkKit
import Derived.ProofKit
import Derived.JoinedCond
import Derived.OpenShut
set_option linter.unusedVariables false
set_option linter.unusedSimpArgs false
namespace Go.Tev.S1
open Go.Abs Go.Proofs Go.RowKit
theorem Zvf {f : FuncId} {ds : List DV} {b : Bool} (h : Zci (Zab C Kz) false f ds = some (.bool b)) : ∃ h', Has Tryz.prog f (ds.map .d) [] (.d (.bool b)) h' := by
  unfold Zci at h
  split at h
  · rename_i r h' he
    cases h
    exact ⟨_, Zlo Zae mixed Yed _ _ _ _ _ he⟩
  · cases h
  · cases h
theorem Zkp {W : World} {v0 : Value} {n : Int} {c : List Cus} (h0 : Rep W ZbW v0 (.slc (c.map Cus.enc))) (hc : Zjh c) :
    Calls Tryz.prog 4 #[v0, .int .i64 n] W fun e W' => e = .returned (.bool true) ∧ Stays W W' := by
  obtain ⟨d, e1, e2⟩ := Zpz [.l 39 c, .i .i64 n] (c, n) true [.slc (c.map Cus.enc), .int .i64 n] (fun y => .b y) rfl rfl (if_pos hc) rfl
  cases e1
  obtain ⟨h', hh⟩ := Zvf e2
  refine Zx0 hh rfl fun i v d hv hd => ?_
  rcases i with _ | _ | i
  · cases hv; cases hd; exact h0
  · cases hv; cases hd; exact .int _ _
  · simp at hv
end Go.Tev.S1
namespace Go.Proofs.YtnmlodkomklpfaaGreat.varsNeeded
open Go.ChangeShapes Go.WideShapes Go.ChangeAt Go.RowKit Go.Abs Go.Tev Go.Tev.S1
theorem own : ownKnob Tryz.prog.godebug = none := by kernel_rfl
theorem laid : laidOutB Tryz.prog = true := by kernel_rfl
theorem rr23 : Tryz.prog.readableRec 23 = true := by kernel_rfl
set_option maxRecDepth 100000 in
theorem YdB {W : World} {base : Nat} {v : Value} (h : Value.okWide Tryz.prog W .any base 23 v) : v.cells.toList = [v] := by
  cases v <;> first | rfl | (simp [Value.okWide, Tryz.underlying23, Cell.okWide, Cell.ok] at h)
theorem rr3 : Tryz.prog.readableRec 3 = true := by kernel_rfl
set_option maxRecDepth 100000 in
theorem int3 {W : World} {base : Nat} {v : Value} (h : Value.okWide Tryz.prog W .any base 3 v) : ∃ n, v = .int .i64 n := by
  cases v with
  | int k n =>
    simp [Value.okWide, Tryz.underlying3, Cell.okWide, Cell.ok] at h
    cases k <;> first | exact ⟨_, rfl⟩ | simp at h
  | _ => simp [Value.okWide, Tryz.underlying3, Cell.okWide, Cell.ok] at h
theorem nt : 34 < Tryz.prog.types.size := of_decide_eq_true (by kernel_rfl)
set_option maxRecDepth 100000 in
theorem Zy4 (H : Type) (enc : TypeId × Value → H) (W : World) (base : Nat) (args : Array Value) (ds gs : List (DataW H)) (before : List MemPlace)
    (hval : ∀ (j : Nat) t v, Tryz.f4.params[j]? = some t → args[j]? = some v → Value.okWide Tryz.prog W .any base t v)
    (hW : DataW.Whole enc Tryz.prog Tryz.f4.params.toList Rows.varsNeededSpec.vars false W args.toList ds gs before) (hk : Rows.uptoSmall H (ds ++ gs) = true) :
    Calls Tryz.prog 4 args W fun e W' => ∃ v, e = .returned v ∧ Rows.varsNeededSpec.post enc Tryz.prog Tryz.f4 false true false false W args v W' := by
  have hW' := hW
  have hbef := fun p hp => hW.lt p hp
  obtain ⟨p, q, hA0, hV, rfl, hfz, hnd⟩ := hW
  have hA : DataW.TrodAll enc Tryz.prog W 0 (fun _ => true) true Tryz.f4.params.toList args.toList ds p := hA0
  rw [Tryz.params4] at hA hval
  obtain ⟨v0, vs0, d0, ds0, p0, q0, hargs, rfl, rfl, t0, r0⟩ := trodAll_cons hA
  obtain ⟨v1, vs1, d1, ds1, p1, q1, rfl, rfl, rfl, t1, r1⟩ := trodAll_cons r0
  obtain ⟨rfl, rfl, rfl⟩ := trodAll_nil r1
  obtain rfl : args = #[v0, v1] := by cases args; simp_all
  obtain ⟨rfl, rfl⟩ := trodVars_none hV
  have hk' : Rows.uptoBulkAll [d0, d1] ≤ 1048576 := by simpa [Rows.uptoSmall] using hk
  have hb : Zmk d0 + (Zmk d1 + 0) ≤ 1048576 := by
    have := hk'
    simp only [Rows.uptoBulkAll] at this
    exact this
  obtain ⟨fuel0, f0⟩ := t0
  obtain ⟨fuel1, f1⟩ := t1
  obtain ⟨u0, l0, c0, _, h0, b0, e0⟩ := Zzp f0
  have w0 := hval 0 23 v0 rfl rfl
  have c0 := (YdB w0).symm.trans c0
  cases c0
  have w1 := hval 1 3 v1 rfl rfl
  obtain ⟨l1, rfl⟩ := int3 w1
  simp only at b0 e0
  have hB : Tev.B = 2 ^ 36 := rfl
  have hV2 : Tev.V = 2 ^ 24 := rfl
  refine (Zkp h0 ⟨by omega, fun y hy => by have := e0 y hy; omega⟩ ).mono fun e W' ⟨he, hS⟩ => ?_
  subst he
  refine ⟨_, rfl, ZnE (pa := p0 ++ (p1 ++ [])) (pv := []) hW' (fun _ _ _ => trodAll_cons_mk (shut_bool Tryz.underlying4 _) trodAll_mk0) (fun sp hsp => ?_) (fun _ _ => rfl) rfl hS (ok_one (by kernel_rfl) rfl (okWide_bool_mk Tryz.underlying4 _))⟩
  refine trodAll_cons_mk (WideElems.Trod_stays laid rr23 (Nat.lt_trans (by decide) nt) ⟨fuel0, f0⟩ (fun x hx => hS.same (hbef x (by simp [hx]))) (fun x hx => hsp x (by simp [hx]))) ?_
  exact trodAll_cons_mk (WideElems.Trod_stays laid rr3 (Nat.lt_trans (by decide) nt) ⟨fuel1, f1⟩ (fun x hx => hS.same (hbef x (by simp [hx]))) (fun x hx => hsp x (by simp [hx]))) trodAll_mk0
set_option maxRecDepth 100000 in
theorem lifted (os : Os) (started : os.Started) (H : Type) (enc : TypeId × Value → H) (F : Stop.Interp) :
    ReturnsInHanded {} Tryz.checked os 4 .any ((Rows.OpenSpec.upto Rows.varsNeededSpec).pre6 enc Tryz.prog Tryz.f4 Rows.varsNeededUptoRow.domain false) (((Rows.OpenSpec.upto Rows.varsNeededSpec).at F).post enc Tryz.prog Tryz.f4 false true false false) := by
  refine returnsInHanded_of_cond (C := Tryz.checked) (s := Rows.OpenSpec.upto Rows.varsNeededSpec) (k := Rows.uptoSmall) rfl own started (by kernel_rfl) Tryz.func4
    (OpenSpec.witness (enc := enc) (C := Tryz.checked) (s := Rows.OpenSpec.upto Rows.varsNeededSpec) (k := Rows.uptoSmall) rfl false ⟨#[], #[.slice none 0 0, .int .i64 0], []⟩ 8 (by kernel_rfl) (by kernel_rfl) (by kernel_rfl)
      (x := ([.nil, .lit (.int .i64 0)], [], [])) (by kernel_rfl) rfl (by kernel_rfl)) ?_
  intro W base args ds gs before hval hW _ hk _
  exact Zy4 H enc W base args ds gs before hval hW hk
theorem over : Rows.varsNeededUptoRow.holds Tryz.pinned (Rows.OpenSpec.upto Rows.varsNeededSpec) :=
  OpenClaim.holds_of_cond 4 Tryz.f4 rfl rfl rfl rfl rfl rfl rfl ⟨rfl, rfl, rfl, rfl, rfl⟩ rfl rfl rfl rfl rfl (by kernel_rfl) Tryz.func4 (by kernel_rfl)
    (of_decide_eq_true (by kernel_rfl)) (by unfold Func.isWrapper; first | (rw [if_pos (by decide +kernel)]; kernel_rfl) | (rw [if_neg (by decide +kernel)]; exact ⟨rfl, rfl⟩))
    (fun os started H enc _ F => lifted os started H enc F)
theorem proved : Rows.VarsNeededUptoSaid :=
  over
end Go.Proofs.YtnmlodkomklpfaaGreat.varsNeeded
