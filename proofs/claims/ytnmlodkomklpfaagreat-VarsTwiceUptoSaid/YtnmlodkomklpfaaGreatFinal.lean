/- The law VarsTwice returns true for every input: the lists are given, of bulk at most 1048576. -/
import Derived.Test.YtnmlodkomklpfaaGreatLL
import Derived.WalkKit
import Derived.ProofKit
import Derived.JoinedCond
import Derived.OpenShut
set_option linter.unusedVariables false
set_option linter.unusedSimpArgs false
namespace Go.Tev.S1
open Go.Abs Go.Proofs Go.RowKit
theorem YdN : Zbq Tryz.prog (Zab C (K2 K0)) := Zmh Zai mixed (Yes Ydc)
theorem ZvU {f : FuncId} {ds : List DV} {b : Bool} (h : ZcL (Zab C (K2 K0)) false f ds = some (.bool b)) : ∃ h', Has Tryz.prog f (ds.map .d) [] (.d (.bool b)) h' := by
  unfold ZcL at h
  split at h
  · rename_i r h' he
    cases h
    exact ⟨_, YdN _ _ _ _ _ he⟩
  · cases h
  · cases h
theorem ZmP {W : World} {v0 v1 v2 : Value} {l : List Val} {c d : List Cus} (h0 : Rep W Zh7 v0 (.slc (l.map Val.enc))) (h1 : Rep W Zh7 v1 (.slc (c.map Cus.enc))) (h2 : Rep W Zh7 v2 (.slc (d.map Cus.enc))) (hl : Zah l ≤ B) (hc : ZkO c) (hd : ZkO d) :
    Calls Tryz.prog 3 #[v0, v1, v2] W fun e W' => e = .returned (.bool true) ∧ Stays W W' := by
  obtain ⟨d, e1, e2⟩ := Zsm (Ybp Zpp) (Ybl Ycp) YcO [.l 51 l, .l 39 c, .l 39 d] (l, c, d) true [.slc (l.map Val.enc), .slc (c.map Cus.enc), .slc (d.map Cus.enc)] (fun y => .b y) rfl rfl (if_pos ⟨hl, hc, hd⟩) rfl
  cases e1
  obtain ⟨h', hh⟩ := ZvU e2
  refine Zwb hh rfl fun i v d hv hd => ?_
  rcases i with _ | _ | _ | i
  · cases hv; cases hd; exact h0
  · cases hv; cases hd; exact h1
  · cases hv; cases hd; exact h2
  · simp at hv
end Go.Tev.S1
namespace Go.Proofs.YtnmlodkomklpfaaGreat.varsTwice
open Go.ChangeShapes Go.WideShapes Go.ChangeAt Go.RowKit Go.Abs Go.Tev Go.Tev.S1
theorem own : ownKnob Tryz.prog.godebug = none := by kernel_rfl
theorem laid : laidOutB Tryz.prog = true := by kernel_rfl
theorem rr23 : Tryz.prog.readableRec 23 = true := by kernel_rfl
set_option maxRecDepth 100000 in
theorem YaY {W : World} {base : Nat} {v : Value} (h : Value.okWide Tryz.prog W .any base 23 v) : v.cells.toList = [v] := by
  cases v <;> first | rfl | (simp [Value.okWide, Tryz.underlying23, Cell.okWide, Cell.ok] at h)
theorem rr22 : Tryz.prog.readableRec 22 = true := by kernel_rfl
set_option maxRecDepth 100000 in
theorem YdC {W : World} {base : Nat} {v : Value} (h : Value.okWide Tryz.prog W .any base 22 v) : v.cells.toList = [v] := by
  cases v <;> first | rfl | (simp [Value.okWide, Tryz.underlying22, Cell.okWide, Cell.ok] at h)
theorem nt : 34 < Tryz.prog.types.size := of_decide_eq_true (by kernel_rfl)
set_option maxRecDepth 100000 in
theorem ZzP (H : Type) (enc : TypeId × Value → H) (W : World) (base : Nat) (args : Array Value) (ds gs : List (DataW H)) (before : List MemPlace)
    (hval : ∀ (j : Nat) t v, Tryz.f3.params[j]? = some t → args[j]? = some v → Value.okWide Tryz.prog W .any base t v)
    (hW : DataW.Whole enc Tryz.prog Tryz.f3.params.toList Rows.varsTwiceSpec.vars false W args.toList ds gs before) (hk : Rows.uptoSmall H (ds ++ gs) = true) :
    Calls Tryz.prog 3 args W fun e W' => ∃ v, e = .returned v ∧ Rows.varsTwiceSpec.post enc Tryz.prog Tryz.f3 false true false false W args v W' := by
  have hW' := hW
  have hbef := fun p hp => hW.lt p hp
  obtain ⟨p, q, hA0, hV, rfl, hfz, hnd⟩ := hW
  have hA : DataW.TrodAll enc Tryz.prog W 0 (fun _ => true) true Tryz.f3.params.toList args.toList ds p := hA0
  rw [Tryz.params3] at hA hval
  obtain ⟨v0, vs0, d0, ds0, p0, q0, hargs, rfl, rfl, t0, r0⟩ := trodAll_cons hA
  obtain ⟨v1, vs1, d1, ds1, p1, q1, rfl, rfl, rfl, t1, r1⟩ := trodAll_cons r0
  obtain ⟨v2, vs2, d2, ds2, p2, q2, rfl, rfl, rfl, t2, r2⟩ := trodAll_cons r1
  obtain ⟨rfl, rfl, rfl⟩ := trodAll_nil r2
  obtain rfl : args = #[v0, v1, v2] := by cases args; simp_all
  obtain ⟨rfl, rfl⟩ := trodVars_none hV
  have hk' : Rows.uptoBulkAll [d0, d1, d2] ≤ 1048576 := by simpa [Rows.uptoSmall] using hk
  have hb : ZmQ d0 + (ZmQ d1 + (ZmQ d2 + 0)) ≤ 1048576 := by
    have := hk'
    simp only [Rows.uptoBulkAll] at this
    exact this
  obtain ⟨fuel0, f0⟩ := t0
  obtain ⟨fuel1, f1⟩ := t1
  obtain ⟨fuel2, f2⟩ := t2
  obtain ⟨u0, l0, c0, _, h0, b0⟩ := Zrf _ _ _ f0
  obtain ⟨u1, l1, c1, _, h1, b1, e1⟩ := Zue f1
  obtain ⟨u2, l2, c2, _, h2, b2, e2⟩ := Zue f2
  have w0 := hval 0 22 v0 rfl rfl
  have c0 := (YdC w0).symm.trans c0
  cases c0
  have w1 := hval 1 23 v1 rfl rfl
  have c1 := (YaY w1).symm.trans c1
  cases c1
  have w2 := hval 2 23 v2 rfl rfl
  have c2 := (YaY w2).symm.trans c2
  cases c2
  simp only at b0 b1 e1 b2 e2
  have hB : Tev.B = 2 ^ 36 := rfl
  have hV2 : Tev.V = 2 ^ 24 := rfl
  refine (ZmP h0 h1 h2 (by omega) ⟨by omega, fun y hy => by have := e1 y hy; omega⟩ ⟨by omega, fun y hy => by have := e2 y hy; omega⟩).mono fun e W' ⟨he, hS⟩ => ?_
  subst he
  refine ⟨_, rfl, ZoM (pa := p0 ++ (p1 ++ (p2 ++ []))) (pv := []) hW' (fun _ _ _ => trodAll_cons_mk (shut_bool Tryz.underlying4 _) trodAll_mk0) (fun sp hsp => ?_) (fun _ _ => rfl) rfl hS (ok_one (by kernel_rfl) rfl (okWide_bool_mk Tryz.underlying4 _))⟩
  refine trodAll_cons_mk (WideElems.Trod_stays laid rr22 (Nat.lt_trans (by decide) nt) ⟨fuel0, f0⟩ (fun x hx => hS.same (hbef x (by simp [hx]))) (fun x hx => hsp x (by simp [hx]))) ?_
  refine trodAll_cons_mk (WideElems.Trod_stays laid rr23 (Nat.lt_trans (by decide) nt) ⟨fuel1, f1⟩ (fun x hx => hS.same (hbef x (by simp [hx]))) (fun x hx => hsp x (by simp [hx]))) ?_
  exact trodAll_cons_mk (WideElems.Trod_stays laid rr23 (Nat.lt_trans (by decide) nt) ⟨fuel2, f2⟩ (fun x hx => hS.same (hbef x (by simp [hx]))) (fun x hx => hsp x (by simp [hx]))) trodAll_mk0
set_option maxRecDepth 100000 in
theorem lifted (os : Os) (started : os.Started) (H : Type) (enc : TypeId × Value → H) (F : Stop.Interp) :
    ReturnsInHanded {} Tryz.checked os 3 .any ((Rows.OpenSpec.upto Rows.varsTwiceSpec).pre6 enc Tryz.prog Tryz.f3 Rows.varsTwiceUptoRow.domain false) (((Rows.OpenSpec.upto Rows.varsTwiceSpec).at F).post enc Tryz.prog Tryz.f3 false true false false) := by
  refine returnsInHanded_of_cond (C := Tryz.checked) (s := Rows.OpenSpec.upto Rows.varsTwiceSpec) (k := Rows.uptoSmall) rfl own started (by kernel_rfl) Tryz.func3
    (OpenSpec.witness (enc := enc) (C := Tryz.checked) (s := Rows.OpenSpec.upto Rows.varsTwiceSpec) (k := Rows.uptoSmall) rfl false ⟨#[], #[.slice none 0 0, .slice none 0 0, .slice none 0 0], []⟩ 8 (by kernel_rfl) (by kernel_rfl) (by kernel_rfl)
      (x := ([.nil, .nil, .nil], [], [])) (by kernel_rfl) rfl (by kernel_rfl)) ?_
  intro W base args ds gs before hval hW _ hk _
  exact ZzP H enc W base args ds gs before hval hW hk
theorem over : Rows.varsTwiceUptoRow.holds Tryz.pinned (Rows.OpenSpec.upto Rows.varsTwiceSpec) :=
  OpenClaim.holds_of_cond 3 Tryz.f3 rfl rfl rfl rfl rfl rfl rfl ⟨rfl, rfl, rfl, rfl, rfl⟩ rfl rfl rfl rfl rfl (by kernel_rfl) Tryz.func3 (by kernel_rfl)
    (of_decide_eq_true (by kernel_rfl)) (by unfold Func.isWrapper; first | (rw [if_pos (by decide +kernel)]; kernel_rfl) | (rw [if_neg (by decide +kernel)]; exact ⟨rfl, rfl⟩))
    (fun os started H enc _ F => lifted os started H enc F)
theorem proved : Rows.VarsTwiceUptoSaid :=
  over
end Go.Proofs.YtnmlodkomklpfaaGreat.varsTwice
