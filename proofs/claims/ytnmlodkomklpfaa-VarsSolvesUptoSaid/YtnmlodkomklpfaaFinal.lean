/- For all lists of custom properties (those that are great are let through by the law itself), VarsSolves answers true and leaves its argument as it read before. Condition: what the argument holds is of bulk at most 1048576. -/
import Derived.Test.YtnmlodkomklpfaaLL
import Derived.Test.YtnmlodkomklpfaaLK
import Derived.WalkKit
import Derived.ProofKit
import Derived.JoinedCond
import Derived.OpenShut
set_option linter.unusedVariables false
set_option linter.unusedSimpArgs false
namespace Go.Tev.S1
open Go.Abs Go.Proofs Go.RowKit
theorem Zzv {f : FuncId} {ds : List DV} {b : Bool} (h : Zdb (Zac C K1) false f ds = some (.bool b)) : ∃ h', Has Try.prog f (ds.map .d) [] (.d (.bool b)) h' := by
  unfold Zdb at h
  split at h
  · rename_i r h' he
    cases h
    exact ⟨_, Zob Zah mixed Yjh _ _ _ _ _ he⟩
  · cases h
  · cases h
theorem Zu1 {W : World} {v0 : Value} {c : List Cus} (h0 : Rep W Zlj v0 (.slc (c.map Cus.enc))) (hc : ZfI c) :
    Calls Try.prog 3 #[v0] W fun e W' => e = .returned (.bool true) ∧ Stays W W' := by
  obtain ⟨d, e1, e2⟩ := ZuN [.l 53 c] c true [.slc (c.map Cus.enc)] (fun y => .b y) rfl rfl (if_pos hc) rfl
  cases e1
  obtain ⟨h', hh⟩ := Zzv e2
  refine Zz7 hh rfl fun i v d hv hd => ?_
  rcases i with _ | i
  · cases hv; cases hd; exact h0
  · simp at hv
end Go.Tev.S1
namespace Go.Proofs.Ytnmlodkomklpfaa.varsSolves
open Go.ChangeShapes Go.WideShapes Go.ChangeAt Go.RowKit Go.Abs Go.Tev Go.Tev.S1
theorem own : ownKnob Try.prog.godebug = none := by kernel_rfl
theorem laid : laidOutB Try.prog = true := by kernel_rfl
theorem rr22 : Try.prog.readableRec 22 = true := by kernel_rfl
theorem nt : 34 < Try.prog.types.size := of_decide_eq_true (by kernel_rfl)
set_option maxRecDepth 100000 in
theorem YiI {W : World} {base : Nat} {v : Value} (h : Value.okWide Try.prog W .any base 22 v) : v.cells.toList = [v] := by
  cases v <;> first | rfl | (simp [Value.okWide, Try.underlying22, Cell.okWide, Cell.ok] at h)
set_option maxRecDepth 100000 in
theorem Yed (H : Type) (enc : TypeId × Value → H) (W : World) (base : Nat) (args : Array Value) (ds gs : List (DataW H)) (before : List MemPlace)
    (hval : ∀ (j : Nat) t v, Try.f3.params[j]? = some t → args[j]? = some v → Value.okWide Try.prog W .any base t v)
    (hW : DataW.Whole enc Try.prog Try.f3.params.toList Rows.varsSolvesSpec.vars false W args.toList ds gs before) (hk : Rows.uptoSmall H (ds ++ gs) = true) :
    Calls Try.prog 3 args W fun e W' => ∃ v, e = .returned v ∧ Rows.varsSolvesSpec.post enc Try.prog Try.f3 false true false false W args v W' := by
  have hW' := hW
  have hbef := fun p hp => hW.lt p hp
  obtain ⟨p, q, hA0, hV, rfl, hfz, hnd⟩ := hW
  have hA : DataW.TrodAll enc Try.prog W 0 (fun _ => true) true Try.f3.params.toList args.toList ds p := hA0
  rw [Try.params3] at hA hval
  obtain ⟨v0, vs0, d0, ds0, p0, q0, hargs, rfl, rfl, t0, r0⟩ := trodAll_cons hA
  obtain ⟨rfl, rfl, rfl⟩ := trodAll_nil r0
  obtain rfl : args = #[v0] := by cases args; simp_all
  obtain ⟨rfl, rfl⟩ := trodVars_none hV
  have hk' : Rows.uptoBulkAll [d0] ≤ 1048576 := by simpa [Rows.uptoSmall] using hk
  have hb : ZqQ d0 + 0 ≤ 1048576 := by
    have := hk'
    simp only [Rows.uptoBulkAll] at this
    exact this
  obtain ⟨fuel0, f0⟩ := t0
  obtain ⟨u0, c, c0, _, h0, b1, b2⟩ := Ydi f0
  have w0 := hval 0 22 v0 rfl rfl
  have c0 := (YiI w0).symm.trans c0
  cases c0
  simp only at b1 b2
  have hB : Tev.B = 2 ^ 36 := rfl
  have hV2 : Tev.V = 2 ^ 24 := rfl
  refine (Zu1 (c := c) h0 ⟨by omega, fun y hy => by have := b2 y hy; omega⟩).mono fun e W' ⟨he, hS⟩ => ?_
  subst he
  refine ⟨_, rfl, Ztc (pa := p0 ++ []) (pv := []) hW' (fun _ _ _ => trodAll_cons_mk (shut_bool Try.underlying4 _) trodAll_mk0) (fun sp hsp => ?_) (fun _ _ => rfl) rfl hS (ok_one (by kernel_rfl) rfl (okWide_bool_mk Try.underlying4 _))⟩
  exact trodAll_cons_mk (WideElems.Trod_stays laid rr22 (Nat.lt_trans (by decide) nt) ⟨fuel0, f0⟩ (fun x hx => hS.same (hbef x (by simp [hx]))) (fun x hx => hsp x (by simp [hx]))) trodAll_mk0
set_option maxRecDepth 100000 in
theorem lifted (os : Os) (started : os.Started) (H : Type) (enc : TypeId × Value → H) (F : Stop.Interp) :
    ReturnsInHanded {} Try.checked os 3 .any ((Rows.OpenSpec.upto Rows.varsSolvesSpec).pre6 enc Try.prog Try.f3 Rows.varsSolvesUptoRow.domain false) (((Rows.OpenSpec.upto Rows.varsSolvesSpec).at F).post enc Try.prog Try.f3 false true false false) := by
  refine returnsInHanded_of_cond (C := Try.checked) (s := Rows.OpenSpec.upto Rows.varsSolvesSpec) (k := Rows.uptoSmall) rfl own started (by kernel_rfl) Try.func3
    (OpenSpec.witness (enc := enc) (C := Try.checked) (s := Rows.OpenSpec.upto Rows.varsSolvesSpec) (k := Rows.uptoSmall) rfl false ⟨#[], #[.slice none 0 0], []⟩ 8 (by kernel_rfl) (by kernel_rfl) (by kernel_rfl)
      (x := ([.nil], [], [])) (by kernel_rfl) rfl (by kernel_rfl)) ?_
  intro W base args ds gs before hval hW _ hk _
  exact Yed H enc W base args ds gs before hval hW hk
theorem over : Rows.varsSolvesUptoRow.holds Try.pinned (Rows.OpenSpec.upto Rows.varsSolvesSpec) :=
  OpenClaim.holds_of_cond 3 Try.f3 rfl rfl rfl rfl rfl rfl rfl ⟨rfl, rfl, rfl, rfl, rfl⟩ rfl rfl rfl rfl rfl (by kernel_rfl) Try.func3 (by kernel_rfl)
    (of_decide_eq_true (by kernel_rfl)) (by unfold Func.isWrapper; first | (rw [if_pos (by decide +kernel)]; kernel_rfl) | (rw [if_neg (by decide +kernel)]; exact ⟨rfl, rfl⟩))
    (fun os started H enc _ F => lifted os started H enc F)
theorem proved : Rows.VarsSolvesUptoSaid :=
  over
end Go.Proofs.Ytnmlodkomklpfaa.varsSolves
