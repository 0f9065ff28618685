/- For all component values and custom properties (those that are great are let through by the law itself), VarsReplaces answers true and leaves both arguments as they read before. Condition: what the two arguments read as has bulk at most 1048576 (the second form). -/
import Derived.Test.YtnmlodkomklpfaaLL
import Derived.WalkKit
import Derived.ProofKit
import Derived.JoinedCond
import Derived.OpenShut
set_option linter.unusedVariables false
set_option linter.unusedSimpArgs false
namespace Go.Proofs.Ytnmlodkomklpfaa.varsReplaces
open Go.ChangeShapes Go.WideShapes Go.ChangeAt Go.RowKit Go.Abs Go.Tev Go.Tev.S1

theorem own : ownKnob Try.prog.godebug = none := by kernel_rfl
theorem laid : laidOutB Try.prog = true := by kernel_rfl
theorem rr33 : Try.prog.readableRec 33 = true := by kernel_rfl
theorem rr22 : Try.prog.readableRec 22 = true := by kernel_rfl
theorem nt : 34 < Try.prog.types.size := of_decide_eq_true (by kernel_rfl)
set_option maxRecDepth 100000 in
theorem cell33 {W : World} {base : Nat} {v : Value} (h : Value.okWide Try.prog W .any base 33 v) : v.cells.toList = [v] := by
  cases v <;> first | rfl | (simp [Value.okWide, Try.underlying33, Cell.okWide, Cell.ok] at h)
set_option maxRecDepth 100000 in
theorem cell22 {W : World} {base : Nat} {v : Value} (h : Value.okWide Try.prog W .any base 22 v) : v.cells.toList = [v] := by
  cases v <;> first | rfl | (simp [Value.okWide, Try.underlying22, Cell.okWide, Cell.ok] at h)

set_option maxRecDepth 100000 in
theorem contract (H : Type) (enc : TypeId × Value → H) (W : World) (base : Nat) (args : Array Value) (ds gs : List (DataW H)) (before : List MemPlace)
    (hval : ∀ (j : Nat) t v, Try.f4.params[j]? = some t → args[j]? = some v → Value.okWide Try.prog W .any base t v)
    (hW : DataW.Whole enc Try.prog Try.f4.params.toList Rows.varsReplacesSpec.vars false W args.toList ds gs before) (hk : Rows.uptoSmall H (ds ++ gs) = true) :
    Calls Try.prog 4 args W fun e W' => ∃ v, e = .returned v ∧ Rows.varsReplacesSpec.post enc Try.prog Try.f4 false true false false W args v W' := by
  have hW' := hW
  have hbef := fun p hp => hW.lt p hp
  obtain ⟨p, q, hA0, hV, rfl, hfz, hnd⟩ := hW
  have hA : DataW.TrodAll enc Try.prog W 0 (fun _ => true) true Try.f4.params.toList args.toList ds p := hA0
  rw [Try.params4] at hA hval
  obtain ⟨v0, vs0, d0, ds0, p0, q0, hargs, rfl, rfl, t0, r0⟩ := trodAll_cons hA
  obtain ⟨v1, vs1, d1, ds1, p1, q1, rfl, rfl, rfl, t1, r1⟩ := trodAll_cons r0
  obtain ⟨rfl, rfl, rfl⟩ := trodAll_nil r1
  obtain rfl : args = #[v0, v1] := by cases args; simp_all
  obtain ⟨rfl, rfl⟩ := trodVars_none hV
  have hk' : Rows.uptoBulkAll [d0, d1] ≤ 1048576 := by simpa [Rows.uptoSmall] using hk
  have hb : bulk d0 + (bulk d1 + 0) ≤ 1048576 := by
    have := hk'
    simp only [Rows.uptoBulkAll] at this
    exact this
  obtain ⟨fuel0, f0⟩ := t0
  obtain ⟨fuel1, f1⟩ := t1
  obtain ⟨u0, l, c0, _, h0, b0⟩ := read_vals _ _ _ f0
  obtain ⟨u1, c, c1, _, h1, b1, b2⟩ := read_cus f1
  have w0 := hval 0 33 v0 rfl rfl
  have w1 := hval 1 22 v1 rfl rfl
  have c0 := (cell33 w0).symm.trans c0
  have c1 := (cell22 w1).symm.trans c1
  cases c0
  cases c1
  simp only at b0 b1 b2
  have hB : Tev.B = 2 ^ 36 := rfl
  have hV2 : Tev.V = 2 ^ 24 := rfl
  refine (replaces_calls (l := l) (c := c) h0 h1 (by omega) ⟨by omega, fun y hy => by have := b2 y hy; omega⟩).mono fun e W' ⟨he, hS⟩ => ?_
  subst he
  refine ⟨_, rfl, post_of_stays (pa := p0 ++ (p1 ++ [])) (pv := []) hW' (fun _ _ _ => trodAll_cons_mk (shut_bool Try.underlying4 _) trodAll_mk0) (fun sp hsp => ?_) (fun _ _ => rfl) rfl hS (ok_one (by kernel_rfl) rfl (okWide_bool_mk Try.underlying4 _))⟩
  refine trodAll_cons_mk (WideElems.Trod_stays laid rr33 (Nat.lt_trans (by decide) nt) ⟨fuel0, f0⟩ (fun x hx => hS.same (hbef x (by simp [hx]))) (fun x hx => hsp x (by simp [hx]))) ?_
  exact trodAll_cons_mk (WideElems.Trod_stays laid rr22 (Nat.lt_trans (by decide) nt) ⟨fuel1, f1⟩ (fun x hx => hS.same (hbef x (by simp [hx]))) (fun x hx => hsp x (by simp [hx]))) trodAll_mk0

set_option maxRecDepth 100000 in
theorem lifted (os : Os) (started : os.Started) (H : Type) (enc : TypeId × Value → H) (F : Stop.Interp) :
    ReturnsInHanded {} Try.checked os 4 .any ((Rows.OpenSpec.upto Rows.varsReplacesSpec).pre6 enc Try.prog Try.f4 Rows.varsReplacesUptoRow.domain false) (((Rows.OpenSpec.upto Rows.varsReplacesSpec).at F).post enc Try.prog Try.f4 false true false false) := by
  refine returnsInHanded_of_cond (C := Try.checked) (s := Rows.OpenSpec.upto Rows.varsReplacesSpec) (k := Rows.uptoSmall) rfl own started (by kernel_rfl) Try.func4
    (OpenSpec.witness (enc := enc) (C := Try.checked) (s := Rows.OpenSpec.upto Rows.varsReplacesSpec) (k := Rows.uptoSmall) rfl false ⟨#[], #[.slice none 0 0, .slice none 0 0], []⟩ 8 (by kernel_rfl) (by kernel_rfl) (by kernel_rfl)
      (x := ([.nil, .nil], [], [])) (by kernel_rfl) rfl (by kernel_rfl)) ?_
  intro W base args ds gs before hval hW _ hk _
  exact contract H enc W base args ds gs before hval hW hk

theorem over : Rows.varsReplacesUptoRow.holds Try.pinned (Rows.OpenSpec.upto Rows.varsReplacesSpec) :=
  OpenClaim.holds_of_cond 4 Try.f4 rfl rfl rfl rfl rfl rfl rfl ⟨rfl, rfl, rfl, rfl, rfl⟩ rfl rfl rfl rfl rfl (by kernel_rfl) Try.func4 (by kernel_rfl)
    (of_decide_eq_true (by kernel_rfl)) (by unfold Func.isWrapper; first | (rw [if_pos (by decide +kernel)]; kernel_rfl) | (rw [if_neg (by decide +kernel)]; exact ⟨rfl, rfl⟩))
    (fun os started H enc _ F => lifted os started H enc F)

theorem proved : Rows.VarsReplacesUptoSaid :=
  over
end Go.Proofs.Ytnmlodkomklpfaa.varsReplaces
