/- A certified evaluator for the walked functions, and their contracts, for the laws of the variables. -/
import Derived.Test.YtnmlodkomklpfaaGreatLN
import Derived.Test.YtnmlodkomklpfaaGreatLO
import Derived.Test.YtnmlodkomklpfaaGreatLP
import Derived.Test.YtnmlodkomklpfaaGreatLQ
import Derived.Test.YtnmlodkomklpfaaGreatLR
set_option linter.unusedVariables false
set_option linter.unusedSimpArgs false
namespace Go.Tev.S1
open Go.Abs Go.Proofs
theorem Yed : [cF 102 (List.replicate 1000 vX)].map Cus.enc = [fD] := by rw [List.map_cons, List.map_nil, Cus.enc, show (cF 102 (List.replicate 1000 vX)).val = List.replicate 1000 vX from rfl, ZnX]; rfl
theorem cusM : [cF 102 (List.replicate 1000 vX ++ [vC])].map Cus.enc = [mD] := by rw [List.map_cons, List.map_nil, Cus.enc, show (cF 102 (List.replicate 1000 vX ++ [vC])).val = List.replicate 1000 vX ++ [vC] from rfl, ZvX]; rfl
theorem hv2 : Has Tryz.prog 12 [.d (.slc ([vV [vI 102], v1 1000].map Val.enc)), .d (.slc [fD])] [] (.d (.tup [.slc [], .int .i64 28])) [] := by
  have := ZrT (by decide) (okF (c := 102) ZeD (by decide)) (rep2 ZeD)
  rw [Yed] at this
  exact this
theorem hv3 : Has Tryz.prog 12 [.d (.slc (Zn9 ++ [vC.enc])), .d (.slc [])] [] (.d (.tup [.slc (Zn9 ++ [vC.enc]), .int .i64 0])) [] := by
  have := ZrT (c := []) (by rw [lng_more.tot]; decide) ⟨by decide, fun v hv => by cases hv⟩ (rep3 lng_more)
  rw [ZvX] at this
  exact this
theorem ok4 : Zgv (e4 (List.replicate 1000 vX ++ [vC])) := ⟨show 2 ≤ B by decide, fun v hv => by
  simp only [e4, List.mem_cons, List.not_mem_nil, or_false] at hv
  rcases hv with rfl | rfl
  · decide
  · exact okB lng_more (by decide)⟩
theorem ok5 : Zgv (e5 (List.replicate 1000 vX)) := ⟨show 3 ≤ B by decide, fun v hv => by
  simp only [e5, List.mem_cons, List.not_mem_nil, or_false] at hv
  rcases hv with rfl | rfl | rfl
  · decide
  · exact okB ZeD (by decide)
  · decide⟩
theorem ok6 : Zgv [cF 102 (List.replicate 1000 vX), cF 103 [v1 2000]] := ⟨show 2 ≤ B by decide, fun v hv => by
  simp only [List.mem_cons, List.not_mem_nil, or_false] at hv
  rcases hv with rfl | rfl
  · exact okB ZeD (by decide)
  · decide⟩
theorem hv4 : Has Tryz.prog 16 [.d (.slc [(cF 101 [vV [vI 102, vC, vS, v1 1000]]).enc, mD])] [] (.d (.tup [.slc [(cF 101 [v1 1000]).enc], .int .i64 0])) [] := by
  have := ZqI ok4 (out4 lng_more)
  rw [e4, List.map_cons, cusM] at this
  exact this
theorem map3 (a b c : Cus) : [a, b, c].map Cus.enc = a.enc :: ([b].map Cus.enc ++ [c.enc]) := rfl
theorem map2 (b c : Cus) : [b, c].map Cus.enc = [b].map Cus.enc ++ [c.enc] := rfl
theorem hv5 : Has Tryz.prog 16 [.d (.slc [(cF 101 [vV [vI 102], vS, vV [vI 102]]).enc, fD, (cF 103 [vV [vI 101, vC, vS, v1 2000]]).enc])] [] (.d (.tup [.slc [fD, (cF 103 [v1 2000]).enc], .int .i64 0])) [] := by
  have := ZqI ok5 (out5 ZeD)
  rw [e5, map3, map2, Yed] at this
  exact this
theorem hv6 : Has Tryz.prog 22 [.d (.slc [fD])] [] (.d (.int .i64 0)) [] := by
  have := Zwf (okF (c := 102) ZeD (by decide)) ((Yeb ZeD).trans (if_neg (by decide)))
  rw [Yed] at this
  exact this
theorem hv7 : Has Tryz.prog 22 [.d (.slc [mD])] [] (.d (.int .i64 8)) [] := by
  have := Zwf (okF (c := 102) lng_more (by decide)) ((Yeb lng_more).trans (if_pos (by decide)))
  rw [cusM] at this
  exact this
theorem hv8 : Has Tryz.prog 18 [.d (.slc [fD, (cF 103 [v1 2000]).enc]), .d (.slc [fD, (cF 103 [v1 2000]).enc])] [] (.d (.bool true)) [] := by
  have := ZzP ok6
  rw [map2, Yed] at this
  exact this
noncomputable def NE : List Ent := [⟨_, _, _, ZbH run1⟩, ⟨_, _, _, ZbH run2⟩, ⟨_, _, _, ZbH run3⟩, ⟨_, _, _, ZbH run4⟩, ⟨_, _, _, ZbH run5⟩, ⟨_, _, _, ZbH run6⟩, ⟨_, _, _, ZbH run7⟩, ⟨_, _, _, ZbH run8⟩, ⟨_, _, _, ZbH run9⟩, ⟨_, _, _, ZbH Yew⟩, ⟨_, _, _, ZbH Yeq⟩, ⟨_, _, _, ZbH YeB⟩, ⟨_, _, _, ZbH Yft⟩, ⟨_, _, _, ZbH Yfd⟩, ⟨_, _, _, ZbH Yfh⟩, ⟨_, _, _, ZbH YeL⟩, ⟨_, _, _, ZbH YfQ⟩, ⟨_, _, _, ZbH Yee⟩, ⟨_, _, _, ZbH Yfu⟩, ⟨_, _, _, ZbH Yfs⟩, ⟨_, _, _, ZbH Yfb⟩, ⟨_, _, _, ZbH YfC⟩, ⟨_, _, _, ZbH YeU⟩, ⟨_, _, _, ZbH YeZ⟩, ⟨_, _, _, ZbH YfI⟩, ⟨_, _, _, ZbH YfT⟩, ⟨_, _, _, ZbH YfF⟩, ⟨_, _, _, ZbH YfO⟩, ⟨_, _, _, ZbH YfE⟩, ⟨_, _, _, ZbH Yep⟩, ⟨_, _, _, ZbH YfU⟩, ⟨_, _, _, ZbH YfM⟩, ⟨_, _, _, ZbH Yfc⟩, ⟨_, _, _, ZbH YeE⟩, ⟨_, _, _, ZbH YeY⟩, ⟨_, _, _, ZbH Yfl⟩, ⟨_, _, _, ZbH Yfw⟩, ⟨_, _, _, ZbH YfV⟩, ⟨_, _, _, ZbH YeO⟩, ⟨_, _, _, ZbH YeS⟩, ⟨_, _, _, ZbH YeG⟩, ⟨_, _, _, ZbH YfW⟩, ⟨_, _, _, ZbH Yez⟩, ⟨_, _, _, ZbH YfL⟩, ⟨_, _, _, ZbH Yfa⟩, ⟨_, _, _, ZbH Yeo⟩, ⟨_, _, _, ZbH Yfo⟩, ⟨_, _, _, ZbH YeW⟩, ⟨_, _, _, ZbH YeF⟩, ⟨_, _, _, ZbH Yfe⟩, ⟨_, _, _, ZbH Yfp⟩, ⟨_, _, _, ZbH Ye8⟩, ⟨_, _, _, ZbH YeT⟩, ⟨_, _, _, hv1⟩, ⟨_, _, _, hv2⟩, ⟨_, _, _, hv3⟩, ⟨_, _, _, hv4⟩, ⟨_, _, _, hv5⟩, ⟨_, _, _, hv6⟩, ⟨_, _, _, hv7⟩, ⟨_, _, _, hv8⟩, ⟨_, _, _, ZxJ⟩, ⟨_, _, _, Zxj⟩]
end Go.Tev.S1
namespace Go.Abs
open Go.Proofs Go.Tev.S1
def e6 : List (Nat × SV) := [(0, .val (.d (.bool false))), (1, .val (.d ZqR)), (2, .val (.d (.bool true))), (3, .val (.d (.bool true))), (4, .val (.d Ycr)), (5, .val (.d (.int .i64 5)))]
noncomputable abbrev KE : Zaa := Yd6 NE
set_option maxRecDepth 100000 in
theorem seg1 : Zlo C KE fa5 80 6 B5 ⟨Zgo 0 [], [], []⟩ = some (⟨e6, [], []⟩, C10) := by kernel_rfl
theorem okc6 : ZnP fa5 6 B5 = true := by kernel_rfl
end Go.Abs
namespace Go.Abs
open Go.Proofs Go.Tev.S1
def Zz2 (C : Ctx) (call : Zaa) (fa : FA) (n : Nat) : List Nat → Code → St → Option (St × Code)
  | [], c, st => some (st, c)
  | 0 :: l, .seq a b, st => match evQ C call fa n a st with
    | some (.norm s) => Zz2 C call fa n l b s
    | _ => none
  | (t + 1) :: l, .seq (.region _ ops draw) b, st => match Zc8 C call (Zvn fa t) draw ops.toList st with
    | some s => match Zab s.tmp t with
      | some (.a v) => bif (Zab st.env t).isNone && ((Zab s.env t).isNone && has fa.keep t) then Zz2 C call fa n l b { s with env := Zdk s.env t (.val v), tmp := [] } else none
      | _ => none
    | none => none
  | _, _, _ => none
def YcP (fa : FA) : List Nat → Code → Bool
  | [], _ => true
  | 0 :: l, .seq a b => okC fa a && YcP fa l b
  | _ :: l, .seq _ b => YcP fa l b
  | _, _ => false
section
variable {C : Ctx} {call : Zaa} {fa : FA} {own own' : Own} {st st' : St} {a : Act} {w w' : World} {Q : Out → Prop}
theorem ZwJ (hn : Zbj C.P) (hm : C.P.follows .mixedOrders = true) (hK : Zba C.P call) {n : Nat} : ∀ (l : List Nat) (c : Code) (st : St) (st' : St) (c' : Code), YcP fa l c = true → Zz2 C call fa n l c st = some (st', c') → Tri C fa c' st' Q → Tri C fa c st Q
  | [], c, st, st', c', _, he, h => by simp only [Zz2, Option.some.injEq, Prod.mk.injEq] at he; rw [he.1, he.2]; exact h
  | 0 :: l, .seq x y, st, st', c', hok, he, h => by
    simp only [YcP, Bool.and_eq_true] at hok
    simp only [Zz2] at he
    split at he
    · rename_i s hs
      exact Zcr (Q1 := fun o => o = .norm s) (Zcj hn hm hK hok.1 hs rfl) (fun s' h1 => by cases h1; exact ZwJ hn hm hK l y s st' c' hok.2 he h) (fun o h1 h2 => absurd h1 (h2 _))
    · cases he
  | (k + 1) :: l, .seq (.region i ops draw) y, st, st', c', hok, he, h => by
    simp only [YcP] at hok
    simp only [Zz2] at he
    split at he
    · rename_i s hs
      split at he
      · rename_i v hv
        cases hb : ((Zab st.env k).isNone && ((Zab s.env k).isNone && has fa.keep k)) with
        | false => rw [hb] at he; cases he
        | true =>
          rw [hb, cond_true] at he
          simp only [Bool.and_eq_true, Option.isNone_iff_eq_none] at hb
          exact Zcr (Q1 := fun o => o = .norm { s with env := Zdk s.env k (.val v), tmp := [] }) (Zov hn hm hK hs hv hb.1 hb.2.1 hb.2.2 rfl) (fun s' h1 => by cases h1; exact ZwJ hn hm hK l y _ st' c' hok he h) (fun o h1 h2 => absurd h1 (h2 _))
      · cases he
    · cases he
  | (k + 1) :: l, .seq .skip y, _, _, _, hok, he, _ | (k + 1) :: l, .seq (.label _) y, _, _, _, hok, he, _ | (k + 1) :: l, .seq (.seq ..) y, _, _, _, hok, he, _ | (k + 1) :: l, .seq (.cond ..) y, _, _, _, hok, he, _ | (k + 1) :: l, .seq (.block ..) y, _, _, _, hok, he, _
  | (k + 1) :: l, .seq (.loop ..) y, _, _, _, hok, he, _ | (k + 1) :: l, .seq (.exit ..) y, _, _, _, hok, he, _ | (k + 1) :: l, .seq .ret y, _, _, _, hok, he, _ | (k + 1) :: l, .seq (.goto ..) y, _, _, _, hok, he, _ | (k + 1) :: l, .seq (.scope ..) y, _, _, _, hok, he, _
  | (k + 1) :: l, .seq (.rangeFunc ..) y, _, _, _, hok, he, _ => by simp only [Zz2] at he; cases he
  | n :: l, .skip, _, _, _, hok, he, _ | n :: l, .label _, _, _, _, hok, he, _ | n :: l, .region .., _, _, _, hok, he, _ | n :: l, .cond .., _, _, _, hok, he, _ | n :: l, .block .., _, _, _, hok, he, _ | n :: l, .loop .., _, _, _, hok, he, _
  | n :: l, .exit .., _, _, _, hok, he, _ | n :: l, .ret, _, _, _, hok, he, _ | n :: l, .goto .., _, _, _, hok, he, _ | n :: l, .scope .., _, _, _, hok, he, _ | n :: l, .rangeFunc .., _, _, _, hok, he, _ => by cases n <;> cases hok
end
def isT (C : Ctx) (rs : List ResultVar) : Option (St × Code) → Bool
  | some (st, .ret) => match Zbp C st rs with
    | some [.d (.bool b)] => b
    | _ => false
  | _ => false
def Yfr : List Nat := [0, 0, 0, 0, 15, 0, 0, 21, 23, 0, 0, 0, 0, 0, 0, 0, 0, 0]
set_option maxRecDepth 100000 in
theorem seg2 : isT C Tryz.f5.results.toList (Zz2 C KE fa5 80 Yfr C15 ⟨eB Ycr Zn9, [], []⟩) = true := by kernel_rfl
end Go.Abs
namespace Go.Abs
open Go.Proofs Go.Tev.S1
theorem Ybr : Zba C.P KE := ZwH NE
theorem ok15 : YcP fa5 Yfr C15 = true := by kernel_rfl
theorem sub6 : Sub ⟨eN Ycr, [], []⟩ ⟨e6, [], []⟩ := by
  refine ⟨fun k v h => ?_, rfl, rfl⟩
  rcases k with _ | _ | _ | _ | _ | _ | k
  · exact h
  · cases h
  · exact h
  · exact h
  · exact h
  · cases h
  · cases h
def Tr : Out → Prop := Yek C Tryz.f5 fun r _ => r = .d (.bool true)
theorem Zzp {rs : List ResultVar} {o : Option (St × Code)} (h : isT C rs o = true) : ∃ st, o = some (st, .ret) ∧ Zbp C st rs = some [.d (.bool true)] := by
  unfold isT at h
  split at h
  · split at h
    · rename_i hr
      subst h
      exact ⟨_, rfl, hr⟩
    · cases h
  · cases h
theorem Ye6 : Tri C fa5 C15 ⟨eB Ycr Zn9, [], []⟩ Tr := by
  obtain ⟨st, h1, h2⟩ := Zzp seg2
  refine ZwJ noCount mixed Ybr Yfr C15 _ st .ret ok15 h1 fun own a w S => ?_
  exact wp_ret ⟨.ret st, ⟨_, h2, rfl⟩, rfl, own, S, .refl w own, (Grow.refl w).extA own _⟩
theorem Yeu : Tri C fa5 C10 ⟨eN Ycr, [], []⟩ Tr := by
  intro own a w S
  rw [YcT]
  refine wp_seq (YfS Ycr S (.refl w own) ((Grow.refl w).extA own _) fun p own1 a1 w1 J1 => ?_)
  refine wp_seq (Yc4 Ybr Ycr J1 fun own2 a2 w2 J2 => ?_)
  obtain ⟨own3, S3, F3, E3⟩ := Yfi J2 (fun h => absurd (congrArg List.length h) (by rw [List.length_replicate]; decide))
  refine wp_mono (Ye6 own3 a2 w2 S3) ?_
  rintro e a' w' ⟨o, ho, he, own4, S4, F4, E4⟩
  exact ⟨o, ho, he, own4, S4, F3.trans F4, E3.trans E4⟩
theorem tri5 : Tri C fa5 B5 ⟨Zgo 0 [], [], []⟩ Tr := Zo2 noCount mixed Ybr 6 B5 _ _ _ okc6 seg1 (Zk4 sub6 Yeu)
theorem fn5 : C.P.funcs[5]? = some Tryz.f5 := by kernel_rfl
theorem bd5 : Tryz.f5.body = some B5 := by kernel_rfl
theorem kb5 : (Nat.beq Tryz.f5.ntmps (C.ann 5).nt && Nat.ble ([] : List AV).length Tryz.f5.ntmps && Zer (C.ann 5).keep ([] : List AV).length) = true := by kernel_rfl
theorem ZwY : Has Tryz.prog 5 [] [] (.d (.bool true)) [] :=
  HasN.frozen (ds := []) (ZdW (C := C) (f := 5) (args := []) (h := []) (R := fun r _ => r = .d (.bool true)) fn5 bd5 kb5 tri5) fun r h' hr => ⟨0, by rw [hr]; rfl⟩
theorem ZlF {W : World} : Calls Tryz.prog 5 #[] W fun e W' => e = .returned (.bool true) ∧ Stays W W' :=
  Zu2 (ds := []) ZwY rfl fun i v d hv hd => by simp at hv
end Go.Abs
