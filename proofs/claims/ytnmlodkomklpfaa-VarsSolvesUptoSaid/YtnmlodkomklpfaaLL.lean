/- A certified evaluator for the walked functions, and their contracts, for the laws of the variables. -/
import Derived.Test.YtnmlodkomklpfaaLG
import Derived.Test.YtnmlodkomklpfaaLH
import Derived.Test.YtnmlodkomklpfaaLK
import Derived.Test.YtnmlodkomklpfaaLJ
set_option linter.unusedVariables false
set_option linter.unusedSimpArgs false
namespace Go.Tev.S1
open Go.Abs Go.Proofs
abbrev T5a : Type := (List Val) → Option (List Val)
abbrev T5b : Type := (List Val) × (List Val) → Option Bool
abbrev T5c : Type := (List Cus) → Option Bool
abbrev T5d : Type := (List Cus) → Option (List Cus)
abbrev T5e : Type := (List Cus) → Option ((List Cus) × Int)
abbrev T5f : Type := (List Cus) × (List Cus) → Option Bool
abbrev T5g : Type := (List Cus) → Option Int
abbrev T5h : Type := (List Val) → Option Int
abbrev T5i : Type := (List Cus) → Option (List (List Bool))
abbrev T5j : Type := (List Val) × (List Cus) → Option ((List Val) × Int)
abbrev T5k : Type := (List Cus) × Cus → Option (List Cus)
abbrev P5a (K : Zaa) (t : T5a) : Prop := Zag U (Zac C K) 13 ⟨true, [.ty 33], [33], t⟩
abbrev P5b (K : Zaa) (t : T5b) : Prop := Zag U (Zac C K) 21 ⟨true, [.ty 33, .ty 33], [4], t⟩
abbrev P5c (K : Zaa) (t : T5c) : Prop := Zag U (Zac C K) 5 ⟨true, [.ty 22], [4], t⟩
abbrev P5d (K : Zaa) (t : T5d) : Prop := Zag U (Zac C K) 6 ⟨true, [.ty 22], [22], t⟩
abbrev P5e (K : Zaa) (t : T5e) : Prop := Zag U (Zac C K) 7 ⟨true, [.ty 22], [22, 25], t⟩
abbrev P5f (K : Zaa) (t : T5e) : Prop := Zag U (Zac C K) 8 ⟨true, [.ty 22], [22, 3], t⟩
abbrev P5g (K : Zaa) (t : T5f) : Prop := Zag U (Zac C K) 9 ⟨true, [.ty 22, .ty 22], [4], t⟩
abbrev P5h (K : Zaa) (t : T5g) : Prop := Zag U (Zac C K) 10 ⟨true, [.ty 22], [25], t⟩
abbrev P5i (K : Zaa) (t : T5g) : Prop := Zag U (Zac C K) 11 ⟨true, [.ty 22], [3], t⟩
abbrev P5j (K : Zaa) (t : T5c) : Prop := Zag U (Zac C K) 23 ⟨true, [.ty 22], [4], t⟩
abbrev P5k (K : Zaa) (t : T5d) : Prop := Zag U (Zac C K) 25 ⟨true, [.ty 22], [22], t⟩
abbrev P5l (K : Zaa) (t : T5h) : Prop := Zag U (Zac C K) 24 ⟨true, [.ty 33], [25], t⟩
abbrev P5m (K : Zaa) (t : T5c) : Prop := Zag U (Zac C K) 26 ⟨true, [.ty 22], [4], t⟩
abbrev P5n (K : Zaa) (t : T5d) : Prop := Zag U (Zac C K) 28 ⟨true, [.ty 22], [22], t⟩
abbrev P5o (K : Zaa) (t : T5h) : Prop := Zag U (Zac C K) 27 ⟨true, [.ty 33], [3], t⟩
abbrev P5p (K : Zaa) (t : T5i) : Prop := Zag U (Zac C K) 48 ⟨true, [.ty 22], [81], t⟩
abbrev P5q (K : Zaa) (t : T5j) : Prop := Zag U (Zac C K) 41 ⟨true, [.ty 33, .ty 22], [33, 3], t⟩
abbrev P5r (K : Zaa) (t : T5h) : Prop := Zag U (Zac C K) 32 ⟨true, [.ty 33], [3], t⟩
abbrev P5s (K : Zaa) (t : T5k) : Prop := Zag U (Zac C K) 49 ⟨true, [.ty 22, .ty 53], [22], t⟩
def ZfE (qa : T5a) {R : Type} (n : Nat) (a0 : List Cus) (a2 : List Cus) (kx0 : List Cus → Option R) (y3 : List Cus) (y4 : Int) (k : List Cus → Int → Option R) : Option R :=
  cond (decide (y4 < (a0.length : Int)))
  (Option.bind (Zbt a0 y4) fun x2 =>
  Option.bind (Zbt a0 y4) fun x3 =>
  Option.bind (qa x3.val) fun r4 =>
  Option.bind (Option.bind (room 40 (y3.length + [(Cus.mk x2.name r4)].length)) (fun _ => some (y3 ++ [(Cus.mk x2.name r4)]))) fun o5 =>
  k o5 (IntKind.i64.wrap (y4 + (1 : Int))))
  (kx0 y3)
def ZiW (qa : T5a) (n : Nat) (p0 : List Cus) : Option (List Cus) :=
  ZcS (ZfE qa n p0 [] (fun z1 =>
  some z1)) n [] (0 : Int)
abbrev ZtP (qa : T5a) : List (Nat × TCall X) := [(13, ⟨true, [.ty 33], [33], qa⟩)]
noncomputable abbrev ZcK (qa : T5a) : Cx := ⟨C, U, ZtP qa, [], fun _ => []⟩
theorem Zrr : okF (C.ann 6) Try.f6 1 = true := by kernel_rfl
abbrev ref30_Twin_L0_D : LD := ⟨0, [.val 0 22, .val 2 22], [.own 3 53, .val 4 2], [(0, [.own 3 53])], []⟩
abbrev ZeK (qa : T5a) (n : Nat) : LG U (PX X [22]) ref30_Twin_L0_D := fun c kx kr y k => ZfE qa n c.1 c.2.1 (fun z0 => kx 0 (z0, ())) y.1 y.2.1 (fun z0 z1 => k (z0, z1, ()))
noncomputable abbrev Zet (qa : T5a) (n : Nat) : ZdW (ZcK qa) (PX X [22]) := [(0, Zca U ref30_Twin_L0_D (ZeK qa n) n)]
theorem Zo2 (qa : T5a) (n : Nat) : ∀ c kx kr y k1, evL (ZcK qa) (ann 6) (Zet qa n) 0 (Zaf (Zab Try.f6) 0) (ZbY U ref30_Twin_L0_D kx kr k1) (encS U ref30_Twin_L0_D.cap ref30_Twin_L0_D.din c y) = ZeK qa n c (fun i z => kx i c z) kr y (fun y2 => k1 c y2) := by
  intro c kx kr y k1
  kernel_rfl
theorem Zvn (qa : T5a) (n : Nat) : ∀ a, fnL (ZcK qa) true 6 Try.f6 [.ty 22] [22] (Zet qa n) a = ZiW qa n a := by
  intro a
  kernel_rfl
theorem Zkz {K : Zaa} (qa : T5a) (h0 : P5a K qa) : CallsOk (ZcK qa) (Zac C K) :=
  ⟨(Zad h0 Zap), Zao⟩
theorem Zmb {K : Zaa} (qa : T5a) (h0 : P5a K qa) (n : Nat) (b0 : Base) (bn0 : b0.nr ≤ 0) : Law (ZcK qa) b0 (Zac C K) (ann 6) n (Zaf (Zab Try.f6) 0) (Zca U ref30_Twin_L0_D (ZeK qa n) n) :=
  Za6 (x := ZcK qa) (id := 0) ok (Zkz qa h0) (sums := Zet qa n) (Zaj (show Zam 0 (Zaf (Zab Try.f6) 0) = [] by kernel_rfl)) ref30_Twin_L0_D bn0 (ZeK qa n) (Zo2 qa n)
theorem ZnK {K : Zaa} (hK : ∀ args h, K 6 args h = none) (qa : T5a) (h0 : P5a K qa) (t : PX X (AK.tys [.ty 22]) → Option (PX X [22])) (h : ∀ a r, t a = some r → ∃ n, ZiW qa n a = some r) : Zag U (Zac C K) 6 ⟨true, [.ty 22], [22], t⟩ := by
  refine Zan (x := ZcK qa) (ak := [.ty 22]) (rts := [22]) (dir := true) ok (Zkz qa h0) hK Try.func6 Zrr fun a r hr => ?_
  obtain ⟨n, hn⟩ := h a r hr
  exact ⟨n, Zet qa n, (ZaB (ids := [0]) (by kernel_rfl) (by decide) (fun i hi => by
    simp only [List.mem_cons, List.not_mem_nil, or_false] at hi
    rcases hi with rfl
    · exact Zay (c2 := Zaf (Zab Try.f6) 0) (by kernel_rfl) (by kernel_rfl) (Zmb qa h0 _ _ (Nat.le_refl _))
    )), (Zvn qa n a).trans hn⟩
def ZfD (qb : T5b) {R : Type} (n : Nat) (a0 : List Cus) (a1 : List Cus) (kx0 : Bool → Option R) (kr : Bool → Option R) (y4 : Bool) (y5 : Int) (k : Bool → Int → Option R) : Option R :=
  cond (decide (y5 < (a0.length : Int)))
  (Option.bind (Zbt a0 y5) fun x3 =>
  Option.bind (Zbt a1 y5) fun x4 =>
  Option.bind (cond (!(x3.name != x4.name)) (Zbt a0 y5) (some YcQ)) fun x5 =>
  Option.bind (cond (!(x3.name != x4.name)) (Zbt a1 y5) (some YcQ)) fun x6 =>
  Option.bind (cond (!(x3.name != x4.name)) (qb (x5.val, x6.val)) (some false)) fun r7 =>
  Option.bind (some (cond (x3.name != x4.name) true (!r7))) fun m8 =>
  cond m8
  (kr false)
  (k y4 (IntKind.i64.wrap (y5 + (1 : Int)))))
  (kx0 y4)
def ZgT (qb : T5b) (n : Nat) (p0 : List Cus) (p1 : List Cus) : Option Bool :=
  cond ((p0.length : Int) != (p1.length : Int))
  (some false)
  (ZcS (ZfD qb n p0 p1 (fun z1 =>
  some true) (fun z2 =>
  some z2)) n false (0 : Int))
abbrev ZuH (qb : T5b) : List (Nat × TCall X) := [(21, ⟨true, [.ty 33, .ty 33], [4], qb⟩)]
noncomputable abbrev ZcN (qb : T5b) : Cx := ⟨C, U, ZuH qb, [], fun _ => []⟩
theorem Zrp : okF (C.ann 9) Try.f9 2 = true := by kernel_rfl
abbrev ref30_Same_L0_D : LD := ⟨0, [.val 0 22, .val 1 22], [.val 4 4, .val 5 2], [(0, [.val 4 4])], [.val 4 4]⟩
abbrev Zek (qb : T5b) (n : Nat) : LG U (PX X [4]) ref30_Same_L0_D := fun c kx kr y k => ZfD qb n c.1 c.2.1 (fun z0 => kx 0 (z0, ())) (fun z0 => kr (z0, ())) y.1 y.2.1 (fun z0 z1 => k (z0, z1, ()))
noncomputable abbrev ZeN (qb : T5b) (n : Nat) : ZdW (ZcN qb) (PX X [4]) := [(0, Zca U ref30_Same_L0_D (Zek qb n) n)]
theorem Zod (qb : T5b) (n : Nat) : ∀ c kx kr y k1, evL (ZcN qb) (ann 9) (ZeN qb n) 0 (Zaf (Zab Try.f9) 0) (ZbY U ref30_Same_L0_D kx kr k1) (encS U ref30_Same_L0_D.cap ref30_Same_L0_D.din c y) = Zek qb n c (fun i z => kx i c z) kr y (fun y2 => k1 c y2) := by
  intro c kx kr y k1
  kernel_rfl
theorem Zuh (qb : T5b) (n : Nat) : ∀ a, fnL (ZcN qb) true 9 Try.f9 [.ty 22, .ty 22] [4] (ZeN qb n) a = ZgT qb n a.1 a.2 := by
  intro a
  kernel_rfl
theorem ZkM {K : Zaa} (qb : T5b) (h0 : P5b K qb) : CallsOk (ZcN qb) (Zac C K) :=
  ⟨(Zad h0 Zap), Zao⟩
theorem Zl2 {K : Zaa} (qb : T5b) (h0 : P5b K qb) (n : Nat) (b0 : Base) (bn0 : b0.nr ≤ 0) : Law (ZcN qb) b0 (Zac C K) (ann 9) n (Zaf (Zab Try.f9) 0) (Zca U ref30_Same_L0_D (Zek qb n) n) :=
  Za6 (x := ZcN qb) (id := 0) ok (ZkM qb h0) (sums := ZeN qb n) (Zaj (show Zam 0 (Zaf (Zab Try.f9) 0) = [] by kernel_rfl)) ref30_Same_L0_D bn0 (Zek qb n) (Zod qb n)
theorem Znd {K : Zaa} (hK : ∀ args h, K 9 args h = none) (qb : T5b) (h0 : P5b K qb) (t : PX X (AK.tys [.ty 22, .ty 22]) → Option (PX X [4])) (h : ∀ a r, t a = some r → ∃ n, ZgT qb n a.1 a.2 = some r) : Zag U (Zac C K) 9 ⟨true, [.ty 22, .ty 22], [4], t⟩ := by
  refine Zan (x := ZcN qb) (ak := [.ty 22, .ty 22]) (rts := [4]) (dir := true) ok (ZkM qb h0) hK Try.func9 Zrp fun a r hr => ?_
  obtain ⟨n, hn⟩ := h a r hr
  exact ⟨n, ZeN qb n, (ZaB (ids := [0]) (by kernel_rfl) (by decide) (fun i hi => by
    simp only [List.mem_cons, List.not_mem_nil, or_false] at hi
    rcases hi with rfl
    · exact Zay (c2 := Zaf (Zab Try.f9) 0) (by kernel_rfl) (by kernel_rfl) (Zl2 qb h0 _ _ (Nat.le_refl _))
    )), (Zuh qb n a).trans hn⟩
def ZdT (qc : T5c) (qd : T5d) (qe : T5e) (qf : T5e) (qg : T5f) (qh : T5g) (qi : T5g) (n : Nat) (p0 : List Cus) : Option Bool :=
  Option.bind (qc p0) fun r1 =>
  cond r1
  (some true)
  (Option.bind (qd p0) fun r2 =>
  Option.bind (qe p0) fun r3 =>
  Option.bind (qf r2) fun r4 =>
  Option.bind (qg (r3.1, r4.1)) fun r5 =>
  Option.bind (some (cond r5 (r3.2 == r4.2) false)) fun m6 =>
  Option.bind (cond m6 (qh p0) (some (0 : Int))) fun r7 =>
  Option.bind (cond m6 (qi r2) (some (0 : Int))) fun r8 =>
  Option.bind (some (cond m6 (r7 == r8) false)) fun m9 =>
  Option.bind (cond m9 (qg (p0, r2)) (some false)) fun r10 =>
  Option.bind (some (cond m9 r10 false)) fun m11 =>
  some m11)
abbrev ZkF (qc : T5c) (qd : T5d) (qe : T5e) (qf : T5e) (qg : T5f) (qh : T5g) (qi : T5g) : List (Nat × TCall X) := [(5, ⟨true, [.ty 22], [4], qc⟩), (6, ⟨true, [.ty 22], [22], qd⟩), (7, ⟨true, [.ty 22], [22, 25], qe⟩), (8, ⟨true, [.ty 22], [22, 3], qf⟩), (9, ⟨true, [.ty 22, .ty 22], [4], qg⟩), (10, ⟨true, [.ty 22], [25], qh⟩), (11, ⟨true, [.ty 22], [3], qi⟩)]
noncomputable abbrev ZcE (qc : T5c) (qd : T5d) (qe : T5e) (qf : T5e) (qg : T5f) (qh : T5g) (qi : T5g) : Cx := ⟨C, U, ZkF qc qd qe qf qg qh qi, [], fun _ => []⟩
theorem Zka : okF (C.ann 3) Try.f3 1 = true := by kernel_rfl
noncomputable abbrev Zfp (qc : T5c) (qd : T5d) (qe : T5e) (qf : T5e) (qg : T5f) (qh : T5g) (qi : T5g) (n : Nat) : ZdW (ZcE qc qd qe qf qg qh qi) (PX X [4]) := []
theorem Zlu (qc : T5c) (qd : T5d) (qe : T5e) (qf : T5e) (qg : T5f) (qh : T5g) (qi : T5g) (n : Nat) : ∀ a, fnL (ZcE qc qd qe qf qg qh qi) true 3 Try.f3 [.ty 22] [4] (Zfp qc qd qe qf qg qh qi n) a = ZdT qc qd qe qf qg qh qi n a := by
  intro a
  kernel_rfl
theorem ZjT {K : Zaa} (qc : T5c) (qd : T5d) (qe : T5e) (qf : T5e) (qg : T5f) (qh : T5g) (qi : T5g) (h0 : P5c K qc) (h1 : P5d K qd) (h2 : P5e K qe) (h3 : P5f K qf) (h4 : P5g K qg) (h5 : P5h K qh) (h6 : P5i K qi) : CallsOk (ZcE qc qd qe qf qg qh qi) (Zac C K) :=
  ⟨(Zad h0 (Zad h1 (Zad h2 (Zad h3 (Zad h4 (Zad h5 (Zad h6 Zap))))))), Zao⟩
theorem Zh5 {K : Zaa} (hK : ∀ args h, K 3 args h = none) (qc : T5c) (qd : T5d) (qe : T5e) (qf : T5e) (qg : T5f) (qh : T5g) (qi : T5g) (h0 : P5c K qc) (h1 : P5d K qd) (h2 : P5e K qe) (h3 : P5f K qf) (h4 : P5g K qg) (h5 : P5h K qh) (h6 : P5i K qi) (t : PX X (AK.tys [.ty 22]) → Option (PX X [4])) (h : ∀ a r, t a = some r → ∃ n, ZdT qc qd qe qf qg qh qi n a = some r) : Zag U (Zac C K) 3 ⟨true, [.ty 22], [4], t⟩ := by
  refine Zan (x := ZcE qc qd qe qf qg qh qi) (ak := [.ty 22]) (rts := [4]) (dir := true) ok (ZjT qc qd qe qf qg qh qi h0 h1 h2 h3 h4 h5 h6) hK Try.func3 Zka fun a r hr => ?_
  obtain ⟨n, hn⟩ := h a r hr
  exact ⟨n, Zfp qc qd qe qf qg qh qi n, (Zaj (show Zam 0 (Zab Try.f3) = [] by kernel_rfl)), (Zlu qc qd qe qf qg qh qi n a).trans hn⟩
def ZfN (qj : T5c) (qk : T5d) (ql : T5h) {R : Type} (n : Nat) (a0 : List Cus) (a13 : List Cus) (a14 : Int) (kx0 : List Cus → Int → Option R) (kr : List Cus → Int → Option R) (y2 : List Cus) (y3 : Int) (y15 : Int) (k : List Cus → Int → Int → Option R) : Option R :=
  cond (decide (y15 < a14))
  (Option.bind (Zbt a13 y15) fun x7 =>
  Option.bind (ql x7.val) fun r8 =>
  cond (r8 != (0 : Int))
  (kr [] r8)
  (k y2 y3 (IntKind.i64.wrap (y15 + (1 : Int)))))
  (kx0 y2 y3)
def Zi1 (qj : T5c) (qk : T5d) (ql : T5h) (n : Nat) (p0 : List Cus) : Option ((List Cus) × Int) :=
  cond (decide ((p0.length : Int) > (64 : Int)))
  (some ([], (4 : Int)))
  (Option.bind (qj p0) fun r1 =>
  cond (!r1)
  (some ([], (8 : Int)))
  (Zha (ZfN qj qk ql n p0 p0 (p0.length : Int) (fun z2 z3 =>
  Option.bind (qk p0) fun r4 =>
  some (r4, (0 : Int))) (fun z5 z6 =>
  some (z5, z6))) n [] (0 : Int) (0 : Int)))
abbrev ZvC (qj : T5c) (qk : T5d) (ql : T5h) : List (Nat × TCall X) := [(23, ⟨true, [.ty 22], [4], qj⟩), (25, ⟨true, [.ty 22], [22], qk⟩), (24, ⟨true, [.ty 33], [25], ql⟩)]
noncomputable abbrev Zc4 (qj : T5c) (qk : T5d) (ql : T5h) : Cx := ⟨C, U, ZvC qj qk ql, [], fun _ => []⟩
theorem ZrA : okF (C.ann 7) Try.f7 1 = true := by kernel_rfl
abbrev vars_Solve_L0_D : LD := ⟨0, [.val 0 22, .val 13 22, .val 14 2], [.val 2 22, .val 3 2, .val 15 2], [(0, [.val 2 22, .val 3 2])], [.val 2 22, .val 3 25]⟩
abbrev Zeh (qj : T5c) (qk : T5d) (ql : T5h) (n : Nat) : LG U (PX X [22, 25]) vars_Solve_L0_D := fun c kx kr y k => ZfN qj qk ql n c.1 c.2.1 c.2.2.1 (fun z0 z1 => kx 0 (z0, z1, ())) (fun z0 z1 => kr (z0, z1, ())) y.1 y.2.1 y.2.2.1 (fun z0 z1 z2 => k (z0, z1, z2, ()))
noncomputable abbrev ZeE (qj : T5c) (qk : T5d) (ql : T5h) (n : Nat) : ZdW (Zc4 qj qk ql) (PX X [22, 25]) := [(0, Zca U vars_Solve_L0_D (Zeh qj qk ql n) n)]
theorem ZoJ (qj : T5c) (qk : T5d) (ql : T5h) (n : Nat) : ∀ c kx kr y k1, evL (Zc4 qj qk ql) (ann 7) (ZeE qj qk ql n) 0 (Zaf (Zab Try.f7) 0) (ZbY U vars_Solve_L0_D kx kr k1) (encS U vars_Solve_L0_D.cap vars_Solve_L0_D.din c y) = Zeh qj qk ql n c (fun i z => kx i c z) kr y (fun y2 => k1 c y2) := by
  intro c kx kr y k1
  kernel_rfl
theorem Zu2 (qj : T5c) (qk : T5d) (ql : T5h) (n : Nat) : ∀ a, fnL (Zc4 qj qk ql) true 7 Try.f7 [.ty 22] [22, 25] (ZeE qj qk ql n) a = Zi1 qj qk ql n a := by
  intro a
  kernel_rfl
theorem Zlb {K : Zaa} (qj : T5c) (qk : T5d) (ql : T5h) (h0 : P5j K qj) (h1 : P5k K qk) (h2 : P5l K ql) : CallsOk (Zc4 qj qk ql) (Zac C K) :=
  ⟨(Zad h0 (Zad h1 (Zad h2 Zap))), Zao⟩
theorem Zl7 {K : Zaa} (qj : T5c) (qk : T5d) (ql : T5h) (h0 : P5j K qj) (h1 : P5k K qk) (h2 : P5l K ql) (n : Nat) (b0 : Base) (bn0 : b0.nr ≤ 0) : Law (Zc4 qj qk ql) b0 (Zac C K) (ann 7) n (Zaf (Zab Try.f7) 0) (Zca U vars_Solve_L0_D (Zeh qj qk ql n) n) :=
  Za6 (x := Zc4 qj qk ql) (id := 0) ok (Zlb qj qk ql h0 h1 h2) (sums := ZeE qj qk ql n) (Zaj (show Zam 0 (Zaf (Zab Try.f7) 0) = [] by kernel_rfl)) vars_Solve_L0_D bn0 (Zeh qj qk ql n) (ZoJ qj qk ql n)
theorem Znv {K : Zaa} (hK : ∀ args h, K 7 args h = none) (qj : T5c) (qk : T5d) (ql : T5h) (h0 : P5j K qj) (h1 : P5k K qk) (h2 : P5l K ql) (t : PX X (AK.tys [.ty 22]) → Option (PX X [22, 25])) (h : ∀ a r, t a = some r → ∃ n, Zi1 qj qk ql n a = some r) : Zag U (Zac C K) 7 ⟨true, [.ty 22], [22, 25], t⟩ := by
  refine Zan (x := Zc4 qj qk ql) (ak := [.ty 22]) (rts := [22, 25]) (dir := true) ok (Zlb qj qk ql h0 h1 h2) hK Try.func7 ZrA fun a r hr => ?_
  obtain ⟨n, hn⟩ := h a r hr
  exact ⟨n, ZeE qj qk ql n, (ZaB (ids := [0]) (by kernel_rfl) (by decide) (fun i hi => by
    simp only [List.mem_cons, List.not_mem_nil, or_false] at hi
    rcases hi with rfl
    · exact Zay (c2 := Zaf (Zab Try.f7) 0) (by kernel_rfl) (by kernel_rfl) (Zl7 qj qk ql h0 h1 h2 _ _ (Nat.le_refl _))
    )), (Zu2 qj qk ql n a).trans hn⟩
def Ze8 (qm : T5c) (qn : T5d) (qo : T5h) {R : Type} (n : Nat) (a0 : List Cus) (kx0 : List Cus → Int → Option R) (kr : List Cus → Int → Option R) (y2 : List Cus) (y3 : Int) (y4 : Int) (k : List Cus → Int → Int → Option R) : Option R :=
  cond (decide (y4 < (a0.length : Int)))
  (Option.bind (Zbt a0 y4) fun x7 =>
  Option.bind (qo x7.val) fun r8 =>
  cond (r8 != (0 : Int))
  (kr [] r8)
  (k y2 y3 (IntKind.i64.wrap (y4 + (1 : Int)))))
  (kx0 y2 y3)
def Zhl (qm : T5c) (qn : T5d) (qo : T5h) (n : Nat) (p0 : List Cus) : Option ((List Cus) × Int) :=
  cond (decide ((p0.length : Int) > (64 : Int)))
  (some ([], (4 : Int)))
  (Option.bind (qm p0) fun r1 =>
  cond (!r1)
  (some ([], (8 : Int)))
  (Zha (Ze8 qm qn qo n p0 (fun z2 z3 =>
  Option.bind (qn p0) fun r4 =>
  some (r4, (0 : Int))) (fun z5 z6 =>
  some (z5, z6))) n [] (0 : Int) (0 : Int)))
abbrev Zr4 (qm : T5c) (qn : T5d) (qo : T5h) : List (Nat × TCall X) := [(26, ⟨true, [.ty 22], [4], qm⟩), (28, ⟨true, [.ty 22], [22], qn⟩), (27, ⟨true, [.ty 33], [3], qo⟩)]
noncomputable abbrev Zcu (qm : T5c) (qn : T5d) (qo : T5h) : Cx := ⟨C, U, Zr4 qm qn qo, [], fun _ => []⟩
theorem Zqt : okF (C.ann 8) Try.f8 1 = true := by kernel_rfl
abbrev ref30_Solve_L0_D : LD := ⟨0, [.val 0 22], [.val 2 22, .val 3 2, .val 4 2], [(0, [.val 2 22, .val 3 2])], [.val 2 22, .val 3 3]⟩
abbrev ZdR (qm : T5c) (qn : T5d) (qo : T5h) (n : Nat) : LG U (PX X [22, 3]) ref30_Solve_L0_D := fun c kx kr y k => Ze8 qm qn qo n c.1 (fun z0 z1 => kx 0 (z0, z1, ())) (fun z0 z1 => kr (z0, z1, ())) y.1 y.2.1 y.2.2.1 (fun z0 z1 z2 => k (z0, z1, z2, ()))
noncomputable abbrev ZdX (qm : T5c) (qn : T5d) (qo : T5h) (n : Nat) : ZdW (Zcu qm qn qo) (PX X [22, 3]) := [(0, Zca U ref30_Solve_L0_D (ZdR qm qn qo n) n)]
theorem Zm6 (qm : T5c) (qn : T5d) (qo : T5h) (n : Nat) : ∀ c kx kr y k1, evL (Zcu qm qn qo) (ann 8) (ZdX qm qn qo n) 0 (Zaf (Zab Try.f8) 0) (ZbY U ref30_Solve_L0_D kx kr k1) (encS U ref30_Solve_L0_D.cap ref30_Solve_L0_D.din c y) = ZdR qm qn qo n c (fun i z => kx i c z) kr y (fun y2 => k1 c y2) := by
  intro c kx kr y k1
  kernel_rfl
theorem Zst (qm : T5c) (qn : T5d) (qo : T5h) (n : Nat) : ∀ a, fnL (Zcu qm qn qo) true 8 Try.f8 [.ty 22] [22, 3] (ZdX qm qn qo n) a = Zhl qm qn qo n a := by
  intro a
  kernel_rfl
theorem Zjv {K : Zaa} (qm : T5c) (qn : T5d) (qo : T5h) (h0 : P5m K qm) (h1 : P5n K qn) (h2 : P5o K qo) : CallsOk (Zcu qm qn qo) (Zac C K) :=
  ⟨(Zad h0 (Zad h1 (Zad h2 Zap))), Zao⟩
theorem ZkB {K : Zaa} (qm : T5c) (qn : T5d) (qo : T5h) (h0 : P5m K qm) (h1 : P5n K qn) (h2 : P5o K qo) (n : Nat) (b0 : Base) (bn0 : b0.nr ≤ 0) : Law (Zcu qm qn qo) b0 (Zac C K) (ann 8) n (Zaf (Zab Try.f8) 0) (Zca U ref30_Solve_L0_D (ZdR qm qn qo n) n) :=
  Za6 (x := Zcu qm qn qo) (id := 0) ok (Zjv qm qn qo h0 h1 h2) (sums := ZdX qm qn qo n) (Zaj (show Zam 0 (Zaf (Zab Try.f8) 0) = [] by kernel_rfl)) ref30_Solve_L0_D bn0 (ZdR qm qn qo n) (Zm6 qm qn qo n)
theorem ZmA {K : Zaa} (hK : ∀ args h, K 8 args h = none) (qm : T5c) (qn : T5d) (qo : T5h) (h0 : P5m K qm) (h1 : P5n K qn) (h2 : P5o K qo) (t : PX X (AK.tys [.ty 22]) → Option (PX X [22, 3])) (h : ∀ a r, t a = some r → ∃ n, Zhl qm qn qo n a = some r) : Zag U (Zac C K) 8 ⟨true, [.ty 22], [22, 3], t⟩ := by
  refine Zan (x := Zcu qm qn qo) (ak := [.ty 22]) (rts := [22, 3]) (dir := true) ok (Zjv qm qn qo h0 h1 h2) hK Try.func8 Zqt fun a r hr => ?_
  obtain ⟨n, hn⟩ := h a r hr
  exact ⟨n, ZdX qm qn qo n, (ZaB (ids := [0]) (by kernel_rfl) (by decide) (fun i hi => by
    simp only [List.mem_cons, List.not_mem_nil, or_false] at hi
    rcases hi with rfl
    · exact Zay (c2 := Zaf (Zab Try.f8) 0) (by kernel_rfl) (by kernel_rfl) (ZkB qm qn qo h0 h1 h2 _ _ (Nat.le_refl _))
    )), (Zst qm qn qo n a).trans hn⟩
def Zd9 {R : Type} (n : Nat) (a0 : List Cus) (a4 : List Cus) (kx0 : ((List UInt8) × (List Val)) → List Cus → Option R) (y3 : (List UInt8) × (List Val)) (y5 : List Cus) (y6 : Int) (k : ((List UInt8) × (List Val)) → List Cus → Int → Option R) : Option R :=
  cond (decide (y6 < (a0.length : Int)))
  (Option.bind (cond ((y5.length : Int) == y6) (Zbt a0 y6) (some YcQ)) fun x7 =>
  Option.bind (some (cond ((y5.length : Int) == y6) (!(Op.bytesLess x7.name y3.1 || x7.name == y3.1)) false)) fun m8 =>
  Option.bind (cond m8 (Option.bind (room 40 (y5.length + [(Cus.mk y3.1 y3.2)].length)) (fun _ => some (y5 ++ [(Cus.mk y3.1 y3.2)]))) (some y5)) fun o9 =>
  Option.bind (some (cond m8 y3.1 y3.1)) fun m10 =>
  Option.bind (some (cond m8 y3.2 y3.2)) fun m11 =>
  Option.bind (some (cond m8 o9 y5)) fun m12 =>
  Option.bind (Zbt a0 y6) fun x13 =>
  Option.bind (Option.bind (room 40 (m12.length + [x13].length)) (fun _ => some (m12 ++ [x13]))) fun o14 =>
  k (m10, m11) o14 (IntKind.i64.wrap (y6 + (1 : Int))))
  (kx0 (y3.1, y3.2) y5)
def Zgz (n : Nat) (p0 : List Cus) (p1 : Cus) : Option (List Cus) :=
  Zha (Zd9 n p0 [] (fun z1 z2 =>
  Option.bind (cond ((z2.length : Int) == (p0.length : Int)) (Option.bind (room 40 (z2.length + [(Cus.mk z1.1 z1.2)].length)) (fun _ => some (z2 ++ [(Cus.mk z1.1 z1.2)]))) (some z2)) fun o3 =>
  Option.bind (some (cond ((z2.length : Int) == (p0.length : Int)) z1.1 z1.1)) fun m4 =>
  Option.bind (some (cond ((z2.length : Int) == (p0.length : Int)) z1.2 z1.2)) fun m5 =>
  Option.bind (some (cond ((z2.length : Int) == (p0.length : Int)) o3 z2)) fun m6 =>
  some m6)) n (p1.name, p1.val) [] (0 : Int)
abbrev ZpP : List (Nat × TCall X) := []
noncomputable abbrev ZbZ : Cx := ⟨C, U, ZpP , [], fun _ => []⟩
theorem Zo7 : okF (C.ann 49) Try.f49 2 = true := by kernel_rfl
abbrev ref30_insert_L0_D : LD := ⟨0, [.val 0 22, .val 4 22], [.box 3 [9, 33], .own 5 53, .val 6 2], [(0, [.box 3 [9, 33], .own 5 53])], []⟩
abbrev Zdl (n : Nat) : LG U (PX X [22]) ref30_insert_L0_D := fun c kx kr y k => Zd9 n c.1 c.2.1 (fun z0 z1 => kx 0 (z0, z1, ())) y.1 y.2.1 y.2.2.1 (fun z0 z1 z2 => k (z0, z1, z2, ()))
noncomputable abbrev Zdc (n : Nat) : ZdW (ZbZ ) (PX X [22]) := [(0, Zca U ref30_insert_L0_D (Zdl n) n)]
theorem Zmj (n : Nat) : ∀ c kx kr y k1, evL (ZbZ ) (ann 49) (Zdc n) 0 (Zaf (Zab Try.f49) 0) (ZbY U ref30_insert_L0_D kx kr k1) (encS U ref30_insert_L0_D.cap ref30_insert_L0_D.din c y) = Zdl n c (fun i z => kx i c z) kr y (fun y2 => k1 c y2) := by
  intro c kx kr y k1
  kernel_rfl
theorem ZpW (n : Nat) : ∀ a, fnL (ZbZ ) true 49 Try.f49 [.ty 22, .ty 53] [22] (Zdc n) a = Zgz n a.1 a.2 := by
  intro a
  kernel_rfl
theorem Ziv {K : Zaa} : CallsOk (ZbZ ) (Zac C K) :=
  ⟨Zap, Zao⟩
theorem Zkc {K : Zaa} (n : Nat) (b0 : Base) (bn0 : b0.nr ≤ 0) : Law (ZbZ ) b0 (Zac C K) (ann 49) n (Zaf (Zab Try.f49) 0) (Zca U ref30_insert_L0_D (Zdl n) n) :=
  Za6 (x := ZbZ ) (id := 0) ok (Ziv ) (sums := Zdc n) (Zaj (show Zam 0 (Zaf (Zab Try.f49) 0) = [] by kernel_rfl)) ref30_insert_L0_D bn0 (Zdl n) (Zmj n)
theorem Zly {K : Zaa} (hK : ∀ args h, K 49 args h = none) (t : PX X (AK.tys [.ty 22, .ty 53]) → Option (PX X [22])) (h : ∀ a r, t a = some r → ∃ n, Zgz n a.1 a.2 = some r) : Zag U (Zac C K) 49 ⟨true, [.ty 22, .ty 53], [22], t⟩ := by
  refine Zan (x := ZbZ ) (ak := [.ty 22, .ty 53]) (rts := [22]) (dir := true) ok (Ziv ) hK Try.func49 Zo7 fun a r hr => ?_
  obtain ⟨n, hn⟩ := h a r hr
  exact ⟨n, Zdc n, (ZaB (ids := [0]) (by kernel_rfl) (by decide) (fun i hi => by
    simp only [List.mem_cons, List.not_mem_nil, or_false] at hi
    rcases hi with rfl
    · exact Zay (c2 := Zaf (Zab Try.f49) 0) (by kernel_rfl) (by kernel_rfl) (Zkc _ _ (Nat.le_refl _))
    )), (ZpW n a).trans hn⟩
def Zcd (qp : T5i) (qq : T5j) (qr : T5h) (qs : T5k) {R : Type} (n : Nat) (a0 : List Cus) (a2 : List Cus) (a3 : List (List Bool)) (a4 : Int) (a5 : Nat) (a6 : List Cus) (kx0 : List Bool → Option R) (y7 : Int) (h1 : List Bool) (k : Int → List Bool → Option R) : Option R :=
  cond (decide (y7 < a4))
  (Option.bind (Zbt a3 y7) fun x30 =>
  Option.bind (Zbt x30 y7) fun x31 =>
  Option.bind (if 0 ≤ y7 ∧ y7 < a5 ∧ y7 < h1.length then some y7.toNat else none) fun i32 =>
  Option.bind (if i32 < h1.length then some (h1.set i32 x31) else none) fun a33 =>
  k (IntKind.i64.wrap (y7 + (1 : Int))) a33)
  (kx0 h1)
def Zcc (qp : T5i) (qq : T5j) (qr : T5h) (qs : T5k) {R : Type} (n : Nat) (a0 : List Cus) (a2 : List Cus) (a3 : List (List Bool)) (a4 : Int) (a5 : Nat) (a35 : Bool) (a6 : List Cus) (a8 : Bool) (a9 : Int) (a38 : Bool) (kx6 : Bool → Int → List Bool → Option R) (y10 : Bool) (y11 : Int) (h2 : List Bool) (k : Bool → Int → List Bool → Option R) : Option R :=
  Option.bind (some (cond (decide (y11 < a4)) y10 false)) fun m24 =>
  cond m24
  (Option.bind (Zbt a3 a9) fun x25 =>
  Option.bind (Zbt x25 y11) fun x26 =>
  Option.bind (cond (!(!x26)) (if 0 ≤ y11 ∧ y11 < a5 ∧ y11 < h2.length then some y11.toNat else none) (some 0)) fun i27 =>
  Option.bind (cond (!(!x26)) (h2[i27]?) (some false)) fun e28 =>
  Option.bind (some (cond (!x26) true e28)) fun m29 =>
  k m29 (IntKind.i64.wrap (y11 + (1 : Int))) h2)
  (kx6 y10 y11 h2)
def Zc3 (qp : T5i) (qq : T5j) (qr : T5h) (qs : T5k) {R : Type} (n : Nat) (a0 : List Cus) (a2 : List Cus) (a3 : List (List Bool)) (a4 : Int) (a5 : Nat) (a35 : Bool) (kx4 : List Cus → Bool → Int → List Bool → Option R) (y6 : List Cus) (y8 : Bool) (y9 : Int) (h3 : List Bool) (k : List Cus → Bool → Int → List Bool → Option R) : Option R :=
  cond (decide (y9 < a4))
  (Option.bind (if 0 ≤ y9 ∧ y9 < a5 ∧ y9 < h3.length then some y9.toNat else none) fun i10 =>
  Option.bind (h3[i10]?) fun e11 =>
  Zha (Zcc qp qq qr qs n a0 a2 a3 a4 a5 a35 y6 y8 y9 (decide (y9 < a4)) (fun z12 z13 z14 =>
  cond (!z12)
  (k y6 y8 (IntKind.i64.wrap (y9 + (1 : Int))) z14)
  (Option.bind (if 0 ≤ y9 ∧ y9 < a5 ∧ y9 < z14.length then some y9.toNat else none) fun i15 =>
  Option.bind (if i15 < z14.length then some (z14.set i15 true) else none) fun a16 =>
  Option.bind (Zbt a0 y9) fun x17 =>
  Option.bind (qq (x17.val, y6)) fun r18 =>
  Option.bind (cond (r18.2 == (0 : Int)) (qr r18.1) (some (0 : Int))) fun r19 =>
  Option.bind (some (cond (r18.2 == (0 : Int)) (decide (r19 ≤ (2000 : Int))) false)) fun m20 =>
  Option.bind (cond m20 (Zbt a0 y9) (some YcQ)) fun x21 =>
  Option.bind (cond m20 (qs (y6, (Cus.mk x21.name r18.1))) (some [])) fun r22 =>
  Option.bind (some (cond m20 r22 y6)) fun m23 =>
  k m23 true (IntKind.i64.wrap (y9 + (1 : Int))) a16))) n (!e11) (0 : Int) h3)
  (kx4 y6 y8 y9 h3)
def ZaR (qp : T5i) (qq : T5j) (qr : T5h) (qs : T5k) {R : Type} (n : Nat) (a0 : List Cus) (a2 : List Cus) (a3 : List (List Bool)) (a4 : Int) (a5 : Nat) (kx2 : List Cus → List Bool → Option R) (y6 : List Cus) (y8 : Bool) (h2 : List Bool) (k : List Cus → Bool → List Bool → Option R) : Option R :=
  cond y8
  (Zuu (Zc3 qp qq qr qs n a0 a2 a3 a4 a5 y8 (fun z6 z7 z8 z9 =>
  k z6 z7 z9)) n y6 false (0 : Int) h2)
  (kx2 y6 h2)
def Zgo (qp : T5i) (qq : T5j) (qr : T5h) (qs : T5k) (n : Nat) (p0 : List Cus) : Option (List Cus) :=
  Option.bind (qp p0) fun r1 =>
  Option.bind (if 0 ≤ (p0.length : Int) ∧ (p0.length : Int) = (p0.length : Int) then Option.bind (room 1 (p0.length : Int).toNat) (fun _ => some (List.replicate (p0.length : Int).toNat false)) else none) fun a2 =>
  ZcS (Zcd qp qq qr qs n p0 [] r1 (p0.length : Int) a2.length [] (fun z3 =>
  Zha (ZaR qp qq qr qs n p0 [] r1 (p0.length : Int) a2.length (fun z4 z5 =>
  some z4)) n [] true z3)) n (0 : Int) a2
abbrev Zqi (qp : T5i) (qq : T5j) (qr : T5h) (qs : T5k) : List (Nat × TCall X) := [(48, ⟨true, [.ty 22], [81], qp⟩), (41, ⟨true, [.ty 33, .ty 22], [33, 3], qq⟩), (32, ⟨true, [.ty 33], [3], qr⟩), (49, ⟨true, [.ty 22, .ty 53], [22], qs⟩)]
noncomputable abbrev ZaE (qp : T5i) (qq : T5j) (qr : T5h) (qs : T5k) : Cx := ⟨C, U, Zqi qp qq qr qs, [], fun _ => []⟩
theorem ZoD : okF (C.ann 28) Try.f28 1 = true := by kernel_rfl
abbrev ref30_Solved_L0_D : LD := ⟨0, [.val 0 22, .val 2 22, .val 3 81, .val 4 2, .osl 5 0 4, .val 6 22], [.val 7 2, .harr true 4], [(0, [.harr true 4])], []⟩
abbrev Zc7 (qp : T5i) (qq : T5j) (qr : T5h) (qs : T5k) (n : Nat) : LG U (PX X [22]) ref30_Solved_L0_D := fun c kx kr y k => Zcd qp qq qr qs n c.1 c.2.1 c.2.2.1 c.2.2.2.1 c.2.2.2.2.1 c.2.2.2.2.2.1 (fun z0 => kx 0 (z0, ())) y.1 y.2.1 (fun z0 z1 => k (z0, z1, ()))
abbrev ref30_Solved_L6_D : LD := ⟨0, [.val 0 22, .val 2 22, .val 3 81, .val 4 2, .osl 5 0 4, .val 35 4, .val 6 22, .val 8 4, .val 9 2, .val 38 4], [.val 10 4, .val 11 2, .harr true 4], [(6, [.val 10 4, .val 11 2, .harr true 4])], []⟩
abbrev Zdo (qp : T5i) (qq : T5j) (qr : T5h) (qs : T5k) (n : Nat) : LG U (PX X [22]) ref30_Solved_L6_D := fun c kx kr y k => Zcc qp qq qr qs n c.1 c.2.1 c.2.2.1 c.2.2.2.1 c.2.2.2.2.1 c.2.2.2.2.2.1 c.2.2.2.2.2.2.1 c.2.2.2.2.2.2.2.1 c.2.2.2.2.2.2.2.2.1 c.2.2.2.2.2.2.2.2.2.1 (fun z0 z1 z2 => kx 6 (z0, z1, z2, ())) y.1 y.2.1 y.2.2.1 (fun z0 z1 z2 => k (z0, z1, z2, ()))
abbrev ref30_Solved_L4_D : LD := ⟨0, [.val 0 22, .val 2 22, .val 3 81, .val 4 2, .osl 5 0 4, .val 35 4], [.val 6 22, .val 8 4, .val 9 2, .harr true 4], [(4, [.val 6 22, .val 8 4, .val 9 2, .harr true 4])], []⟩
abbrev Zdj (qp : T5i) (qq : T5j) (qr : T5h) (qs : T5k) (n : Nat) : LG U (PX X [22]) ref30_Solved_L4_D := fun c kx kr y k => Zc3 qp qq qr qs n c.1 c.2.1 c.2.2.1 c.2.2.2.1 c.2.2.2.2.1 c.2.2.2.2.2.1 (fun z0 z1 z2 z3 => kx 4 (z0, z1, z2, z3, ())) y.1 y.2.1 y.2.2.1 y.2.2.2.1 (fun z0 z1 z2 z3 => k (z0, z1, z2, z3, ()))
abbrev ref30_Solved_L2_D : LD := ⟨0, [.val 0 22, .val 2 22, .val 3 81, .val 4 2, .osl 5 0 4], [.val 6 22, .val 8 4, .harr true 4], [(2, [.val 6 22, .harr true 4])], []⟩
abbrev Zdm (qp : T5i) (qq : T5j) (qr : T5h) (qs : T5k) (n : Nat) : LG U (PX X [22]) ref30_Solved_L2_D := fun c kx kr y k => ZaR qp qq qr qs n c.1 c.2.1 c.2.2.1 c.2.2.2.1 c.2.2.2.2.1 (fun z0 z1 => kx 2 (z0, z1, ())) y.1 y.2.1 y.2.2.1 (fun z0 z1 z2 => k (z0, z1, z2, ()))
noncomputable abbrev ZaM (qp : T5i) (qq : T5j) (qr : T5h) (qs : T5k) (n : Nat) : ZdW (ZaE qp qq qr qs) (PX X [22]) := [(0, Zca U ref30_Solved_L0_D (Zc7 qp qq qr qs n) n), (6, Zca U ref30_Solved_L6_D (Zdo qp qq qr qs n) n), (4, Zca U ref30_Solved_L4_D (Zdj qp qq qr qs n) n), (2, Zca U ref30_Solved_L2_D (Zdm qp qq qr qs n) n)]
theorem Zmz (qp : T5i) (qq : T5j) (qr : T5h) (qs : T5k) (n : Nat) : ∀ c kx kr y k1, evL (ZaE qp qq qr qs) (ann 28) (ZaM qp qq qr qs n) 0 (Zaf (Zab Try.f28) 0) (ZbY U ref30_Solved_L0_D kx kr k1) (encS U ref30_Solved_L0_D.cap ref30_Solved_L0_D.din c y) = Zc7 qp qq qr qs n c (fun i z => kx i c z) kr y (fun y2 => k1 c y2) := by
  intro c kx kr y k1
  kernel_rfl
theorem Zl3 (qp : T5i) (qq : T5j) (qr : T5h) (qs : T5k) (n : Nat) : ∀ c kx kr y k1, evL (ZaE qp qq qr qs) (ann 28) (ZaM qp qq qr qs n) 6 (Zaf (Zab Try.f28) 6) (ZbY U ref30_Solved_L6_D kx kr k1) (encS U ref30_Solved_L6_D.cap ref30_Solved_L6_D.din c y) = Zdo qp qq qr qs n c (fun i z => kx i c z) kr y (fun y2 => k1 c y2) := by
  intro c kx kr y k1
  kernel_rfl
theorem ZlM (qp : T5i) (qq : T5j) (qr : T5h) (qs : T5k) (n : Nat) : ∀ c kx kr y k1, evL (ZaE qp qq qr qs) (ann 28) (ZaM qp qq qr qs n) 4 (Zaf (Zab Try.f28) 4) (ZbY U ref30_Solved_L4_D kx kr k1) (encS U ref30_Solved_L4_D.cap ref30_Solved_L4_D.din c y) = Zdj qp qq qr qs n c (fun i z => kx i c z) kr y (fun y2 => k1 c y2) := by
  intro c kx kr y k1
  kernel_rfl
theorem ZmD (qp : T5i) (qq : T5j) (qr : T5h) (qs : T5k) (n : Nat) : ∀ c kx kr y k1, evL (ZaE qp qq qr qs) (ann 28) (ZaM qp qq qr qs n) 2 (Zaf (Zab Try.f28) 2) (ZbY U ref30_Solved_L2_D kx kr k1) (encS U ref30_Solved_L2_D.cap ref30_Solved_L2_D.din c y) = Zdm qp qq qr qs n c (fun i z => kx i c z) kr y (fun y2 => k1 c y2) := by
  intro c kx kr y k1
  kernel_rfl
theorem Zp0 (qp : T5i) (qq : T5j) (qr : T5h) (qs : T5k) (n : Nat) : ∀ a, fnL (ZaE qp qq qr qs) true 28 Try.f28 [.ty 22] [22] (ZaM qp qq qr qs n) a = Zgo qp qq qr qs n a := by
  intro a
  kernel_rfl
theorem ZcP {K : Zaa} (qp : T5i) (qq : T5j) (qr : T5h) (qs : T5k) (h0 : P5p K qp) (h1 : P5q K qq) (h2 : P5r K qr) (h3 : P5s K qs) : CallsOk (ZaE qp qq qr qs) (Zac C K) :=
  ⟨(Zad h0 (Zad h1 (Zad h2 (Zad h3 Zap)))), Zao⟩
theorem Zj9 {K : Zaa} (qp : T5i) (qq : T5j) (qr : T5h) (qs : T5k) (h0 : P5p K qp) (h1 : P5q K qq) (h2 : P5r K qr) (h3 : P5s K qs) (n : Nat) (b0 : Base) (bn0 : b0.nr ≤ 0) : Law (ZaE qp qq qr qs) b0 (Zac C K) (ann 28) n (Zaf (Zab Try.f28) 0) (Zca U ref30_Solved_L0_D (Zc7 qp qq qr qs n) n) :=
  Za6 (x := ZaE qp qq qr qs) (id := 0) ok (ZcP qp qq qr qs h0 h1 h2 h3) (sums := ZaM qp qq qr qs n) (Zaj (show Zam 0 (Zaf (Zab Try.f28) 0) = [] by kernel_rfl)) ref30_Solved_L0_D bn0 (Zc7 qp qq qr qs n) (Zmz qp qq qr qs n)
theorem Zd3 {K : Zaa} (qp : T5i) (qq : T5j) (qr : T5h) (qs : T5k) (h0 : P5p K qp) (h1 : P5q K qq) (h2 : P5r K qr) (h3 : P5s K qs) (n : Nat) (b0 : Base) (bn0 : b0.nr ≤ 0) : Law (ZaE qp qq qr qs) b0 (Zac C K) (ann 28) n (Zaf (Zab Try.f28) 6) (Zca U ref30_Solved_L6_D (Zdo qp qq qr qs n) n) :=
  Za6 (x := ZaE qp qq qr qs) (id := 6) ok (ZcP qp qq qr qs h0 h1 h2 h3) (sums := ZaM qp qq qr qs n) (Zaj (show Zam 6 (Zaf (Zab Try.f28) 6) = [] by kernel_rfl)) ref30_Solved_L6_D bn0 (Zdo qp qq qr qs n) (Zl3 qp qq qr qs n)
theorem Zgc {K : Zaa} (qp : T5i) (qq : T5j) (qr : T5h) (qs : T5k) (h0 : P5p K qp) (h1 : P5q K qq) (h2 : P5r K qr) (h3 : P5s K qs) (n : Nat) (b0 : Base) (bn0 : b0.nr ≤ 0) : Law (ZaE qp qq qr qs) b0 (Zac C K) (ann 28) n (Zaf (Zab Try.f28) 4) (Zca U ref30_Solved_L4_D (Zdj qp qq qr qs n) n) :=
  Za6 (x := ZaE qp qq qr qs) (id := 4) ok (ZcP qp qq qr qs h0 h1 h2 h3) (sums := ZaM qp qq qr qs n) (ZaB (ids := [6]) (by kernel_rfl) (by decide) (fun i hi => by
    simp only [List.mem_cons, List.not_mem_nil, or_false] at hi
    rcases hi with rfl
    · exact Zay (c2 := Zaf (Zab Try.f28) 6) (by kernel_rfl) (by kernel_rfl) (Zd3 qp qq qr qs h0 h1 h2 h3 n b0 bn0)
    )) ref30_Solved_L4_D bn0 (Zdj qp qq qr qs n) (ZlM qp qq qr qs n)
theorem ZjS {K : Zaa} (qp : T5i) (qq : T5j) (qr : T5h) (qs : T5k) (h0 : P5p K qp) (h1 : P5q K qq) (h2 : P5r K qr) (h3 : P5s K qs) (n : Nat) (b0 : Base) (bn0 : b0.nr ≤ 0) : Law (ZaE qp qq qr qs) b0 (Zac C K) (ann 28) n (Zaf (Zab Try.f28) 2) (Zca U ref30_Solved_L2_D (Zdm qp qq qr qs n) n) :=
  Za6 (x := ZaE qp qq qr qs) (id := 2) ok (ZcP qp qq qr qs h0 h1 h2 h3) (sums := ZaM qp qq qr qs n) (ZaB (ids := [4, 6]) (by kernel_rfl) (by decide) (fun i hi => by
    simp only [List.mem_cons, List.not_mem_nil, or_false] at hi
    rcases hi with rfl | rfl
    · exact Zay (c2 := Zaf (Zab Try.f28) 4) (by kernel_rfl) (by kernel_rfl) (Zgc qp qq qr qs h0 h1 h2 h3 n b0 bn0)
    · exact Zay (c2 := Zaf (Zab Try.f28) 6) (by kernel_rfl) (by kernel_rfl) (Zd3 qp qq qr qs h0 h1 h2 h3 n b0 bn0)
    )) ref30_Solved_L2_D bn0 (Zdm qp qq qr qs n) (ZmD qp qq qr qs n)
theorem Zkm {K : Zaa} (hK : ∀ args h, K 28 args h = none) (qp : T5i) (qq : T5j) (qr : T5h) (qs : T5k) (h0 : P5p K qp) (h1 : P5q K qq) (h2 : P5r K qr) (h3 : P5s K qs) (t : PX X (AK.tys [.ty 22]) → Option (PX X [22])) (h : ∀ a r, t a = some r → ∃ n, Zgo qp qq qr qs n a = some r) : Zag U (Zac C K) 28 ⟨true, [.ty 22], [22], t⟩ := by
  refine Zan (x := ZaE qp qq qr qs) (ak := [.ty 22]) (rts := [22]) (dir := true) ok (ZcP qp qq qr qs h0 h1 h2 h3) hK Try.func28 ZoD fun a r hr => ?_
  obtain ⟨n, hn⟩ := h a r hr
  exact ⟨n, ZaM qp qq qr qs n, (ZaB (ids := [0, 2, 4, 6]) (by kernel_rfl) (by decide) (fun i hi => by
    simp only [List.mem_cons, List.not_mem_nil, or_false] at hi
    rcases hi with rfl | rfl | rfl | rfl
    · exact Zay (c2 := Zaf (Zab Try.f28) 0) (by kernel_rfl) (by kernel_rfl) (Zj9 qp qq qr qs h0 h1 h2 h3 _ _ (Nat.le_refl _))
    · exact Zay (c2 := Zaf (Zab Try.f28) 2) (by kernel_rfl) (by kernel_rfl) (ZjS qp qq qr qs h0 h1 h2 h3 _ _ (Nat.le_refl _))
    · exact Zay (c2 := Zaf (Zab Try.f28) 4) (by kernel_rfl) (by kernel_rfl) (Zgc qp qq qr qs h0 h1 h2 h3 _ _ (Nat.le_refl _))
    · exact Zay (c2 := Zaf (Zab Try.f28) 6) (by kernel_rfl) (by kernel_rfl) (Zd3 qp qq qr qs h0 h1 h2 h3 _ _ (Nat.le_refl _))
    )), (Zp0 qp qq qr qs n a).trans hn⟩
end Go.Tev.S1
namespace Go.Tev.S1
open Go.Abs Go.Proofs
def gtC (x v : Cus) : Bool := !(Op.bytesLess v.name x.name || v.name == x.name)
def ZvM (x : Cus) : List Cus → List Cus
  | [] => [x]
  | v :: r => bif gtC x v then x :: v :: r else v :: ZvM x r
def ZvK (x : Cus) (b : List Cus × Bool) (v : Cus) : List Cus × Bool := bif !b.2 && gtC x v then (b.1 ++ [x] ++ [v], true) else (b.1 ++ [v], b.2)
theorem Zt1 (x : Cus) : ∀ (l acc : List Cus), l.foldl (ZvK x) (acc, true) = (acc ++ l, true)
  | [], acc => by simp
  | v :: r, acc => by
    rw [List.foldl_cons]
    have : ZvK x (acc, true) v = (acc ++ [v], true) := rfl
    rw [this, Zt1 x r]
    simp
theorem ZqL (x : Cus) : ∀ (l acc : List Cus), (bif !(l.foldl (ZvK x) (acc, false)).2 then (l.foldl (ZvK x) (acc, false)).1 ++ [x] else (l.foldl (ZvK x) (acc, false)).1) = acc ++ ZvM x l
  | [], acc => rfl
  | v :: r, acc => by
    rw [List.foldl_cons, ZvM]
    cases h : gtC x v with
    | true =>
      have : ZvK x (acc, false) v = (acc ++ [x] ++ [v], true) := by simp [ZvK, h]
      rw [this, Zt1]
      simp
    | false =>
      have : ZvK x (acc, false) v = (acc ++ [v], false) := by simp [ZvK, h]
      rw [this, ZqL x r]
      simp
theorem ZwQ (l : List Cus) (x : Cus) (hl : l.length ≤ 2 ^ 30) : Zgz (l.length + 1) l x = some (ZvM x l) := by
  unfold Zgz
  refine (Zf1 l (fun (_ : List Cus × Bool) => (x.name, x.val)) (fun b => b.1) (fun b v => .inl (ZvK x b v)) (fun b => some (bif !b.2 then b.1 ++ [x] else b.1)) (fun i b => b.1.length = i + (bif b.2 then 1 else 0)) ?_ ?_ ?_ ([], false) rfl _ (Nat.lt_succ_self _)).trans ?_
  · intro i b v k hv hlt hb
    have hi : IntKind.i64.wrap ((i : Int) + 1) = ((i + 1 : Nat) : Int) := Zaz (by omega)
    have hbl : b.1.length ≤ i + 1 := by rw [hb]; cases b.2 <;> simp
    have r1 : room 40 (b.1.length + [v].length) = some () := Zej (by simp; omega) (by decide)
    have r2 : room 40 (b.1.length + [x].length) = some () := Zej (by simp; omega) (by decide)
    have r3 : room 40 ((b.1 ++ [x]).length + [v].length) = some () := Zej (by simp; omega) (by decide)
    have ex : Cus.mk x.name x.val = x := rfl
    simp only [Zd9, ZaA hv, Option.bind_some, dlt hlt, cond_true, hi, ex]
    cases h2 : b.2 with
    | true =>
      rw [h2] at hb
      have e1 : ((b.1.length : Int) == (i : Int)) = false := by rw [beq_eq_false_iff_ne, hb]; simp only [cond_true]; omega
      simp only [e1, cond_false, Option.bind_some, r1, ZvK, h2, Bool.not_true, Bool.false_and]
    | false =>
      rw [h2] at hb
      have e1 : ((b.1.length : Int) == (i : Int)) = true := by rw [beq_iff_eq, hb]; simp
      cases h3 : gtC x v with
      | true =>
        have h4 := h3
        unfold gtC at h4
        simp only [e1, cond_true, Option.bind_some, h4, r2, r3, ZvK, h2, h3, Bool.not_false, Bool.true_and]
      | false =>
        have h4 := h3
        unfold gtC at h4
        simp only [e1, cond_true, Option.bind_some, h4, cond_false, r1, ZvK, h2, h3, Bool.not_false, Bool.and_false]
  · intro i b v b' hv hb hs
    cases hs
    cases h2 : b.2 with
    | true => rw [h2] at hb; simp only [ZvK, h2, Bool.not_true, Bool.false_and, cond_false, cond_true, List.length_append, List.length_cons, List.length_nil] at hb ⊢; omega
    | false =>
      rw [h2] at hb
      cases h3 : gtC x v <;> simp only [ZvK, h2, h3, Bool.not_false, Bool.true_and, Bool.and_false, cond_false, cond_true, List.length_append, List.length_cons, List.length_nil] at hb ⊢ <;> omega
  · intro b k hb
    simp only [Zd9, ZiB, cond_false]
    have ex : Cus.mk x.name x.val = x := rfl
    have hbl : b.1.length ≤ l.length + 1 := by rw [hb]; cases b.2 <;> simp
    have r2 : room 40 (b.1.length + [x].length) = some () := Zej (by simp; omega) (by decide)
    cases h2 : b.2 with
    | true =>
      rw [h2] at hb
      have e1 : ((b.1.length : Int) == (l.length : Int)) = false := by rw [beq_eq_false_iff_ne, hb]; simp only [cond_true]; omega
      simp only [e1, cond_false, Option.bind_some, Bool.not_true]
    | false =>
      rw [h2] at hb
      have e1 : ((b.1.length : Int) == (l.length : Int)) = true := by rw [beq_iff_eq, hb]; simp
      simp only [e1, cond_true, Option.bind_some, Bool.not_false, ex, r2]
  · rw [Zbj (ZvK x), ZqL x l []]
    rfl
def YcR (a : List Cus × Cus) : Option (List Cus) := if a.1.length ≤ 2 ^ 30 then some (ZvM a.2 a.1) else none
theorem YgM {l : List Cus} {x : Cus} (h : l.length ≤ 2 ^ 30) : YcR (l, x) = some (ZvM x l) := if_pos h
theorem YdT {K : Zaa} (hK : Zcf K) : Zag U (Zac C K) 49 ⟨true, [.ty 22, .ty 53], [22], YcR⟩ :=
  Zly (kf hK 49 (by decide)) _ fun a r h => by
    unfold YcR at h
    split at h
    · rename_i h3; cases h; exact ⟨_, ZwQ a.1 a.2 h3⟩
    · cases h
theorem insL_mem {x y : Cus} : ∀ {l : List Cus}, y ∈ ZvM x l ↔ y = x ∨ y ∈ l
  | [] => by simp [ZvM]
  | v :: r => by
    rw [ZvM]
    cases gtC x v with
    | true => simp
    | false =>
      simp only [cond_false, List.mem_cons, insL_mem (l := r)]
      constructor
      · rintro (h | h | h)
        · exact .inr (.inl h)
        · exact .inl h
        · exact .inr (.inr h)
      · rintro (h | h | h)
        · exact .inr (.inl h)
        · exact .inl h
        · exact .inr (.inr h)
theorem Zxe {x : Cus} : ∀ {l : List Cus}, Srt l → (∀ y ∈ l, y.name ≠ x.name) → Srt (ZvM x l)
  | [], _, _ => List.pairwise_singleton _ _
  | v :: r, h, hne => by
    have h' := List.pairwise_cons.1 h
    rw [ZvM]
    cases hg : gtC x v with
    | true =>
      have hxv : Op.bytesLess x.name v.name = true := by
        unfold gtC at hg
        rw [Zxm] at hg
        exact hg
      refine List.pairwise_cons.2 ⟨fun y hy => ?_, h⟩
      rcases List.mem_cons.1 hy with rfl | hy
      · exact hxv
      · exact Zmo hxv (h'.1 y hy)
    | false =>
      have hvx : Op.bytesLess v.name x.name = true := by
        unfold gtC at hg
        rw [Bool.not_eq_false', Bool.or_eq_true, beq_iff_eq] at hg
        exact hg.resolve_right (hne v List.mem_cons_self)
      refine List.pairwise_cons.2 ⟨fun y hy => ?_, Zxe h'.2 fun y hy => hne y (List.mem_cons_of_mem _ hy)⟩
      rcases insL_mem.1 hy with rfl | hy
      · exact hvx
      · exact h'.1 y hy
theorem Yay {x : Cus} {n : List UInt8} : ∀ {l : List Cus}, (∀ y ∈ l, y.name ≠ x.name) → lkC (ZvM x l) n = if n = x.name then some x.val else lkC l n
  | [], _ => by
    simp only [ZvM, lkC]
    by_cases e : n = x.name
    · subst e; simp
    · have : (x.name == n) = false := by simpa using fun h => e h.symm
      rw [this, if_neg e]; rfl
  | v :: r, hne => by
    have ih := Yay (x := x) (n := n) (l := r) fun y hy => hne y (List.mem_cons_of_mem _ hy)
    rw [ZvM]
    cases gtC x v with
    | true =>
      simp only [cond_true, lkC]
      by_cases e : n = x.name
      · subst e; simp
      · have : (x.name == n) = false := by simpa using fun h => e h.symm
        rw [this, if_neg e]; rfl
    | false =>
      simp only [cond_false, lkC]
      rw [ih]
      by_cases e : n = x.name
      · subst e
        have : (v.name == x.name) = false := by simpa using hne v List.mem_cons_self
        rw [this, if_pos rfl, if_pos rfl, if_neg (by decide)]
      · rw [if_neg e, if_neg e]
theorem Ye0 {raw : List Cus} {u : List UInt8} : ∀ {b : Int} {j : Nat}, Zfx raw u b = b + j → (b : Int) ≥ 0 → ∃ y, raw[j]? = some y ∧ y.name = u := by
  induction raw with
  | nil => intro b j h hb; simp only [Zfx] at h; omega
  | cons x r ih =>
    intro b j h hb
    simp only [Zfx] at h
    cases e : (x.name == u) with
    | true =>
      rw [e, if_pos rfl] at h
      have : j = 0 := by omega
      subst this
      exact ⟨x, rfl, by simpa using e⟩
    | false =>
      rw [e] at h
      simp only [Bool.false_eq_true, if_false] at h
      rcases ZrY r u (b + 1) with h1 | ⟨h1, h2⟩
      · omega
      · have : 1 ≤ j := by omega
        obtain ⟨k, rfl⟩ : ∃ k, j = k + 1 := ⟨j - 1, by omega⟩
        obtain ⟨y, hy, e2⟩ := ih (b := b + 1) (j := k) (by omega) (by omega)
        exact ⟨y, by simpa using hy, e2⟩
theorem ZiN {raw : List Cus} (hn : (raw.map Cus.name).Nodup) {j : Nat} {y : Cus} (hy : raw[j]? = some y) : ∀ b : Int, Zfx raw y.name b = b + j := by
  induction raw generalizing j with
  | nil => simp at hy
  | cons x r ih =>
    intro b
    rw [List.map_cons, List.nodup_cons] at hn
    simp only [Zfx]
    cases j with
    | zero =>
      simp only [List.getElem?_cons_zero, Option.some.injEq] at hy
      subst hy
      simp
    | succ j =>
      have hy : r[j]? = some y := by simpa using hy
      have hne : (x.name == y.name) = false := by
        rw [beq_eq_false_iff_ne]
        intro e
        exact hn.1 (e ▸ List.mem_map.2 ⟨y, List.mem_of_getElem? hy, rfl⟩)
      rw [hne, if_neg (by decide), ih hn.2 hy (b + 1)]
      omega
theorem Zyp {raw : List Cus} (hn : (raw.map Cus.name).Nodup) {i j : Nat} {x y : Cus} (hx : raw[i]? = some x) (hy : raw[j]? = some y) : Adj raw i j ↔ Edge (Zbk raw) x.name y.name := by
  rw [Zrx hn (List.mem_of_getElem? hx)]
  constructor
  · rintro ⟨x', hx', u, hu, hf⟩
    rw [hx] at hx'
    cases hx'
    obtain ⟨z, hz, e⟩ := Ye0 (b := 0) (j := j) (by rw [hf]; simp) (Int.le_refl 0)
    rw [hy] at hz
    cases hz
    subst e
    exact ⟨hu, List.mem_map.2 ⟨y, List.mem_of_getElem? hy, rfl⟩⟩
  · rintro ⟨h1, _⟩
    refine ⟨x, hx, y.name, h1, ?_⟩
    rw [ZiN hn hy 0]
    simp
theorem YfH {raw : List Cus} {i j : Nat} (h : Adj raw i j) : i < raw.length ∧ j < raw.length := by
  obtain ⟨x, hx, u, _, hf⟩ := h
  refine ⟨(List.getElem?_eq_some_iff.1 hx).1, ?_⟩
  rcases ZrY raw u 0 with h | ⟨_, h⟩ <;> omega
theorem YeO {raw : List Cus} (hn : (raw.map Cus.name).Nodup) : ∀ {k i j : Nat} {x y : Cus}, k ≤ raw.length → raw[i]? = some x → raw[j]? = some y → WW (Adj raw) k i j → Path (Zbk raw) x.name y.name := by
  intro k
  induction k with
  | zero => intro i j x y _ hx hy h; exact .one ((Zyp hn hx hy).1 h)
  | succ k ih =>
    intro i j x y hk hx hy h
    rcases h with h | ⟨h1, h2⟩
    · exact ih (by omega) hx hy h
    · have hz := List.getElem?_eq_getElem (show k < raw.length by omega)
      exact (ih (by omega) hx hz h1).trans (ih (by omega) hz hy h2)
theorem Ydr {raw : List Cus} (hn : (raw.map Cus.name).Nodup) {a b : List UInt8} (h : Path (Zbk raw) a b) : ∀ {i : Nat} {x : Cus}, raw[i]? = some x → x.name = a → ∃ j y, raw[j]? = some y ∧ y.name = b ∧ WW (Adj raw) raw.length i j := by
  have edge : ∀ {a b : List UInt8}, Edge (Zbk raw) a b → ∀ {i : Nat} {x : Cus}, raw[i]? = some x → x.name = a → ∃ j y, raw[j]? = some y ∧ y.name = b ∧ Adj raw i j := by
    intro a b he i x hx e
    subst e
    obtain ⟨_, hb⟩ := (Zrx hn (List.mem_of_getElem? hx)).1 he
    obtain ⟨y, hy, rfl⟩ := Zps hb
    obtain ⟨j, hj, rfl⟩ := List.mem_iff_getElem.1 hy
    exact ⟨j, _, List.getElem?_eq_getElem hj, rfl, (Zyp hn hx (List.getElem?_eq_getElem hj)).2 he⟩
  induction h with
  | one he =>
    intro i x hx e
    obtain ⟨j, y, h1, h2, h3⟩ := edge he hx e
    exact ⟨j, y, h1, h2, Zv6 (A := Adj raw) (k := 0) (show WW (Adj raw) 0 _ _ from h3) (Nat.zero_le _)⟩
  | step he t ih =>
    intro i x hx e
    obtain ⟨j, y, h1, h2, h3⟩ := edge he hx e
    obtain ⟨k, z, g1, g2, g3⟩ := ih h1 h2
    exact ⟨k, z, g1, g2, Zxy (YfH h3).2 (Zv6 (A := Adj raw) (k := 0) (show WW (Adj raw) 0 _ _ from h3) (Nat.zero_le _)) g3⟩
theorem Zw3 {raw : List Cus} (hn : (raw.map Cus.name).Nodup) {i j : Nat} {x y : Cus} (hx : raw[i]? = some x) (hy : raw[j]? = some y) : WW (Adj raw) raw.length i j ↔ Path (Zbk raw) x.name y.name := by
  constructor
  · exact YeO hn (Nat.le_refl _) hx hy
  · intro h
    obtain ⟨k, z, h1, h2, h3⟩ := Ydr hn h hx rfl
    have hk := ZiN hn h1 0
    have hj := ZiN hn hy 0
    rw [h2] at hk
    have : k = j := by omega
    subst this
    exact h3
end Go.Tev.S1
namespace Go.Tev.S1
open Go.Abs Go.Proofs
structure Jl (raw : List Cus) (lk : Lk) (O : List UInt8 → Prop) : Prop where
  opn : ∀ a, O a → a ∈ raw.map Cus.name ∧ ¬ ZzQ raw a
  svn : ∀ a, lk a ≠ none → a ∈ raw.map Cus.name ∧ ¬ ZzQ raw a ∧ ¬ O a
  clo : ∀ x ∈ raw, ¬ ZzQ raw x.name → ¬ O x.name → lk x.name = Ybj lk x ∧ ∀ u ∈ ZbS x.val, ¬ O u
theorem Jl.step {raw : List Cus} (hne : [] ∉ raw.map Cus.name) {lk : Lk} {O : List UInt8 → Prop} (J : Jl raw lk O) {x : Cus} (hx : x ∈ raw) (hinj : ∀ y ∈ raw, y.name = x.name → y = x) (h1 : O x.name) (h2 : ∀ u ∈ ZbS x.val, ¬ O u)
    {lk' : Lk} (hlk : ∀ n, lk' n = if n = x.name then Ybj lk x else lk n) : Jl raw lk' (fun a => O a ∧ a ≠ x.name) := by
  have agree : ∀ y : Cus, (∀ u ∈ ZbS y.val, u ≠ x.name) → Agree lk' lk y.val := fun y hy => by
    refine ⟨?_, fun u hu => ?_⟩
    · rw [hlk, if_neg]
      intro e
      exact hne (e ▸ (J.opn _ h1).1)
    · rw [hlk, if_neg (hy u hu)]
  refine ⟨fun a ha => J.opn a ha.1, fun a ha => ?_, fun y hy hc hyo => ?_⟩
  · rw [hlk] at ha
    split at ha
    · rename_i e
      subst e
      exact ⟨(J.opn _ h1).1, (J.opn _ h1).2, fun h => h.2 rfl⟩
    · obtain ⟨g1, g2, g3⟩ := J.svn a ha
      exact ⟨g1, g2, fun h => g3 h.1⟩
  · by_cases e : y.name = x.name
    · have := hinj y hy e
      subst this
      refine ⟨?_, fun u hu hm => h2 u hu hm.1⟩
      rw [hlk, if_pos rfl]
      exact (Zg2 (agree y fun u hu e => h2 u hu (e ▸ h1))).symm
    · obtain ⟨g1, g2⟩ := J.clo y hy hc (fun hm => hyo ⟨hm, e⟩)
      refine ⟨?_, fun u hu hm => g2 u hu hm.1⟩
      rw [hlk, if_neg e, g1]
      exact (Zg2 (agree y fun u hu e => g2 u hu (e ▸ h1))).symm
theorem Jl.done {raw : List Cus} {lk : Lk} {O : List UInt8 → Prop} (J : Jl raw lk O) (h : ∀ a, ¬ O a) : Sol raw lk := by
  refine ⟨fun n hn => ?_, fun n hc => ?_, fun x hx hc => (J.clo x hx hc (h _)).1⟩
  · apply Classical.byContradiction; intro e; exact hn (J.svn n e).1
  · apply Classical.byContradiction; intro e; exact (J.svn n e).2.1 hc
def Oh (raw : List Cus) (h : List Bool) (a : List UInt8) : Prop := ∃ (i : Nat) (x : Cus), raw[i]? = some x ∧ x.name = a ∧ h[i]? = some false
abbrev NN (raw : List Cus) (i j : Nat) : Prop := WW (Adj raw) raw.length i j
def Rdy (raw : List Cus) (h : List Bool) (i : Nat) : Prop := h[i]? = some false ∧ ∀ j, j < raw.length → NN raw i j → h[j]? = some true
structure Jr (raw : List Cus) (sol : List Cus) (h : List Bool) : Prop where
  len : h.length = raw.length
  srt : Srt sol
  okv : ∀ c ∈ sol, Zal c.val ≤ 2000 ∧ Zbg c.val = false
  sub : ∀ c ∈ sol, c.name ∈ raw.map Cus.name
  jl : Jl raw (lkC sol) (Oh raw h)
theorem Zpr {c : List Cus} (h : Srt c) : (c.map Cus.name).Nodup := by
  unfold List.Nodup
  rw [List.pairwise_map]
  exact h.imp fun {a b} hab e => by rw [e, ZhK] at hab; cases hab
theorem Jr.le {raw sol : List Cus} {h : List Bool} (J : Jr raw sol h) : sol.length ≤ raw.length := by
  have := (Zpr J.srt).length_le_of_subset (l₂ := raw.map Cus.name) fun a ha => by
    obtain ⟨c, hc, rfl⟩ := List.mem_map.1 ha
    exact J.sub c hc
  simpa using this
theorem Jr.cuok {raw sol : List Cus} {h : List Bool} (J : Jr raw sol h) (hl : raw.length ≤ B) : ZfI sol := by
  have hV : V = 2 ^ 24 := rfl
  exact ⟨Nat.le_trans J.le hl, fun c hc => Nat.le_trans (J.okv c hc).1 (by rw [hV]; decide)⟩
theorem Jr.lkok {raw sol : List Cus} {h : List Bool} (J : Jr raw sol h) : Yg7 (lkC sol) := by
  have hV : V = 2 ^ 24 := rfl
  intro n x hx
  obtain ⟨p, hp, rfl⟩ := Yar hx
  exact ⟨Nat.le_trans (J.okv p hp).1 (by rw [hV]; decide), (J.okv p hp).2⟩
def Yfc (sol : List Cus) (x : Cus) : List Cus := bif decide ((Ze7 (lkC sol) x.val).2 = 0) && decide ((Zal (Ze7 (lkC sol) x.val).1 : Int) ≤ 2000) then ZvM ⟨x.name, (Ze7 (lkC sol) x.val).1⟩ sol else sol
theorem Zyw {c : Cus} : ∀ {l : List Cus}, c ∈ l → lkC l c.name ≠ none
  | [], h => by cases h
  | y :: l, h => by
    simp only [lkC]
    split
    · simp
    · rename_i e
      rcases List.mem_cons.1 h with rfl | h
      · simp at e
      · exact Zyw h
theorem Zz5 {lk : Lk} (h : Yg7 lk) (l : List Val) : Zbg (Ze7 lk l).1 = false := by
  unfold Ze7
  split
  · rfl
  · split
    · rfl
    · split
      · exact YaR h l
      · rfl
theorem Jr.step {raw : List Cus} (hn : (raw.map Cus.name).Nodup) (hne : [] ∉ raw.map Cus.name) {sol : List Cus} {h : List Bool} (J : Jr raw sol h) {i : Nat} {x : Cus} (hx : raw[i]? = some x) (hr : Rdy raw h i) : Jr raw (Yfc sol x) (h.set i true) := by
  obtain ⟨hr1, hr2⟩ := hr
  have hxm := List.mem_of_getElem? hx
  have hOx : Oh raw h x.name := ⟨i, x, hx, rfl, hr1⟩
  have hOu : ∀ u ∈ ZbS x.val, ¬ Oh raw h u := by
    rintro u hu ⟨j, y, hy, rfl, hj⟩
    have hadj : Adj raw i j := ⟨x, hx, y.name, hu, by rw [ZiN hn hy 0]; simp⟩
    have := hr2 j (YfH hadj).2 (Zv6 (A := Adj raw) (k := 0) (show WW (Adj raw) 0 _ _ from hadj) (Nat.zero_le _))
    rw [hj] at this
    cases this
  have hxs : ∀ c ∈ sol, c.name ≠ x.name := fun c hc e => (J.jl.svn c.name (Zyw hc)).2.2 (e ▸ hOx)
  have hlk : ∀ n, lkC (Yfc sol x) n = if n = x.name then Ybj (lkC sol) x else lkC sol n := by
    intro n
    unfold Yfc Ybj
    cases decide ((Ze7 (lkC sol) x.val).2 = 0) && decide ((Zal (Ze7 (lkC sol) x.val).1 : Int) ≤ 2000) with
    | false =>
      simp only [cond_false]
      split
      · rename_i e
        rw [e]
        apply Classical.byContradiction
        intro h2
        exact (J.jl.svn _ h2).2.2 hOx
      · rfl
    | true =>
      simp only [cond_true]
      exact Yay (x := ⟨x.name, (Ze7 (lkC sol) x.val).1⟩) hxs
  have hO : Oh raw (h.set i true) = fun a => Oh raw h a ∧ a ≠ x.name := by
    funext a
    apply propext
    constructor
    · rintro ⟨j, y, hy, rfl, hj⟩
      rw [List.getElem?_set] at hj
      split at hj
      · rename_i e
        split at hj
        · cases hj
        · cases hj
      · rename_i e
        refine ⟨⟨j, y, hy, rfl, hj⟩, fun e2 => e ?_⟩
        have h1 := ZiN hn hx 0
        have h2 := ZiN hn hy 0
        rw [e2] at h2
        omega
    · rintro ⟨⟨j, y, hy, rfl, hj⟩, hne2⟩
      refine ⟨j, y, hy, rfl, ?_⟩
      rw [List.getElem?_set, if_neg]
      · exact hj
      · intro e
        subst e
        rw [hx] at hy
        cases hy
        exact hne2 rfl
  refine ⟨by rw [List.length_set]; exact J.len, ?_, ?_, ?_, ?_⟩
  · unfold Yfc
    cases decide ((Ze7 (lkC sol) x.val).2 = 0) && decide ((Zal (Ze7 (lkC sol) x.val).1 : Int) ≤ 2000) with
    | false => exact J.srt
    | true => exact Zxe J.srt hxs
  · intro c hc
    unfold Yfc at hc
    cases hcond : decide ((Ze7 (lkC sol) x.val).2 = 0) && decide ((Zal (Ze7 (lkC sol) x.val).1 : Int) ≤ 2000) with
    | false => rw [hcond] at hc; exact J.okv c hc
    | true =>
      rw [hcond, cond_true] at hc
      rw [Bool.and_eq_true, decide_eq_true_eq, decide_eq_true_eq] at hcond
      rcases insL_mem.1 hc with rfl | hc
      · exact ⟨Int.ofNat_le.1 hcond.2, Zz5 J.lkok _⟩
      · exact J.okv c hc
  · intro c hc
    unfold Yfc at hc
    cases hcond : decide ((Ze7 (lkC sol) x.val).2 = 0) && decide ((Zal (Ze7 (lkC sol) x.val).1 : Int) ≤ 2000) with
    | false => rw [hcond] at hc; exact J.sub c hc
    | true =>
      rw [hcond, cond_true] at hc
      rcases insL_mem.1 hc with rfl | hc
      · exact List.mem_map.2 ⟨x, hxm, rfl⟩
      · exact J.sub c hc
  · rw [hO]
    exact J.jl.step hne hxm (YfJ hn hxm) hOx hOu hlk
theorem Jr.end {raw : List Cus} (hn : (raw.map Cus.name).Nodup) {sol : List Cus} {h : List Bool} (J : Jr raw sol h) (hno : ∀ j, j < raw.length → ¬ Rdy raw h j) : Sol raw (lkC sol) := by
  refine J.jl.done ?_
  rintro a ⟨i, x, hx, rfl, hi⟩
  let S := (List.range raw.length).filter fun j => h[j]? == some false
  have hiS : i ∈ S := List.mem_filter.2 ⟨List.mem_range.2 (List.getElem?_eq_some_iff.1 hx).1, by simp [hi]⟩
  let R : Nat → Nat → Prop := fun a b => b < raw.length ∧ NN raw a b
  have tr : ∀ {a b c}, R a b → R b c → R a c := fun h1 h2 => ⟨h2.1, Zxy h1.1 h1.2 h2.2⟩
  obtain ⟨m, hm, hmx⟩ := Zxk (R := R) tr S (by intro e; rw [e] at hiS; simp at hiS) fun b hb hR => by
    obtain ⟨hb1, hb2⟩ := List.mem_filter.1 hb
    have hb1 := List.mem_range.1 hb1
    have hy := List.getElem?_eq_getElem hb1
    have := (J.jl.opn raw[b].name ⟨b, raw[b], hy, rfl, by simpa using hb2⟩).2
    exact this ((Zw3 hn hy hy).1 hR.2)
  obtain ⟨hm1, hm2⟩ := List.mem_filter.1 hm
  have hm1 := List.mem_range.1 hm1
  refine hno m hm1 ⟨by simpa using hm2, fun j hj hN => ?_⟩
  cases e : h[j]? with
  | none =>
    rw [List.getElem?_eq_none_iff] at e
    have := J.len
    omega
  | some b =>
    cases b with
    | true => rfl
    | false => exact absurd ⟨hj, hN⟩ (hmx j (List.mem_filter.2 ⟨List.mem_range.2 hj, by simp [e]⟩))
end Go.Tev.S1
namespace Go.Tev.S1
open Go.Abs Go.Proofs
open Classical in
noncomputable def nB (raw : List Cus) (i j : Nat) : Bool := decide (NN raw i j)
open Classical in
theorem nB_iff {raw : List Cus} {i j : Nat} : nB raw i j = true ↔ NN raw i j := by unfold nB; exact decide_eq_true_iff
theorem ZuR {raw : List Cus} {i : Nat} (hi : i < raw.length) : Zbt (Zfo raw) (i : Int) = some ((List.range raw.length).map fun j => nB raw i j) := by
  refine ZaA ?_
  unfold Zfo
  rw [List.getElem?_map, List.getElem?_range hi]
  rfl
theorem YfF {raw : List Cus} {i j : Nat} (hj : j < raw.length) : Zbt ((List.range raw.length).map fun j => nB raw i j) (j : Int) = some (nB raw i j) := by
  refine ZaA ?_
  rw [List.getElem?_map, List.getElem?_range hj]
  rfl
noncomputable def Ybh (raw : List Cus) : List Bool := (List.range raw.length).map fun i => nB raw i i
theorem Yh7 {cN : List Cus → Option (List (List Bool))} {cP : List Val × List Cus → Option (List Val × Int)} {cL : List Val → Option Int} {cI : List Cus × Cus → Option (List Cus)} (raw : List Cus) (hl : raw.length ≤ 2 ^ 36) (n : Nat) (hn : raw.length < n) {R : Type} (kx : List Bool → Option R) :
    ZcS (Zcd cN cP cL cI n raw [] (Zfo raw) (raw.length : Int) raw.length [] kx) n (0 : Int) (List.replicate raw.length false) = kx (Ybh raw) := by
  have hd : (Ybh raw).length = raw.length := by simp [Ybh]
  refine (ZhE (Ybh raw) (fun b => b ++ List.replicate (raw.length - b.length) false) (fun b v => .inl (b ++ [v])) kx (fun i b => b.length = i) ?_ ?_ ?_ [] rfl n (by rw [hd]; exact hn)).trans ?_
  · intro i b v k hv hlt hb
    rw [hd] at hlt
    have hi : IntKind.i64.wrap ((i : Int) + 1) = ((i + 1 : Nat) : Int) := Zaz (by omega)
    have hv' : v = nB raw i i := by
      unfold Ybh at hv
      rw [List.getElem?_map, List.getElem?_range hlt] at hv
      cases hv; rfl
    have hlen : (b ++ List.replicate (raw.length - b.length) false).length = raw.length := by simp [hb]; omega
    have h1 : (0 ≤ (i : Int) ∧ (i : Int) < (raw.length : Int) ∧ (i : Int) < ((b ++ List.replicate (raw.length - b.length) false).length : Int)) := by rw [hlen]; omega
    have h2 : i < (b ++ List.replicate (raw.length - b.length) false).length := by rw [hlen]; exact hlt
    have h3 : (b ++ List.replicate (raw.length - b.length) false).set i v = (b ++ [v]) ++ List.replicate (raw.length - (b ++ [v]).length) false := by
      have e : raw.length - b.length = (raw.length - (b ++ [v]).length) + 1 := by simp; omega
      rw [e, List.replicate_succ, List.set_append_right i v (by omega), hb, Nat.sub_self, List.set_cons_zero]
      simp
    simp only [Zcd, dlt hlt, cond_true, ZuR hlt, YfF hlt, Option.bind_some, if_pos h1, Int.toNat_natCast, if_pos h2, hi]
    rw [← hv', h3]
  · intro i b v b' hv hb hs
    cases hs
    simp [hb]
  · intro b k hb
    rw [hd] at hb
    simp only [Zcd, hd, ZiB, cond_false]
    rw [hb, Nat.sub_self]
    simp
  · rw [Zbj (fun (b : List Bool) (v : Bool) => b ++ [v])]
    have : ∀ (l acc : List Bool), l.foldl (fun (b : List Bool) (v : Bool) => b ++ [v]) acc = acc ++ l := by
      intro l
      induction l with
      | nil => intro acc; simp
      | cons v l ih => intro acc; simp [ih]
    rw [this]
    rfl
noncomputable def Ycb (raw : List Cus) (h : List Bool) (i : Nat) : Nat → Nat → Bool
  | 0, _ => true
  | m + 1, j => (!nB raw i j || (h[j]? == some true)) && Ycb raw h i m (j + 1)
theorem Zxn {raw : List Cus} {h : List Bool} {i : Nat} : ∀ {m j : Nat}, Ycb raw h i m j = true ↔ ∀ k, j ≤ k → k < j + m → NN raw i k → h[k]? = some true
  | 0, j => by simp only [Ycb, true_iff]; intro k h1 h2; omega
  | m + 1, j => by
    simp only [Ycb, Bool.and_eq_true, Bool.or_eq_true, Bool.not_eq_true', beq_iff_eq]
    rw [Zxn]
    constructor
    · rintro ⟨h1, h2⟩ k hk1 hk2 hN
      by_cases e : k = j
      · subst e
        rcases h1 with h1 | h1
        · rw [nB_iff.2 hN] at h1; cases h1
        · exact h1
      · exact h2 k (by omega) (by omega) hN
    · intro h1
      refine ⟨?_, fun k hk1 hk2 => h1 k (by omega) (by omega)⟩
      cases e : nB raw i j with
      | false => exact .inl rfl
      | true => exact .inr (h1 j (Nat.le_refl _) (by omega) (nB_iff.1 e))
section
variable {cN : List Cus → Option (List (List Bool))} {cP : List Val × List Cus → Option (List Val × Int)} {cL : List Val → Option Int} {cI : List Cus × Cus → Option (List Cus)} {R : Type}
theorem Yip (raw : List Cus) (hl : raw.length ≤ 2 ^ 36) (n : Nat) (i : Nat) (hi : i < raw.length) (a35 a8 a38 : Bool) (a6 : List Cus) (kx : Bool → Int → List Bool → Option R) (hk : ∀ a z z' h, kx a z h = kx a z' h) (h : List Bool) (hh : h.length = raw.length) :
    ∀ (m j : Nat) (okb : Bool) (fuel : Nat), j + m = raw.length → m < fuel → Zha (Zcc cN cP cL cI n raw [] (Zfo raw) (raw.length : Int) raw.length a35 a6 a8 (i : Int) a38 kx) fuel okb (j : Int) h = kx (okb && Ycb raw h i m j) 0 h := by
  intro m
  induction m with
  | zero =>
    intro j okb fuel hj hf
    obtain ⟨f, rfl⟩ : ∃ f, fuel = f + 1 := ⟨fuel - 1, by omega⟩
    have : j = raw.length := by omega
    subst this
    rw [Zf3]
    simp only [Zcc, ZiB, cond_false, Option.bind_some, Ycb, Bool.and_true]
    exact hk _ _ _ _
  | succ m ih =>
    intro j okb fuel hj hf
    obtain ⟨f, rfl⟩ : ∃ f, fuel = f + 1 := ⟨fuel - 1, by omega⟩
    have hlt : j < raw.length := by omega
    have hw : IntKind.i64.wrap ((j : Int) + 1) = ((j + 1 : Nat) : Int) := Zaz (by omega)
    have h1 : (0 ≤ (j : Int) ∧ (j : Int) < (raw.length : Int) ∧ (j : Int) < (h.length : Int)) := by rw [hh]; omega
    have hg : h[j]? = some h[j] := List.getElem?_eq_getElem (by omega)
    rw [Zf3]
    simp only [Zcc, dlt hlt, cond_true, Option.bind_some]
    cases okb with
    | false => simp only [cond_false, Bool.false_and]; exact hk _ _ _ _
    | true =>
      simp only [cond_true, ZuR hi, YfF hlt, Option.bind_some, hw]
      cases hb : nB raw i j with
      | false =>
        simp only [Bool.not_false, Bool.not_true, cond_false, cond_true, Option.bind_some]
        rw [ih (j + 1) true f (by omega) (by omega)]
        simp only [Ycb, hb, Bool.not_false, Bool.true_or, Bool.true_and]
      | true =>
        simp only [Bool.not_false, Bool.not_true, cond_false, cond_true, Option.bind_some, if_pos h1, Int.toNat_natCast, hg]
        rw [ih (j + 1) h[j] f (by omega) (by omega)]
        have : (some h[j] == some true) = h[j] := by cases h[j] <;> rfl
        simp only [Ycb, hb, Bool.not_true, Bool.false_or, hg, this, Bool.true_and]
theorem YgU (raw : List Cus) (hl : raw.length ≤ 2 ^ 36) (n : Nat) (i : Nat) (hi : i < raw.length) (a35 a8 a38 : Bool) (a6 : List Cus) (kx : Bool → Int → List Bool → Option R) (hk : ∀ a z z' h, kx a z h = kx a z' h) (h : List Bool) (hh : h.length = raw.length) (okb : Bool) (fuel : Nat) (hf : raw.length < fuel) :
    Zha (Zcc cN cP cL cI n raw [] (Zfo raw) (raw.length : Int) raw.length a35 a6 a8 (i : Int) a38 kx) fuel okb (0 : Int) h = kx (okb && Ycb raw h i raw.length 0) 0 h :=
  Yip raw hl n i hi a35 a8 a38 a6 kx hk h hh raw.length 0 okb fuel (Nat.zero_add _) hf
end
theorem count_set : ∀ {h : List Bool} {i : Nat}, h[i]? = some false → (h.set i true).count true = h.count true + 1
  | [], i, hi => by simp at hi
  | b :: r, 0, hi => by
    simp only [List.getElem?_cons_zero, Option.some.injEq] at hi
    subst hi
    simp
  | b :: r, i + 1, hi => by
    have ih := count_set (h := r) (i := i) (by simpa using hi)
    rw [List.set_cons_succ, List.count_cons, List.count_cons, ih]
    omega
end Go.Tev.S1
namespace Go.Tev.S1
open Go.Abs Go.Proofs
theorem Zz8 {raw : List Cus} {h : List Bool} {i : Nat} (hh : h[i]? = some false) : Ycb raw h i raw.length 0 = true ↔ Rdy raw h i := by
  rw [Zxn]
  constructor
  · intro h1; exact ⟨hh, fun j hj hN => h1 j (Nat.zero_le _) (by omega) hN⟩
  · intro h1 k _ hk hN; exact h1.2 k (by omega) hN
theorem Ybg {lk : Lk} (hk : Yg7 lk) {l : List Val} (hl : Zal l ≤ B) (h0 : (Ze7 lk l).2 = 0) : Zal (Ze7 lk l).1 ≤ B := by
  unfold Ze7 at h0 ⊢
  split
  · simp [Zal]
  · rename_i n hn
    split
    · simp [Zal]
    · rename_i h2
      split
      · exact (ZyA ⟨hl, hk⟩ hn h2).2
      · simp [Zal]
section
variable {cN : List Cus → Option (List (List Bool))} {R : Type}
theorem Yfw (raw : List Cus) (hok : ZfI raw) (hl : raw.length ≤ 2 ^ 30) (hn : (raw.map Cus.name).Nodup) (hne : [] ∉ raw.map Cus.name) (n : Nat) (hnl : raw.length < n) (a35 : Bool) (kx : List Cus → Bool → Int → List Bool → Option R) (hk : ∀ a b z z' h, kx a b z h = kx a b z' h) :
    ∀ (m i : Nat) (sol : List Cus) (ch : Bool) (h : List Bool) (fuel : Nat), i + m = raw.length → m < fuel → Jr raw sol h →
    ∃ sol' ch' h', Zuu (Zc3 cN Zrv Zgm YcR n raw [] (Zfo raw) (raw.length : Int) raw.length a35 kx) fuel sol ch (i : Int) h = kx sol' ch' 0 h' ∧ Jr raw sol' h' ∧ h.count true ≤ h'.count true ∧ (ch = true → ch' = true) ∧ (ch' = true → ch = true ∨ h.count true < h'.count true) ∧
      (ch' = false → h' = h ∧ ∀ j, i ≤ j → j < raw.length → ¬ Rdy raw h j) := by
  have hB : B = 2 ^ 36 := rfl
  have hV : V = 2 ^ 24 := rfl
  intro m
  induction m with
  | zero =>
    intro i sol ch h fuel hi hf J
    obtain ⟨f, rfl⟩ : ∃ f, fuel = f + 1 := ⟨fuel - 1, by omega⟩
    have : i = raw.length := by omega
    subst this
    refine ⟨sol, ch, h, ?_, J, Nat.le_refl _, id, .inl, fun _ => ⟨rfl, fun j h1 h2 => by omega⟩⟩
    rw [ZqA]
    simp only [Zc3, ZiB, cond_false]
    exact hk _ _ _ _ _
  | succ m ih =>
    intro i sol ch h fuel hi hf J
    obtain ⟨f, rfl⟩ : ∃ f, fuel = f + 1 := ⟨fuel - 1, by omega⟩
    have hlt : i < raw.length := by omega
    have hx := List.getElem?_eq_getElem hlt
    have hw : IntKind.i64.wrap ((i : Int) + 1) = ((i + 1 : Nat) : Int) := Zaz (by omega)
    have h1 : (0 ≤ (i : Int) ∧ (i : Int) < (raw.length : Int) ∧ (i : Int) < (h.length : Int)) := by rw [J.len]; omega
    have h2 : i < h.length := by rw [J.len]; exact hlt
    have hg : h[i]? = some h[i] := List.getElem?_eq_getElem h2
    rw [ZqA]
    simp only [Zc3, dlt hlt, cond_true, if_pos h1, Int.toNat_natCast, hg, Option.bind_some]
    rw [YgU raw (Nat.le_trans hl (by decide)) n i hlt a35 ch true sol _ (fun a z z' h => by
      cases a <;> rfl) h J.len (!h[i]) n hnl]
    cases hr : (!h[i] && Ycb raw h i raw.length 0) with
    | false =>
      simp only [Bool.not_false, cond_true, hw]
      obtain ⟨sol', ch', h', e1, e2, e3, e4, e5, e6⟩ := ih (i + 1) sol ch h f (by omega) (by omega) J
      refine ⟨sol', ch', h', e1, e2, e3, e4, e5, fun hc => ?_⟩
      obtain ⟨g1, g2⟩ := e6 hc
      refine ⟨g1, fun j hj1 hj2 => ?_⟩
      by_cases e : j = i
      · subst e
        intro hR
        have hf2 : h[j] = false := by have := hR.1; rw [hg] at this; simpa using this
        rw [hf2, (Zz8 (by rw [hg, hf2])).2 hR] at hr
        cases hr
      · exact g2 j (by omega) hj2
    | true =>
      rw [Bool.and_eq_true, Bool.not_eq_true'] at hr
      have hR : Rdy raw h i := (Zz8 (by rw [hg, hr.1])).1 hr.2
      have J' := J.step hn hne hx hR
      have hxt : Zal raw[i].val ≤ B := Nat.le_trans (hok.2 raw[i] (List.getElem_mem hlt)) (by rw [hB, hV]; decide)
      have hcl := J.cuok (Nat.le_trans hl (by rw [hB]; decide))
      have hput := YdS (l := raw[i].val) (m := sol) ⟨hxt, J.lkok⟩ hcl
      have hins : ∀ y, YcR (sol, y) = some (ZvM y sol) := fun y => YgM (Nat.le_trans J.le hl)
      have hcnt : (h.set i true).count true = h.count true + 1 := count_set (by rw [hg, hr.1])
      have hset : (if i < h.length then some (h.set i true) else none) = some (h.set i true) := if_pos h2
      obtain ⟨sol', ch', h', e1, e2, e3, e4, e5, e6⟩ := ih (i + 1) (Yfc sol raw[i]) true (h.set i true) f (by omega) (by omega) J'
      refine ⟨sol', ch', h', ?_, e2, by omega, fun _ => e4 rfl, fun _ => .inr (by omega), fun hc => ?_⟩
      · rw [← e1]
        simp only [Bool.not_true, cond_false, if_pos h1, Int.toNat_natCast, Option.bind_some, hset, ZaA hx, hput, hw]
        cases hz : ((Ze7 (lkC sol) raw[i].val).2 == (0 : Int)) with
        | false =>
          have hz2 : decide ((Ze7 (lkC sol) raw[i].val).2 = 0) = false := by rw [decide_eq_false_iff_not]; simpa using hz
          simp only [cond_false, Option.bind_some]
          unfold Yfc
          rw [hz2]
          rfl
        | true =>
          have hz1 : (Ze7 (lkC sol) raw[i].val).2 = 0 := by simpa using hz
          have hz2 : decide ((Ze7 (lkC sol) raw[i].val).2 = 0) = true := by rw [decide_eq_true_eq]; exact hz1
          simp only [cond_true, Zgs (Ybg J.lkok hxt hz1), Option.bind_some]
          unfold Yfc
          rw [hz2, Bool.true_and]
          cases hz3 : decide ((Zal (Ze7 (lkC sol) raw[i].val).1 : Int) ≤ 2000) with
          | false => simp only [cond_false, Option.bind_some]
          | true => simp only [cond_true, Option.bind_some, hins]
      · rw [e4 rfl] at hc
        cases hc
theorem Yij (raw : List Cus) (hok : ZfI raw) (hl : raw.length ≤ 2 ^ 30) (hn : (raw.map Cus.name).Nodup) (hne : [] ∉ raw.map Cus.name) (n : Nat) (hnl : raw.length < n) (kx : List Cus → List Bool → Option R) :
    ∀ (d : Nat) (sol : List Cus) (ch : Bool) (h : List Bool) (fuel : Nat), Jr raw sol h → raw.length - h.count true ≤ d → d + 2 ≤ fuel → (ch = false → ∀ j, j < raw.length → ¬ Rdy raw h j) →
    ∃ sol' h', Zha (ZaR cN Zrv Zgm YcR n raw [] (Zfo raw) (raw.length : Int) raw.length kx) fuel sol ch h = kx sol' h' ∧ Jr raw sol' h' ∧ ∀ j, j < raw.length → ¬ Rdy raw h' j := by
  intro d
  induction d with
  | zero =>
    intro sol ch h fuel J hd hf hch
    obtain ⟨f, rfl⟩ : ∃ f, fuel = f + 1 + 1 := ⟨fuel - 2, by omega⟩
    rw [Zf3]
    cases ch with
    | false => exact ⟨sol, h, by simp only [ZaR, cond_false], J, hch rfl⟩
    | true =>
      simp only [ZaR, cond_true]
      obtain ⟨sol', ch', h', e1, e2, e3, e4, e5, e6⟩ := Yfw (cN := cN) raw hok hl hn hne n hnl true (fun z6 z7 (z8 : Int) z9 => Zha (ZaR cN Zrv Zgm YcR n raw [] (Zfo raw) (raw.length : Int) raw.length kx) (f + 1) z6 z7 z9) (fun _ _ _ _ _ => rfl) raw.length 0 sol false h n (by omega) hnl J
      refine ⟨sol', h', ?_, e2, ?_⟩
      all_goals have hc : ch' = false := by
                  cases hc : ch' with
                  | false => rfl
                  | true =>
                    rcases e5 hc with h1 | h1
                    · cases h1
                    · have := List.count_le_length (a := true) (l := h')
                      have := e2.len
                      omega
      · rw [hc] at e1
        refine e1.trans ?_
        rw [Zf3]
        simp only [ZaR, cond_false]
      · obtain ⟨g1, g2⟩ := e6 hc
        rw [g1]
        exact fun j hj => g2 j (Nat.zero_le _) hj
  | succ d ih =>
    intro sol ch h fuel J hd hf hch
    obtain ⟨f, rfl⟩ : ∃ f, fuel = f + 1 + 1 := ⟨fuel - 2, by omega⟩
    rw [Zf3]
    cases ch with
    | false => exact ⟨sol, h, by simp only [ZaR, cond_false], J, hch rfl⟩
    | true =>
      simp only [ZaR, cond_true]
      obtain ⟨sol', ch', h', e1, e2, e3, e4, e5, e6⟩ := Yfw (cN := cN) raw hok hl hn hne n hnl true (fun z6 z7 (z8 : Int) z9 => Zha (ZaR cN Zrv Zgm YcR n raw [] (Zfo raw) (raw.length : Int) raw.length kx) (f + 1) z6 z7 z9) (fun _ _ _ _ _ => rfl) raw.length 0 sol false h n (by omega) hnl J
      cases hc : ch' with
      | false =>
        rw [hc] at e1
        refine ⟨sol', h', ?_, e2, ?_⟩
        · refine e1.trans ?_
          rw [Zf3]
          simp only [ZaR, cond_false]
        · obtain ⟨g1, g2⟩ := e6 hc
          rw [g1]
          exact fun j hj => g2 j (Nat.zero_le _) hj
      | true =>
        rw [hc] at e1
        have hlt : h.count true < h'.count true := by
          rcases e5 hc with h1 | h1
          · cases h1
          · exact h1
        obtain ⟨sol2, h2, k1, k2, k3⟩ := ih sol' true h' (f + 1) e2 (by omega) (by omega) (fun h => by cases h)
        exact ⟨sol2, h2, e1.trans k1, k2, k3⟩
end
theorem YhD {raw : List Cus} (hn : (raw.map Cus.name).Nodup) : Jr raw [] (Ybh raw) := by
  have hO : ∀ a, Oh raw (Ybh raw) a ↔ a ∈ raw.map Cus.name ∧ ¬ ZzQ raw a := by
    intro a
    have dg : ∀ {i : Nat} {x : Cus}, raw[i]? = some x → (Ybh raw)[i]? = some (nB raw i i) := by
      intro i x hx
      unfold Ybh
      rw [List.getElem?_map, List.getElem?_range (List.getElem?_eq_some_iff.1 hx).1]
      rfl
    constructor
    · rintro ⟨i, x, hx, rfl, hi⟩
      refine ⟨List.mem_map.2 ⟨x, List.mem_of_getElem? hx, rfl⟩, fun hc => ?_⟩
      rw [dg hx, nB_iff.2 ((Zw3 hn hx hx).2 hc)] at hi
      cases hi
    · rintro ⟨h1, h2⟩
      obtain ⟨x, hx, rfl⟩ := Zps h1
      obtain ⟨i, hi, rfl⟩ := List.mem_iff_getElem.1 hx
      have hx := List.getElem?_eq_getElem hi
      refine ⟨i, _, hx, rfl, ?_⟩
      rw [dg hx]
      cases e : nB raw i i with
      | false => rfl
      | true => exact absurd ((Zw3 hn hx hx).1 (nB_iff.1 e)) h2
  refine ⟨by simp [Ybh], List.Pairwise.nil, fun c hc => by simp at hc, fun c hc => by simp at hc, fun a ha => (hO a).1 ha, fun a ha => absurd rfl ha, fun x hx hc hno => absurd ((hO _).2 ⟨List.mem_map.2 ⟨x, hx, rfl⟩, hc⟩) hno⟩
theorem YeQ {raw : List Cus} (h : Srt raw) (Sv : Mv) : Srt (ZgS raw Sv) := by
  unfold Srt ZgS
  refine List.Pairwise.filterMap _ ?_ h
  intro a b hab c hc d hd
  cases ha : Zbd BEq.beq a.name Sv with
  | none => rw [ha] at hc; cases hc
  | some u =>
    cases hb : Zbd BEq.beq b.name Sv with
    | none => rw [hb] at hd; cases hd
    | some v =>
      rw [ha] at hc
      rw [hb] at hd
      cases hc
      cases hd
      exact hab
theorem Zwq (raw : List Cus) (hok : ZfI raw) (hl : raw.length ≤ 2 ^ 30) (hs : Srt raw) (hne : [] ∉ raw.map Cus.name) : Zgo ZoT Zrv Zgm YcR (raw.length + 3) raw = some (ZgS raw (Zew raw)) := by
  have hn := Zpr hs
  unfold Zgo
  rw [YcL hok]
  have r1 : room 1 raw.length = some () := Zej (by omega) (by decide)
  simp only [Option.bind_some, Int.toNat_natCast, r1]
  rw [if_pos ⟨by omega, trivial⟩]
  show (ZcS (Zcd ZoT Zrv Zgm YcR (raw.length + 3) raw [] (Zfo raw) (raw.length : Int) (List.replicate raw.length false).length [] _) (raw.length + 3) (0 : Int) (List.replicate raw.length false)) = _
  rw [List.length_replicate]
  rw [Yh7 raw (Nat.le_trans hl (by decide)) (raw.length + 3) (by omega)]
  obtain ⟨sol, h, e1, J, hno⟩ := Yij (cN := ZoT) raw hok hl hn hne (raw.length + 3) (by omega) (fun z4 z5 => some z4) raw.length [] true (Ybh raw) (raw.length + 3) (YhD hn) (by omega) (by omega) (fun h => by cases h)
  refine e1.trans ?_
  have hsol := J.end hn hno
  have hsv := Zzs hn hne
  have : sol = ZgS raw (Zew raw) := by
    refine YbI J.srt (YeQ hs _) ?_
    rw [Yc5 hn hne hsol hsv]
    funext k
    exact (Yha hn hsv.out k).symm
  rw [this]
end Go.Tev.S1
namespace Go.Tev.S1
open Go.Abs Go.Proofs
noncomputable def ZnW (raw : List Cus) : Option (List Cus) := if ZfI raw ∧ raw.length ≤ 2 ^ 30 ∧ namL none raw = true then some (ZgS raw (Zew raw)) else none
theorem ZvT {raw : List Cus} (h : ZfI raw) (h2 : raw.length ≤ 2 ^ 30) (h3 : namL none raw = true) : ZnW raw = some (ZgS raw (Zew raw)) := if_pos ⟨h, h2, h3⟩
theorem Zv5 : ∀ {p : Option (List UInt8)} {c : List Cus}, namL p c = true → Srt c
  | _, [], _ => List.Pairwise.nil
  | p, y :: c, h => by
    obtain ⟨_, h2⟩ := ZtE h
    exact List.pairwise_cons.2 ⟨fun x hx => YaW h2 x hx, Zv5 h2⟩
theorem YfN : ∀ {p : Option (List UInt8)} {c : List Cus}, namL p c = true → [] ∉ c.map Cus.name
  | _, [], _ => by simp
  | p, y :: c, h => by
    have h1 : Za4 y.name = true := by
      rw [namL.eq_def] at h
      simp only [Bool.and_eq_true] at h
      exact h.1.1
    obtain ⟨_, h2⟩ := ZtE h
    rw [List.map_cons, List.mem_cons]
    rintro (h3 | h3)
    · exact Zva h1 h3.symm
    · exact YfN h2 h3
theorem YeH : Zag U (Zac C K1) 28 ⟨true, [.ty 22], [22], ZnW⟩ :=
  Zkm (kf ZbQ 28 (by decide)) _ _ _ _ YfY (Yje ZbQ) (YbS (kf ZbQ 32 (by decide))) (YdT ZbQ) _ fun a r h => by
    unfold ZnW at h
    split at h
    · rename_i h3
      cases h
      exact ⟨_, Zwq a h3.1 h3.2.1 (Zv5 h3.2.2) (YfN h3.2.2)⟩
    · cases h
def YcT : List Cus → Int
  | [] => 0
  | v :: r => if Za5 v.val = 0 then YcT r else Za5 v.val
open Classical in
noncomputable def Zlr (raw : List Cus) : List Cus × Int := if raw.length > 64 then ([], 4) else if namL none raw = false then ([], 8) else if YcT raw = 0 then (ZgS raw (Zew raw), 0) else ([], YcT raw)
noncomputable def Zn5 (raw : List Cus) : Option (List Cus × Int) := if ZfI raw then some (Zlr raw) else none
theorem Ycf {raw : List Cus} (h : ZfI raw) : Zn5 raw = some (Zlr raw) := if_pos h
theorem YaV {R : Type} (z : Int → Option R) (k : Option R) (l : List Cus) : ZmL (fun (_ : Unit) v => if Za5 v.val = 0 then .inl () else .inr (z (Za5 v.val))) (fun _ => k) l () = if YcT l = 0 then k else z (YcT l) := by
  induction l with
  | nil => rfl
  | cons v l ih =>
    simp only [ZmL]
    by_cases h : Za5 v.val = 0
    · have e : YcT (v :: l) = YcT l := by rw [YcT, if_pos h]
      rw [if_pos h, e]; exact ih
    · have e : YcT (v :: l) = Za5 v.val := by rw [YcT, if_neg h]
      rw [if_neg h, e, if_neg h]
theorem ZuE {raw : List Cus} (hok : ZfI raw) {v : Cus} (hv : v ∈ raw) : ZhW v.val = some (Za5 v.val) := by
  have hB : B = 2 ^ 36 := rfl
  have hV : V = 2 ^ 24 := rfl
  exact Zgf (Nat.le_trans (hok.2 v hv) (by rw [hB, hV]; decide))
theorem Zv7 (raw : List Cus) (hok : ZfI raw) : Zi1 Zlk ZoE ZhW (raw.length + 1) raw = some (Zlr raw) := by
  unfold Zi1 Zlr
  by_cases h1 : raw.length > 64
  · have : decide ((raw.length : Int) > 64) = true := by simp; omega
    rw [this, if_pos h1]; rfl
  · have : decide ((raw.length : Int) > 64) = false := by simp; omega
    rw [this, if_neg h1]
    simp only [cond_false, ZkU hok.1, Option.bind_some]
    cases h2 : namL none raw with
    | false => rfl
    | true =>
      simp only [Bool.not_true, cond_false]
      rw [if_neg (by decide)]
      refine (Zf1 raw (fun (_ : Unit) => ([] : List Cus)) (fun _ => (0 : Int)) (fun _ v => if Za5 v.val = 0 then .inl () else .inr (some (([] : List Cus), Za5 v.val))) (fun _ => some (ZgS raw (Zew raw), (0 : Int))) (fun i b => True) ?_ ?_ ?_ () trivial _ (Nat.lt_succ_self _)).trans ?_
      · intro i b v k hv hlt hb
        have hi : IntKind.i64.wrap ((i : Int) + 1) = ((i + 1 : Nat) : Int) := Zaz (by omega)
        simp only [ZfN, dlt hlt, cond_true, ZaA hv, Option.bind_some, ZuE hok (List.mem_of_getElem? hv), hi]
        by_cases h3 : Za5 v.val = 0
        · have e : (Za5 v.val != 0) = false := by simpa using h3
          rw [if_pos h3, e]; rfl
        · have e : (Za5 v.val != 0) = true := by simpa using h3
          rw [if_neg h3, e]; rfl
      · intro i b v b' _ _ _; trivial
      · intro b k hb
        simp only [ZfN, ZiB, cond_false, ZzF (Zpr (Zv5 h2)) hok, Option.bind_some]
      · rw [YaV (fun e => some (([] : List Cus), e))]
        split <;> rfl
theorem YhM : Zag U (Zac C K1) 7 ⟨true, [.ty 22], [22, 25], Zn5⟩ :=
  Znv (kf ZbQ 7 (by decide)) _ _ _ (ZzY ZbQ) Yg8 (Zj0 (kf ZbQ 24 (by decide)) (kf ZbQ 43 (by decide)) (kf ZbQ 67 (by decide))) _ fun a r h => by
    unfold Zn5 at h
    split at h
    · rename_i h3; cases h; exact ⟨_, Zv7 a h3⟩
    · cases h
theorem Zww (raw : List Cus) (hok : ZfI raw) : Zhl Zlk ZnW ZhW (raw.length + 1) raw = some (Zlr raw) := by
  unfold Zhl Zlr
  by_cases h1 : raw.length > 64
  · have : decide ((raw.length : Int) > 64) = true := by simp; omega
    rw [this, if_pos h1]; rfl
  · have : decide ((raw.length : Int) > 64) = false := by simp; omega
    rw [this, if_neg h1]
    simp only [cond_false, ZkU hok.1, Option.bind_some]
    cases h2 : namL none raw with
    | false => rfl
    | true =>
      simp only [Bool.not_true, cond_false]
      rw [if_neg (by decide)]
      refine (Zf1 raw (fun (_ : Unit) => ([] : List Cus)) (fun _ => (0 : Int)) (fun _ v => if Za5 v.val = 0 then .inl () else .inr (some (([] : List Cus), Za5 v.val))) (fun _ => some (ZgS raw (Zew raw), (0 : Int))) (fun i b => True) ?_ ?_ ?_ () trivial _ (Nat.lt_succ_self _)).trans ?_
      · intro i b v k hv hlt hb
        have hi : IntKind.i64.wrap ((i : Int) + 1) = ((i + 1 : Nat) : Int) := Zaz (by omega)
        simp only [Ze8, dlt hlt, cond_true, ZaA hv, Option.bind_some, ZuE hok (List.mem_of_getElem? hv), hi]
        by_cases h3 : Za5 v.val = 0
        · have e : (Za5 v.val != 0) = false := by simpa using h3
          rw [if_pos h3, e]; rfl
        · have e : (Za5 v.val != 0) = true := by simpa using h3
          rw [if_neg h3, e]; rfl
      · intro i b v b' _ _ _; trivial
      · intro b k hb
        simp only [Ze8, ZiB, cond_false, ZvT hok (show raw.length ≤ 2 ^ 30 by omega) h2, Option.bind_some]
      · rw [YaV (fun e => some (([] : List Cus), e))]
        split <;> rfl
theorem ZyO : Zag U (Zac C K1) 8 ⟨true, [.ty 22], [22, 3], Zn5⟩ :=
  ZmA (kf ZbQ 8 (by decide)) _ _ _ (Zq6 ZbQ) YeH (Zmk (kf ZbQ 27 (by decide)) (kf ZbQ 33 (by decide)) (kf ZbQ 46 (by decide)) (kf ZbQ 47 (by decide)) (kf ZbQ 54 (by decide))) _ fun a r h => by
    unfold Zn5 at h
    split at h
    · rename_i h3; cases h; exact ⟨_, Zww a h3⟩
    · cases h
def Zx9 (c : List Cus) : Option (List Cus) := if ZfI c then some c else none
theorem YbY {c : List Cus} (h : ZfI c) : Zx9 c = some c := if_pos h
theorem ZyQ (c : List Cus) (hok : ZfI c) : ZiW Zr9 (c.length + 1) c = some c := by
  have hB : B = 2 ^ 36 := rfl
  have hV : V = 2 ^ 24 := rfl
  have hl := hok.1
  rw [hB] at hl
  unfold ZiW
  refine (Za3 c (fun (b : List Cus) => b) (fun b v => .inl (b ++ [v])) (fun b => some b) (fun i b => b = c.take i) ?_ ?_ ?_ [] rfl _ (Nat.lt_succ_self _)).trans ?_
  · intro i b v k hv hlt hb
    subst hb
    have hi : IntKind.i64.wrap ((i : Int) + 1) = ((i + 1 : Nat) : Int) := Zaz (by omega)
    have hx := hok.2 v (List.mem_of_getElem? hv)
    have ht : Zr9 v.val = some v.val := ZsP (Nat.le_trans hx (by rw [hB, hV]; decide))
    have ex : Cus.mk v.name v.val = v := rfl
    have r1 : room 40 ((c.take i).length + [v].length) = some () := Zej (by simp; omega) (by decide)
    simp only [ZfE, dlt hlt, cond_true, ZaA hv, Option.bind_some, ht, ex, r1, hi]
  · intro i b v b' hv hb hs
    cases hs
    rw [hb, ZaP hv]
  · intro b k hb
    simp only [ZfE, ZiB, cond_false]
  · rw [Zbj (fun (b : List Cus) v => b ++ [v])]
    have : ∀ (l acc : List Cus), l.foldl (fun (b : List Cus) v => b ++ [v]) acc = acc ++ l := by
      intro l
      induction l with
      | nil => intro acc; simp
      | cons v l ih => intro acc; simp [ih]
    rw [this]
    rfl
theorem Yf7 {K : Zaa} (hK : Zcf K) : Zag U (Zac C K) 6 ⟨true, [.ty 22], [22], Zx9⟩ :=
  ZnK (kf hK 6 (by decide)) _ (YfM hK) _ fun a r h => by
    unfold Zx9 at h
    split at h
    · rename_i h3; cases h; exact ⟨_, ZyQ a h3⟩
    · cases h
open Classical in
noncomputable def Zt2 (a : List Cus × List Cus) : Option Bool := if a.1 = a.2 ∧ ZfI a.1 then some true else none
theorem Zts {c : List Cus} (h : ZfI c) : Zt2 (c, c) = some true := if_pos ⟨rfl, h⟩
theorem ZyM (c : List Cus) (hok : ZfI c) : ZgT Zu0 (c.length + 1) c c = some true := by
  have hB : B = 2 ^ 36 := rfl
  have hV : V = 2 ^ 24 := rfl
  have hl := hok.1
  rw [hB] at hl
  unfold ZgT
  have e0 : ((c.length : Int) != (c.length : Int)) = false := by simp
  rw [e0]
  simp only [cond_false]
  refine (Za3 c (fun (_ : Unit) => false) (fun _ v => .inl ()) (fun _ => some true) (fun i b => True) ?_ ?_ ?_ () trivial _ (Nat.lt_succ_self _)).trans ?_
  · intro i b v k hv hlt hb
    have hi : IntKind.i64.wrap ((i : Int) + 1) = ((i + 1 : Nat) : Int) := Zaz (by omega)
    have hx := hok.2 v (List.mem_of_getElem? hv)
    have hx2 : Zal v.val ≤ B := Nat.le_trans hx (by rw [hB, hV]; decide)
    have e1 : (v.name != v.name) = false := by simp
    simp only [ZfD, dlt hlt, cond_true, ZaA hv, Option.bind_some, e1, Bool.not_false, cond_false, ZxN hx2 hx2, Zov, Bool.not_true, hi]
  · intro i b v b' _ _ _; trivial
  · intro b k hb
    simp only [ZfD, ZiB, cond_false]
  · rw [Zbj (fun (_ : Unit) _ => ())]
theorem Yf9 {K : Zaa} (hK : Zcf K) : Zag U (Zac C K) 9 ⟨true, [.ty 22, .ty 22], [4], Zt2⟩ :=
  Znd (kf hK 9 (by decide)) _ (Yir hK) _ fun a r h => by
    have h : Zt2 a = some r := h
    unfold Zt2 at h
    split at h
    · rename_i h3
      cases h
      have e : a.2 = a.1 := h3.1.symm
      refine ⟨List.length a.1 + 1, ?_⟩
      have h5 : ZgT Zu0 (List.length a.1 + 1) a.1 a.2 = some true := by rw [e]; exact ZyM a.1 h3.2
      exact h5
    · cases h
theorem Ycc {raw : List Cus} (hok : ZfI raw) (hs : (Zlr raw).2 = 0 → True) : ZfI (Zlr raw).1 := by
  have hV : V = 2 ^ 24 := rfl
  have hB : B = 2 ^ 36 := rfl
  unfold Zlr
  have nil : ZfI [] := ⟨Nat.zero_le _, fun v hv => by simp at hv⟩
  split
  · exact nil
  · split
    · exact nil
    · split
      · refine ⟨Nat.le_trans (ZxU _ _) hok.1, fun v hv => ?_⟩
        unfold ZgS at hv
        obtain ⟨x, hx, he⟩ := List.mem_filterMap.1 hv
        cases hm : Zbd BEq.beq x.name (Zew raw) with
        | none => rw [hm] at he; cases he
        | some u =>
          rw [hm] at he
          cases he
          have okS : ∀ (n : Nat) (Sv Op : Mv), OkS Sv → OkS (ZjA raw n Sv Op) := by
            intro n
            induction n with
            | zero => intro Sv Op h; exact h
            | succ n ih =>
              intro Sv Op h
              simp only [ZjA]
              split
              · exact ih _ _ (Yau h _)
              · exact h
          obtain ⟨p, hp, rfl⟩ := YbE (m := Zew raw) (n := x.name) hm
          have := (okS _ [] (Zmh raw) (fun p hp => by simp at hp) : OkS (Zew raw)) p hp
          exact Nat.le_trans this.1 (by rw [hV]; decide)
      · exact nil
theorem Zy1 (raw : List Cus) (hok : ZfI raw) : ZdT Zpp Zx9 Zn5 Zn5 Zt2 Yhj Yhj 0 raw = some true := by
  obtain ⟨b, hb⟩ := Zw2 hok
  unfold ZdT
  rw [hb]
  cases b with
  | true => rfl
  | false =>
    simp only [Option.bind_some, cond_false, YbY hok, Ycf hok, Zts (Ycc hok fun _ => trivial), cond_true, beq_self_eq_true, Yhx hok, Zts hok]
noncomputable def Yhc (raw : List Cus) : Option Bool := if ZfI raw then some true else none
theorem ZuN : Zag U (Zac C K1) 3 ⟨true, [.ty 22], [4], Yhc⟩ :=
  Zh5 (kf ZbQ 3 (by decide)) _ _ _ _ _ _ _ (Ydw ZbQ) (Yf7 ZbQ) YhM ZyO (Yf9 ZbQ) (YhN ZbQ) (Yeg ZbQ) _ fun a r h => by
    have h : Yhc a = some r := h
    unfold Yhc at h
    split at h
    · rename_i h3; cases h; exact ⟨0, Zy1 a h3⟩
    · cases h
end Go.Tev.S1
