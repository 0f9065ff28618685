/- A certified evaluator for the walked functions, and their contracts, for the laws of the variables. -/
import Derived.Test.YtnmlodkomklpfaaGreatLG
import Derived.Test.YtnmlodkomklpfaaGreatLH
import Derived.Test.YtnmlodkomklpfaaGreatLI
import Derived.Test.YtnmlodkomklpfaaGreatLK
set_option linter.unusedVariables false
set_option linter.unusedSimpArgs false
namespace Go.Tev.S1
open Go.Abs Go.Proofs
abbrev T8a : Type := Unit → Option Bool
abbrev T8b : Type := (List Cus) → Option Bool
abbrev T8c : Type := (List Cus) → Option ((List Cus) × Int)
abbrev T8d : Type := (List Cus) → Option Int
abbrev T8e : Type := (List Cus) × (List UInt8) → Option Int
abbrev T8f : Type := (List Cus) × Int → Option Bool
abbrev T8g : Type := (List Val) → Option (Int × Int)
abbrev T8h : Type := (List Val) → Option Bool
abbrev T8i : Type := (List Val) × (List Val) → Option Bool
abbrev P8a (K : Zaa) (t : T8a) : Prop := Zaj U (Zab C K) 8 ⟨true, [], [4], t⟩
abbrev P8b (K : Zaa) (t : T8b) : Prop := Zaj U (Zab C K) 10 ⟨true, [.ty 23], [4], t⟩
abbrev P8c (K : Zaa) (t : T8c) : Prop := Zaj U (Zab C K) 16 ⟨true, [.ty 23], [23, 28], t⟩
abbrev P8d (K : Zaa) (t : T8d) : Prop := Zaj U (Zab C K) 22 ⟨true, [.ty 23], [28], t⟩
abbrev P8e (K : Zaa) (t : T8e) : Prop := Zaj U (Zab C K) 17 ⟨true, [.ty 23, .ty 9], [3], t⟩
abbrev P8f (K : Zaa) (t : T8f) : Prop := Zaj U (Zab C K) 26 ⟨true, [.ty 23, .ty 3], [4], t⟩
abbrev P8g (K : Zaa) (t : T8g) : Prop := Zaj U (Zab C K) 24 ⟨true, [.ty 22], [3, 28], t⟩
abbrev P8h (K : Zaa) (t : T8h) : Prop := Zaj U (Zab C K) 14 ⟨true, [.ty 22], [4], t⟩
abbrev P8i (K : Zaa) (t : T8i) : Prop := Zaj U (Zab C K) 15 ⟨true, [.ty 22, .ty 22], [4], t⟩
def Zbt (qa : T8a) (qb : T8b) (qc : T8c) (qd : T8d) (qe : T8e) (qf : T8f) (qg : T8g) (qh : T8h) (qi : T8i) {R : Type} (n : Nat) (a0 : List Cus) (a3 : Bool) (a4 : List Cus) (kx0 : Bool → Option R) (kr : Bool → Option R) (y2 : Bool) (y6 : Int) (k : Bool → Int → Option R) : Option R :=
  cond (decide (y6 < (a0.length : Int)))
  (Option.bind (ZeC a0 y6) fun x10 =>
  Option.bind (qe (a4, x10.name)) fun r11 =>
  Option.bind (qf (a0, y6)) fun r12 =>
  Option.bind (some (cond r12 (decide (r11 ≥ (0 : Int))) false)) fun m13 =>
  cond m13
  (kr false)
  (Option.bind (ZeC a0 y6) fun x14 =>
  Option.bind (qg x14.val) fun r15 =>
  cond (r15.2 != (0 : Int))
  (kr false)
  (Option.bind (ZeC a0 y6) fun x16 =>
  Option.bind (qh x16.val) fun r17 =>
  Option.bind (cond (((!r17) && (!((decide (r11 ≥ (0 : Int))) != (decide (r15.1 ≤ (2000 : Int)))))) && (decide (r11 ≥ (0 : Int)))) (ZeC a4 r11) (some YeG)) fun x18 =>
  Option.bind (cond (((!r17) && (!((decide (r11 ≥ (0 : Int))) != (decide (r15.1 ≤ (2000 : Int)))))) && (decide (r11 ≥ (0 : Int)))) (ZeC a0 y6) (some YeG)) fun x19 =>
  Option.bind (cond (((!r17) && (!((decide (r11 ≥ (0 : Int))) != (decide (r15.1 ≤ (2000 : Int)))))) && (decide (r11 ≥ (0 : Int)))) (qi (x18.val, x19.val)) (some false)) fun r20 =>
  Option.bind (cond ((!r17) && (!((decide (r11 ≥ (0 : Int))) != (decide (r15.1 ≤ (2000 : Int)))))) (some (cond (decide (r11 ≥ (0 : Int))) (!r20) false)) (some (!r20))) fun m21 =>
  Option.bind (cond (!r17) (some (cond ((decide (r11 ≥ (0 : Int))) != (decide (r15.1 ≤ (2000 : Int)))) true m21)) (some true)) fun m22 =>
  Option.bind (some (cond (!r17) m22 false)) fun m23 =>
  cond m23
  (kr false)
  (k y2 (IntKind.i64.wrap (y6 + (1 : Int)))))))
  (kx0 y2)
def ZcK (qa : T8a) (qb : T8b) (qc : T8c) (qd : T8d) (qe : T8e) (qf : T8f) (qg : T8g) (qh : T8h) (qi : T8i) (n : Nat) (p0 : List Cus) : Option Bool :=
  Option.bind (qa ()) fun r1 =>
  Option.bind (qb p0) fun r2 =>
  Option.bind (some (cond r2 true (!r1))) fun m3 =>
  cond m3
  (some r1)
  (Option.bind (qc p0) fun r4 =>
  cond (r4.2 != (0 : Int))
  (Option.bind (some (cond r1 ((r4.1.length : Int) == (0 : Int)) false)) fun m5 =>
  some m5)
  (Zgp (Zbt qa qb qc qd qe qf qg qh qi n p0 r1 r4.1 (fun z6 =>
  Option.bind (cond r1 (qd r4.1) (some (0 : Int))) fun r7 =>
  Option.bind (some (cond r1 (r7 == (0 : Int)) false)) fun m8 =>
  some m8) (fun z9 =>
  some z9)) n false (0 : Int)))
abbrev ZiH (qa : T8a) (qb : T8b) (qc : T8c) (qd : T8d) (qe : T8e) (qf : T8f) (qg : T8g) (qh : T8h) (qi : T8i) : List (Nat × TCall X) := [(8, ⟨true, [], [4], qa⟩), (10, ⟨true, [.ty 23], [4], qb⟩), (16, ⟨true, [.ty 23], [23, 28], qc⟩), (22, ⟨true, [.ty 23], [28], qd⟩), (17, ⟨true, [.ty 23, .ty 9], [3], qe⟩), (26, ⟨true, [.ty 23, .ty 3], [4], qf⟩), (24, ⟨true, [.ty 22], [3, 28], qg⟩), (14, ⟨true, [.ty 22], [4], qh⟩), (15, ⟨true, [.ty 22, .ty 22], [4], qi⟩)]
noncomputable abbrev ZaV (qa : T8a) (qb : T8b) (qc : T8c) (qd : T8d) (qe : T8e) (qf : T8f) (qg : T8g) (qh : T8h) (qi : T8i) : Cx := ⟨C, U, ZiH qa qb qc qd qe qf qg qh qi, [], fun _ => []⟩
theorem ZhJ : okF (C.ann 6) Tryz.f6 1 = true := by kernel_rfl
abbrev law30_VarsCycles_L0_D : LD := ⟨0, [.val 0 23, .val 3 4, .val 4 23], [.val 2 4, .val 6 2], [(0, [.val 2 4])], [.val 2 4]⟩
abbrev ZbJ (qa : T8a) (qb : T8b) (qc : T8c) (qd : T8d) (qe : T8e) (qf : T8f) (qg : T8g) (qh : T8h) (qi : T8i) (n : Nat) : LG U (PX X [4]) law30_VarsCycles_L0_D := fun c kx kr y k => Zbt qa qb qc qd qe qf qg qh qi n c.1 c.2.1 c.2.2.1 (fun z0 => kx 0 (z0, ())) (fun z0 => kr (z0, ())) y.1 y.2.1 (fun z0 z1 => k (z0, z1, ()))
noncomputable abbrev ZbK (qa : T8a) (qb : T8b) (qc : T8c) (qd : T8d) (qe : T8e) (qf : T8f) (qg : T8g) (qh : T8h) (qi : T8i) (n : Nat) : Ze9 (ZaV qa qb qc qd qe qf qg qh qi) (PX X [4]) := [(0, ZfA U law30_VarsCycles_L0_D (ZbJ qa qb qc qd qe qf qg qh qi n) n)]
theorem ZgB (qa : T8a) (qb : T8b) (qc : T8c) (qd : T8d) (qe : T8e) (qf : T8f) (qg : T8g) (qh : T8h) (qi : T8i) (n : Nat) : ∀ c kx kr y k1, evL (ZaV qa qb qc qd qe qf qg qh qi) (ann 6) (ZbK qa qb qc qd qe qf qg qh qi n) 0 (Zat (Zac Tryz.f6) 0) (ZeN U law30_VarsCycles_L0_D kx kr k1) (encS U law30_VarsCycles_L0_D.cap law30_VarsCycles_L0_D.din c y) = ZbJ qa qb qc qd qe qf qg qh qi n c (fun i z => kx i c z) kr y (fun y2 => k1 c y2) := by
  intro c kx kr y k1
  kernel_rfl
theorem Zix (qa : T8a) (qb : T8b) (qc : T8c) (qd : T8d) (qe : T8e) (qf : T8f) (qg : T8g) (qh : T8h) (qi : T8i) (n : Nat) : ∀ a, fnL (ZaV qa qb qc qd qe qf qg qh qi) true 6 Tryz.f6 [.ty 23] [4] (ZbK qa qb qc qd qe qf qg qh qi n) a = ZcK qa qb qc qd qe qf qg qh qi n a := by
  intro a
  kernel_rfl
theorem Zeu {K : Zaa} (qa : T8a) (qb : T8b) (qc : T8c) (qd : T8d) (qe : T8e) (qf : T8f) (qg : T8g) (qh : T8h) (qi : T8i) (h0 : P8a K qa) (h1 : P8b K qb) (h2 : P8c K qc) (h3 : P8d K qd) (h4 : P8e K qe) (h5 : P8f K qf) (h6 : P8g K qg) (h7 : P8h K qh) (h8 : P8i K qi) : CallsOk (ZaV qa qb qc qd qe qf qg qh qi) (Zab C K) :=
  ⟨(Zag h0 (Zag h1 (Zag h2 (Zag h3 (Zag h4 (Zag h5 (Zag h6 (Zag h7 (Zag h8 ZaB))))))))), ZaC⟩
theorem ZfZ {K : Zaa} (qa : T8a) (qb : T8b) (qc : T8c) (qd : T8d) (qe : T8e) (qf : T8f) (qg : T8g) (qh : T8h) (qi : T8i) (h0 : P8a K qa) (h1 : P8b K qb) (h2 : P8c K qc) (h3 : P8d K qd) (h4 : P8e K qe) (h5 : P8f K qf) (h6 : P8g K qg) (h7 : P8h K qh) (h8 : P8i K qi) (n : Nat) (b0 : Base) (bn0 : b0.nr ≤ 0) : Law (ZaV qa qb qc qd qe qf qg qh qi) b0 (Zab C K) (ann 6) n (Zat (Zac Tryz.f6) 0) (ZfA U law30_VarsCycles_L0_D (ZbJ qa qb qc qd qe qf qg qh qi n) n) :=
  ZdA (x := ZaV qa qb qc qd qe qf qg qh qi) (id := 0) ok (Zeu qa qb qc qd qe qf qg qh qi h0 h1 h2 h3 h4 h5 h6 h7 h8) (sums := ZbK qa qb qc qd qe qf qg qh qi n) (Zau (show Zaq 0 (Zat (Zac Tryz.f6) 0) = [] by kernel_rfl)) law30_VarsCycles_L0_D bn0 (ZbJ qa qb qc qd qe qf qg qh qi n) (ZgB qa qb qc qd qe qf qg qh qi n)
theorem Zgo {K : Zaa} (hK : ∀ args h, K 6 args h = none) (qa : T8a) (qb : T8b) (qc : T8c) (qd : T8d) (qe : T8e) (qf : T8f) (qg : T8g) (qh : T8h) (qi : T8i) (h0 : P8a K qa) (h1 : P8b K qb) (h2 : P8c K qc) (h3 : P8d K qd) (h4 : P8e K qe) (h5 : P8f K qf) (h6 : P8g K qg) (h7 : P8h K qh) (h8 : P8i K qi) (t : PX X (AK.tys [.ty 23]) → Option (PX X [4])) (h : ∀ a r, t a = some r → ∃ n, ZcK qa qb qc qd qe qf qg qh qi n a = some r) : Zaj U (Zab C K) 6 ⟨true, [.ty 23], [4], t⟩ := by
  refine Zav (x := ZaV qa qb qc qd qe qf qg qh qi) (ak := [.ty 23]) (rts := [4]) (dir := true) ok (Zeu qa qb qc qd qe qf qg qh qi h0 h1 h2 h3 h4 h5 h6 h7 h8) hK Tryz.func6 ZhJ fun a r hr => ?_
  obtain ⟨n, hn⟩ := h a r hr
  exact ⟨n, ZbK qa qb qc qd qe qf qg qh qi n, (Zby (ids := [0]) (by kernel_rfl) (by decide) (fun i hi => by
    simp only [List.mem_cons, List.not_mem_nil, or_false] at hi
    rcases hi with rfl
    · exact Zbw (c2 := Zat (Zac Tryz.f6) 0) (by kernel_rfl) (by kernel_rfl) (ZfZ qa qb qc qd qe qf qg qh qi h0 h1 h2 h3 h4 h5 h6 h7 h8 _ _ (Nat.le_refl _))
    )), (Zix qa qb qc qd qe qf qg qh qi n a).trans hn⟩
end Go.Tev.S1
namespace Go.Tev.S1
open Go.Abs Go.Proofs
end Go.Tev.S1
namespace Go.Tev.S1
open Go.Abs Go.Proofs
mutual
theorem Zvb : ∀ v : Val, v.hasv = false → v.uses = []
  | .mk t l, h => by
    rw [Val.hasv_eq, Bool.or_eq_false_iff] at h
    rw [Val.uses_eq, h.1, show Za8 (Val.mk t l).l = [] from ZhN l h.2]
    rfl
theorem ZhN : ∀ l : List Val, Zbd l = false → Za8 l = []
  | [], _ => rfl
  | v :: r, h => by
    rw [Zbd, Bool.or_eq_false_iff] at h
    rw [Za8, Zvb v h.1, ZhN r h.2]
    rfl
end
end Go.Tev.S1
namespace Go.Tev.S1
open Go.Abs Go.Proofs
theorem YaM {l : List Val} (h : ZaN l = 0) : YcT l = ((Zak l : Int), 0) := by unfold YcT; rw [if_pos h]
theorem dge (n : Nat) : decide ((n : Int) ≥ 0) = true := by simp
theorem ZvR {lk : Lk} {l : List Val} (h : Zbd l = false) (hc : ZaN l = 0) : Zgl lk l = (l, 0) := by
  unfold Zgl
  rw [Znw _ l h]
  simp only [h, and_false, Bool.false_eq_true, if_false, ZtC _ l h, hc, if_true]
theorem Yb0 {l : List Val} (h : Zbd l = false) : ∀ n, n ∉ Za8 l := by
  intro n hn
  rw [ZhN l h] at hn
  cases hn
theorem ZuP {G : Nd} {a b : List UInt8} (h : Path G a b) : ∃ m, Edge G a m := by
  cases h with
  | one h => exact ⟨_, h⟩
  | step h _ => exact ⟨_, h⟩
theorem Dn.noloop {raw c : List Cus} (D : Dn raw c) {x : Cus} (hx : x ∈ raw) (h : Zbd x.val = false) : ¬ Zme raw x.name := fun hp => by
  obtain ⟨m, hm⟩ := ZuP hp
  exact Yb0 h m ((ZhL D.nd hx).1 hm).1
open Classical in
theorem Zqn {raw c : List Cus} (D : Dn raw c) {i : Nat} {x : Cus} (hx : raw[i]? = some x) {R : Type} (n : Nat) (kx0 kr : Bool → Option R) (y : Bool) (k : Bool → Int → Option R) :
    Zbt (fun _ => some true) Zjh ZpP Ydx ZvJ Zup Ydh ZxT Zqd n raw true c kx0 kr y (i : Int) k = k y ((i + 1 : Nat) : Int) := by
  have hm := List.mem_of_getElem? hx
  have hlt : i < raw.length := (List.getElem?_eq_some_iff.1 hx).1
  have hi : IntKind.i64.wrap ((i : Int) + 1) = ((i + 1 : Nat) : Int) := Zbh (by have := D.le; omega)
  have hcB : c.length ≤ B := D.okc.1
  have hg := Zbx hx
  simp only [Zbt, dlt hlt, cond_true, hg, Option.bind_some, ZsP hcB, ZwL D hx, Ybm (D.tot hm), YaM (D.chk hm), Zny (D.tot hm), hi]
  rcases Zui c x.name 0 with ⟨h1, h2⟩ | ⟨j, z, h1, h2, h3⟩
  · have h1 : ZcE c x.name 0 = -1 := h1
    rw [h1]
    have e : decide ((-1 : Int) ≥ 0) = false := by decide
    simp only [e, Bool.cond_self, cond_false, Bool.and_false, Bool.false_bne, Option.bind_some, show ((0 : Int) != 0) = false from rfl]
    cases hv : Zbd x.val with
    | true => simp only [Bool.not_true, Bool.false_and, Bool.and_false, cond_false, Option.bind_some]
    | false =>
      have h4 := D.val hm (D.noloop hm hv)
      rw [h2] at h4
      have h5 : ¬ (Zak x.val ≤ 2000) := fun h => by
        unfold ZsY at h4
        rw [ZvR hv (D.chk hm)] at h4
        rw [show (decide (((x.val, (0 : Int)).2) = 0) && decide ((Zak (x.val, (0 : Int)).1 : Int) ≤ 2000)) = true by simp; omega] at h4
        cases h4
      have h6 : decide ((Zak x.val : Int) ≤ 2000) = false := by simp; omega
      simp only [h6, Bool.not_false, cond_true, Bool.and_false, cond_false, Option.bind_some, Bool.not_true]
      rfl
  · have h1 : ZcE c x.name 0 = (j : Int) := by simpa using h1
    rw [h1]
    have hnc : ¬ Zme raw x.name := fun h => by rw [D.loop h] at h3; cases h3
    simp only [dge, decide_eq_false hnc, cond_false, cond_true, Bool.and_true, Option.bind_some, show ((0 : Int) != 0) = false from rfl, Bool.true_bne]
    cases hv : Zbd x.val with
    | true => simp only [Bool.not_true, Bool.false_and, cond_false, Option.bind_some]
    | false =>
      have h4 := D.val hm hnc
      rw [h3] at h4
      obtain ⟨h5, h6⟩ := Zw1 h4.symm
      rw [ZvR hv (D.chk hm)] at h5
      have h7 : z.val = x.val := (Prod.mk.inj h5).1.symm
      have h8 : decide ((Zak x.val : Int) ≤ 2000) = true := by rw [h7] at h6; simp; omega
      simp only [h8, Bool.not_false, Bool.not_true, cond_true, cond_false, Bool.and_true, Option.bind_some, Zbx h2, hg, h7, Ztz (D.tot hm) (D.tot hm), Zl4]
open Classical in
theorem Zux (raw : List Cus) (hok : Zi2 raw) : ZcK (fun _ => some true) Zjh ZpP Ydx ZvJ Zup Ydh ZxT Zqd (raw.length + 1) raw = some true := by
  obtain ⟨b, hb⟩ := ZrL hok
  unfold ZcK
  simp only [Option.bind_some, hb, Zxu hok]
  cases b
  case true => rfl
  simp only [Bool.not_true, cond_true, cond_false, Option.bind_some]
  cases e : ((ZgF raw).2 != 0)
  case true =>
    rw [Zuj (by simpa using e)]
    rfl
  have D := Yej hok (by simpa using e)
  simp only [cond_false]
  refine (Zc3 raw (fun (_ : Unit) => false) (fun _ v => .inl ()) (fun _ => some true) (fun i b => True) ?_ (fun _ _ _ _ _ _ _ => trivial) ?_ () trivial _ (Nat.lt_succ_self _)).trans ?_
  · intro i b v k hv _ _
    exact Zqn D hv _ _ _ _ _
  · intro b k _
    simp only [Zbt, ZqY, cond_false, Ya3 D.okc, D.chkc, cond_true, Option.bind_some]
    rfl
  · rw [Zd0 (fun (_ : Unit) _ => ())]
noncomputable def Ybv (raw : List Cus) : Option Bool := open Classical in if Zi2 raw then some true else none
theorem Zp5 : Zaj U (Zab C Kz) 6 ⟨true, [.ty 23], [4], Ybv⟩ :=
  Zgo (kf Zd9 6 (by decide)) _ _ _ _ _ _ _ _ _ Ycb (Zzc Zd9) YaZ (Ycn Zd9) (YaC Zd9) Zxl (Zyx Zd9) (Yby Zd9) (Ydj Zd9) _ fun a r h => by
    have h : Ybv a = some r := h
    unfold Ybv at h
    split at h
    · rename_i h3; cases h; exact ⟨_, Zux a h3⟩
    · cases h
end Go.Tev.S1
