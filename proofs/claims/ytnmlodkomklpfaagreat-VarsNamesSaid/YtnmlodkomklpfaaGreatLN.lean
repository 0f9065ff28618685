/- A certified evaluator for the walked functions, and their contracts, for the laws of the variables. -/
import Derived.Test.YtnmlodkomklpfaaGreatLH
import Derived.Test.YtnmlodkomklpfaaGreatLI
import Derived.Test.YtnmlodkomklpfaaGreatLM
import Derived.Test.YtnmlodkomklpfaaGreatLJ
import Derived.Test.YtnmlodkomklpfaaGreatLG
set_option linter.unusedVariables false
set_option linter.unusedSimpArgs false
namespace Go.Tev.S1
open Go.Abs Go.Proofs
abbrev T5a : Type := (List Val) × (List Val) → Option Bool
abbrev T5b : Type := (List Cus) → Option Bool
abbrev T5c : Type := (List Cus) → Option (List Cus)
abbrev T5d : Type := (List Val) → Option Int
abbrev P5a (K : Zaa) (t : T5a) : Prop := ZaC U (Zac C K) 15 ⟨true, [.ty 22, .ty 22], [4], t⟩
abbrev P5b (K : Zaa) (t : T5b) : Prop := ZaC U (Zac C K) 42 ⟨true, [.ty 23], [4], t⟩
abbrev P5c (K : Zaa) (t : T5c) : Prop := ZaC U (Zac C K) 43 ⟨true, [.ty 23], [23], t⟩
abbrev P5d (K : Zaa) (t : T5d) : Prop := ZaC U (Zac C K) 33 ⟨true, [.ty 22], [28], t⟩
def Zeq (qa : T5a) {R : Type} (n : Nat) (a0 : List Cus) (a1 : List Cus) (kx0 : Bool → Option R) (kr : Bool → Option R) (y4 : Bool) (y5 : Int) (k : Bool → Int → Option R) : Option R :=
  cond (decide (y5 < (a0.length : Int)))
  (Option.bind (ZfX a0 y5) fun x3 =>
  Option.bind (ZfX a1 y5) fun x4 =>
  Option.bind (cond (!(x3.name != x4.name)) (ZfX a0 y5) (some zCus)) fun x5 =>
  Option.bind (cond (!(x3.name != x4.name)) (ZfX a1 y5) (some zCus)) fun x6 =>
  Option.bind (cond (!(x3.name != x4.name)) (qa (x5.val, x6.val)) (some false)) fun r7 =>
  Option.bind (some (cond (x3.name != x4.name) true (!r7))) fun m8 =>
  cond m8
  (kr false)
  (k y4 (IntKind.i64.wrap (y5 + (1 : Int)))))
  (kx0 y4)
def Zfs (qa : T5a) (n : Nat) (p0 : List Cus) (p1 : List Cus) : Option Bool :=
  cond ((p0.length : Int) != (p1.length : Int))
  (some false)
  (Zhy (Zeq qa n p0 p1 (fun z1 =>
  some true) (fun z2 =>
  some z2)) n false (0 : Int))
abbrev Zqm (qa : T5a) : List (Nat × TCall X) := [(15, ⟨true, [.ty 22, .ty 22], [4], qa⟩)]
noncomputable abbrev ZcJ (qa : T5a) : Cx := ⟨C, U, Zqm qa, [], fun _ => []⟩
theorem Zod : okF (C.ann 18) Tryz.f18 2 = true := by kernel_rfl
abbrev ref30_Same_L0_D : LD := ⟨0, [.val 0 23, .val 1 23], [.val 4 4, .val 5 2], [(0, [.val 4 4])], [.val 4 4]⟩
abbrev Zdr (qa : T5a) (n : Nat) : LG U (PX X [4]) ref30_Same_L0_D := fun c kx kr y k => Zeq qa n c.1 c.2.1 (fun z0 => kx 0 (z0, ())) (fun z0 => kr (z0, ())) y.1 y.2.1 (fun z0 z1 => k (z0, z1, ()))
noncomputable abbrev Zdm (qa : T5a) (n : Nat) : ZfY (ZcJ qa) (PX X [4]) := [(0, Zgy U ref30_Same_L0_D (Zdr qa n) n)]
theorem ZkW (qa : T5a) (n : Nat) : ∀ c kx kr y k1, evL (ZcJ qa) (ann 18) (Zdm qa n) 0 (ZaH (Zad Tryz.f18) 0) (Zfx U ref30_Same_L0_D kx kr k1) (encS U ref30_Same_L0_D.cap ref30_Same_L0_D.din c y) = Zdr qa n c (fun i z => kx i c z) kr y (fun y2 => k1 c y2) := by
  intro c kx kr y k1
  kernel_rfl
theorem Zo7 (qa : T5a) (n : Nat) : ∀ a, fnL (ZcJ qa) true 18 Tryz.f18 [.ty 23, .ty 23] [4] (Zdm qa n) a = Zfs qa n a.1 a.2 := by
  intro a
  kernel_rfl
theorem ZiK {K : Zaa} (qa : T5a) (h0 : P5a K qa) : CallsOk (ZcJ qa) (Zac C K) :=
  ⟨(Zap h0 Zbc), Zbb⟩
theorem Zjv {K : Zaa} (qa : T5a) (h0 : P5a K qa) (n : Nat) (b0 : Base) (bn0 : b0.nr ≤ 0) : Law (ZcJ qa) b0 (Zac C K) (ann 18) n (ZaH (Zad Tryz.f18) 0) (Zgy U ref30_Same_L0_D (Zdr qa n) n) :=
  Zen (x := ZcJ qa) (id := 0) ok (ZiK qa h0) (sums := Zdm qa n) (ZaR (show ZaD 0 (ZaH (Zad Tryz.f18) 0) = [] by kernel_rfl)) ref30_Same_L0_D bn0 (Zdr qa n) (ZkW qa n)
theorem Zj5 {K : Zaa} (hK : ∀ args h, K 18 args h = none) (qa : T5a) (h0 : P5a K qa) (t : PX X (AK.tys [.ty 23, .ty 23]) → Option (PX X [4])) (h : ∀ a r, t a = some r → ∃ n, Zfs qa n a.1 a.2 = some r) : ZaC U (Zac C K) 18 ⟨true, [.ty 23, .ty 23], [4], t⟩ := by
  refine ZaY (x := ZcJ qa) (ak := [.ty 23, .ty 23]) (rts := [4]) (dir := true) ok (ZiK qa h0) hK Tryz.func18 Zod fun a r hr => ?_
  obtain ⟨n, hn⟩ := h a r hr
  exact ⟨n, Zdm qa n, (Zci (ids := [0]) (by kernel_rfl) (by decide) (fun i hi => by
    simp only [List.mem_cons, List.not_mem_nil, or_false] at hi
    rcases hi with rfl
    · exact Zch (c2 := ZaH (Zad Tryz.f18) 0) (by kernel_rfl) (by kernel_rfl) (Zjv qa h0 _ _ (Nat.le_refl _))
    )), (Zo7 qa n a).trans hn⟩
def ZeC (qb : T5b) (qc : T5c) (qd : T5d) {R : Type} (n : Nat) (a0 : List Cus) (a13 : List Cus) (a14 : Int) (kx0 : List Cus → Int → Option R) (kr : List Cus → Int → Option R) (y2 : List Cus) (y3 : Int) (y15 : Int) (k : List Cus → Int → Int → Option R) : Option R :=
  cond (decide (y15 < a14))
  (Option.bind (ZfX a13 y15) fun x7 =>
  Option.bind (qd x7.val) fun r8 =>
  cond (r8 != (0 : Int))
  (kr [] r8)
  (k y2 y3 (IntKind.i64.wrap (y15 + (1 : Int)))))
  (kx0 y2 y3)
def Zhg (qb : T5b) (qc : T5c) (qd : T5d) (n : Nat) (p0 : List Cus) : Option ((List Cus) × Int) :=
  cond (decide ((p0.length : Int) > (64 : Int)))
  (some ([], (4 : Int)))
  (Option.bind (qb p0) fun r1 =>
  cond (!r1)
  (some ([], (8 : Int)))
  (ZqY (ZeC qb qc qd n p0 p0 (p0.length : Int) (fun z2 z3 =>
  Option.bind (qc p0) fun r4 =>
  some (r4, (0 : Int))) (fun z5 z6 =>
  some (z5, z6))) n [] (0 : Int) (0 : Int)))
abbrev ZpE (qb : T5b) (qc : T5c) (qd : T5d) : List (Nat × TCall X) := [(42, ⟨true, [.ty 23], [4], qb⟩), (43, ⟨true, [.ty 23], [23], qc⟩), (33, ⟨true, [.ty 22], [28], qd⟩)]
noncomputable abbrev ZcO (qb : T5b) (qc : T5c) (qd : T5d) : Cx := ⟨C, U, ZpE qb qc qd, [], fun _ => []⟩
theorem ZnM : okF (C.ann 16) Tryz.f16 1 = true := by kernel_rfl
abbrev vars_Solve_L0_D : LD := ⟨0, [.val 0 23, .val 13 23, .val 14 2], [.val 2 23, .val 3 2, .val 15 2], [(0, [.val 2 23, .val 3 2])], [.val 2 23, .val 3 28]⟩
abbrev ZdG (qb : T5b) (qc : T5c) (qd : T5d) (n : Nat) : LG U (PX X [23, 28]) vars_Solve_L0_D := fun c kx kr y k => ZeC qb qc qd n c.1 c.2.1 c.2.2.1 (fun z0 z1 => kx 0 (z0, z1, ())) (fun z0 z1 => kr (z0, z1, ())) y.1 y.2.1 y.2.2.1 (fun z0 z1 z2 => k (z0, z1, z2, ()))
noncomputable abbrev ZdH (qb : T5b) (qc : T5c) (qd : T5d) (n : Nat) : ZfY (ZcO qb qc qd) (PX X [23, 28]) := [(0, Zgy U vars_Solve_L0_D (ZdG qb qc qd n) n)]
theorem ZkU (qb : T5b) (qc : T5c) (qd : T5d) (n : Nat) : ∀ c kx kr y k1, evL (ZcO qb qc qd) (ann 16) (ZdH qb qc qd n) 0 (ZaH (Zad Tryz.f16) 0) (Zfx U vars_Solve_L0_D kx kr k1) (encS U vars_Solve_L0_D.cap vars_Solve_L0_D.din c y) = ZdG qb qc qd n c (fun i z => kx i c z) kr y (fun y2 => k1 c y2) := by
  intro c kx kr y k1
  kernel_rfl
theorem Zo3 (qb : T5b) (qc : T5c) (qd : T5d) (n : Nat) : ∀ a, fnL (ZcO qb qc qd) true 16 Tryz.f16 [.ty 23] [23, 28] (ZdH qb qc qd n) a = Zhg qb qc qd n a := by
  intro a
  kernel_rfl
theorem ZiY {K : Zaa} (qb : T5b) (qc : T5c) (qd : T5d) (h0 : P5b K qb) (h1 : P5c K qc) (h2 : P5d K qd) : CallsOk (ZcO qb qc qd) (Zac C K) :=
  ⟨(Zap h0 (Zap h1 (Zap h2 Zbc))), Zbb⟩
theorem ZjC {K : Zaa} (qb : T5b) (qc : T5c) (qd : T5d) (h0 : P5b K qb) (h1 : P5c K qc) (h2 : P5d K qd) (n : Nat) (b0 : Base) (bn0 : b0.nr ≤ 0) : Law (ZcO qb qc qd) b0 (Zac C K) (ann 16) n (ZaH (Zad Tryz.f16) 0) (Zgy U vars_Solve_L0_D (ZdG qb qc qd n) n) :=
  Zen (x := ZcO qb qc qd) (id := 0) ok (ZiY qb qc qd h0 h1 h2) (sums := ZdH qb qc qd n) (ZaR (show ZaD 0 (ZaH (Zad Tryz.f16) 0) = [] by kernel_rfl)) vars_Solve_L0_D bn0 (ZdG qb qc qd n) (ZkU qb qc qd n)
theorem Zj8 {K : Zaa} (hK : ∀ args h, K 16 args h = none) (qb : T5b) (qc : T5c) (qd : T5d) (h0 : P5b K qb) (h1 : P5c K qc) (h2 : P5d K qd) (t : PX X (AK.tys [.ty 23]) → Option (PX X [23, 28])) (h : ∀ a r, t a = some r → ∃ n, Zhg qb qc qd n a = some r) : ZaC U (Zac C K) 16 ⟨true, [.ty 23], [23, 28], t⟩ := by
  refine ZaY (x := ZcO qb qc qd) (ak := [.ty 23]) (rts := [23, 28]) (dir := true) ok (ZiY qb qc qd h0 h1 h2) hK Tryz.func16 ZnM fun a r hr => ?_
  obtain ⟨n, hn⟩ := h a r hr
  exact ⟨n, ZdH qb qc qd n, (Zci (ids := [0]) (by kernel_rfl) (by decide) (fun i hi => by
    simp only [List.mem_cons, List.not_mem_nil, or_false] at hi
    rcases hi with rfl
    · exact Zch (c2 := ZaH (Zad Tryz.f16) 0) (by kernel_rfl) (by kernel_rfl) (ZjC qb qc qd h0 h1 h2 _ _ (Nat.le_refl _))
    )), (Zo3 qb qc qd n a).trans hn⟩
end Go.Tev.S1
namespace Go.Tev.S1
open Go.Abs Go.Proofs
theorem Zpj {c : List Cus} (h : Srt c) : (c.map Cus.name).Nodup := by
  unfold List.Nodup
  rw [List.pairwise_map]
  exact h.imp fun {a b} hab e => by rw [e, ZhX] at hab; cases hab
theorem Zq3 : ∀ {p : Option (List UInt8)} {c : List Cus}, namL p c = true → Srt c
  | _, [], _ => List.Pairwise.nil
  | p, y :: c, h => by
    obtain ⟨_, h2⟩ := Zlf h
    exact List.pairwise_cons.2 ⟨fun x hx => Zvg h2 x hx, Zq3 h2⟩
theorem Yac : ∀ {p : Option (List UInt8)} {c : List Cus}, namL p c = true → [] ∉ c.map Cus.name
  | _, [], _ => by simp
  | p, y :: c, h => by
    have h1 : Zco y.name = true := by
      rw [namL.eq_def] at h
      simp only [Bool.and_eq_true] at h
      exact h.1.1
    obtain ⟨_, h2⟩ := Zlf h
    rw [List.map_cons, List.mem_cons]
    rintro (h3 | h3)
    · exact Zqi h1 h3.symm
    · exact Yac h2 h3
def ZqS : List Cus → Int
  | [] => 0
  | v :: r => if Za0 v.val = 0 then ZqS r else Za0 v.val
open Classical in
noncomputable def Zii (raw : List Cus) : List Cus × Int := if raw.length > 64 then ([], 4) else if namL none raw = false then ([], 8) else if ZqS raw = 0 then (Zfr raw (Zcy raw), 0) else ([], ZqS raw)
noncomputable def ZvV (raw : List Cus) : Option (List Cus × Int) := if Zgv raw then some (Zii raw) else none
theorem Zvi {raw : List Cus} (h : Zgv raw) : ZvV raw = some (Zii raw) := if_pos h
theorem Ybj {R : Type} (z : Int → Option R) (k : Option R) (l : List Cus) : ZlH (fun (_ : Unit) v => if Za0 v.val = 0 then .inl () else .inr (z (Za0 v.val))) (fun _ => k) l () = if ZqS l = 0 then k else z (ZqS l) := by
  induction l with
  | nil => rfl
  | cons v l ih =>
    simp only [ZlH]
    by_cases h : Za0 v.val = 0
    · have e : ZqS (v :: l) = ZqS l := by rw [ZqS, if_pos h]
      rw [if_pos h, e]; exact ih
    · have e : ZqS (v :: l) = Za0 v.val := by rw [ZqS, if_neg h]
      rw [if_neg h, e, if_neg h]
theorem Zu8 {raw : List Cus} (hok : Zgv raw) {v : Cus} (hv : v ∈ raw) : ZjY v.val = some (Za0 v.val) := by
  have hB : B = 2 ^ 36 := rfl
  have hV : V = 2 ^ 24 := rfl
  exact ZfB (Nat.le_trans (hok.2 v hv) (by rw [hB, hV]; decide))
theorem ZrU (raw : List Cus) (hok : Zgv raw) : Zhg Zpp ZlT ZjY (raw.length + 1) raw = some (Zii raw) := by
  unfold Zhg Zii
  by_cases h1 : raw.length > 64
  · have : decide ((raw.length : Int) > 64) = true := by simp; omega
    rw [this, if_pos h1]; rfl
  · have : decide ((raw.length : Int) > 64) = false := by simp; omega
    rw [this, if_neg h1]
    simp only [cond_false, Zqz hok.1, Option.bind_some]
    cases h2 : namL none raw with
    | false => rfl
    | true =>
      simp only [Bool.not_true, cond_false]
      rw [if_neg (by decide)]
      refine (Zhb raw (fun (_ : Unit) => ([] : List Cus)) (fun _ => (0 : Int)) (fun _ v => if Za0 v.val = 0 then .inl () else .inr (some (([] : List Cus), Za0 v.val))) (fun _ => some (Zfr raw (Zcy raw), (0 : Int))) (fun i b => True) ?_ ?_ ?_ () trivial _ (Nat.lt_succ_self _)).trans ?_
      · intro i b v k hv hlt hb
        have hi : IntKind.i64.wrap ((i : Int) + 1) = ((i + 1 : Nat) : Int) := wrap_add1 (by omega)
        simp only [ZeC, dlt hlt, cond_true, Zct hv, Option.bind_some, Zu8 hok (List.mem_of_getElem? hv), hi]
        by_cases h3 : Za0 v.val = 0
        · have e : (Za0 v.val != 0) = false := by simpa using h3
          rw [if_pos h3, e]; rfl
        · have e : (Za0 v.val != 0) = true := by simpa using h3
          rw [if_neg h3, e]; rfl
      · intro i b v b' _ _ _; trivial
      · intro b k hb
        simp only [ZeC, ZrM, cond_false, ZtP (Zpj (Zq3 h2)) hok, Option.bind_some]
      · rw [Ybj (fun e => some (([] : List Cus), e))]
        split <;> rfl
open Classical in
noncomputable def ZsN (a : List Cus × List Cus) : Option Bool := if a.1 = a.2 ∧ Zgv a.1 then some true else none
theorem ZvL {c : List Cus} (h : Zgv c) : ZsN (c, c) = some true := if_pos ⟨rfl, h⟩
theorem Zuf (c : List Cus) (hok : Zgv c) : Zfs ZoX (c.length + 1) c c = some true := by
  have hB : B = 2 ^ 36 := rfl
  have hV : V = 2 ^ 24 := rfl
  have hl := hok.1
  rw [hB] at hl
  unfold Zfs
  have e0 : ((c.length : Int) != (c.length : Int)) = false := by simp
  rw [e0]
  simp only [cond_false]
  refine (ZdX c (fun (_ : Unit) => false) (fun _ v => .inl ()) (fun _ => some true) (fun i b => True) ?_ ?_ ?_ () trivial _ (Nat.lt_succ_self _)).trans ?_
  · intro i b v k hv hlt hb
    have hi : IntKind.i64.wrap ((i : Int) + 1) = ((i + 1 : Nat) : Int) := wrap_add1 (by omega)
    have hx := hok.2 v (List.mem_of_getElem? hv)
    have hx2 : Zaz v.val ≤ B := Nat.le_trans hx (by rw [hB, hV]; decide)
    have e1 : (v.name != v.name) = false := by simp
    simp only [Zeq, dlt hlt, cond_true, Zct hv, Option.bind_some, e1, Bool.not_false, cond_false, Zsg hx2 hx2, Zla, Bool.not_true, hi]
  · intro i b v b' _ _ _; trivial
  · intro b k hb
    simp only [Zeq, ZrM, cond_false]
  · rw [Zef (fun (_ : Unit) _ => ())]
theorem YaU {K : Zaa} (hK : Zde K) : ZaC U (Zac C K) 18 ⟨true, [.ty 23, .ty 23], [4], ZsN⟩ :=
  Zj5 (kf hK 18 (by decide)) _ (Ydy hK) _ fun a r h => by
    have h : ZsN a = some r := h
    unfold ZsN at h
    split at h
    · rename_i h3
      cases h
      have e : a.2 = a.1 := h3.1.symm
      refine ⟨List.length a.1 + 1, ?_⟩
      have h5 : Zfs ZoX (List.length a.1 + 1) a.1 a.2 = some true := by rw [e]; exact Zuf a.1 h3.2
      exact h5
    · cases h
structure Dn (raw : List Cus) (c : List Cus) : Prop where
  ok : Zgv raw
  le : raw.length ≤ 64
  nam : namL none raw = true
  err : ZqS raw = 0
  eq : c = Zfr raw (Zcy raw)
theorem ZoN : ∀ {raw : List Cus}, ZqS raw = 0 → ∀ x ∈ raw, Za0 x.val = 0
  | [], _, x, hx => by cases hx
  | v :: r, h, x, hx => by
    rw [ZqS] at h
    split at h
    · rename_i h1
      rcases List.mem_cons.1 hx with rfl | hx
      · exact h1
      · exact ZoN h x hx
    · rename_i h1; exact absurd h h1
theorem Zuh (raw : List Cus) : OkS (Zcy raw) := by
  have okS : ∀ (n : Nat) (Sv Op : Mv), OkS Sv → OkS (ZhE raw n Sv Op) := by
    intro n
    induction n with
    | zero => intro Sv Op h; exact h
    | succ n ih =>
      intro Sv Op h
      simp only [ZhE]
      split
      · exact ih _ _ (ZuZ h _)
      · exact h
  exact okS _ [] (Zi1 raw) fun p hp => by simp at hp
section
variable {raw c : List Cus} (D : Dn raw c)
include D
theorem Dn.nd : (raw.map Cus.name).Nodup := Zpj (Zq3 D.nam)
theorem Dn.sol : Sol raw (lkM (Zcy raw)) := Zja D.nd (Yac D.nam)
theorem Dn.lk (n : List UInt8) : lkC c n = lkM (Zcy raw) n := by rw [D.eq]; exact Yb2 D.nd D.sol.out n
theorem Dn.lkf : lkC c = lkM (Zcy raw) := funext D.lk
theorem Dn.chk {x : Cus} (hx : x ∈ raw) : Za0 x.val = 0 := ZoN D.err x hx
theorem Dn.tot {x : Cus} (hx : x ∈ raw) : Zaz x.val ≤ B := Nat.le_trans (D.ok.2 x hx) (by decide)
theorem Dn.val {x : Cus} (hx : x ∈ raw) (h : ¬ ZoK raw x.name) : lkC c x.name = ZoL (lkC c) x := by rw [D.lkf]; exact D.sol.val x hx h
theorem Dn.loop {n : List UInt8} (h : ZoK raw n) : lkC c n = none := by rw [D.lk]; exact D.sol.loop n h
theorem Dn.mem {y : Cus} (hy : y ∈ c) : (∃ x ∈ raw, x.name = y.name) ∧ lkM (Zcy raw) y.name = some y.val := by
  rw [D.eq] at hy
  unfold Zfr at hy
  obtain ⟨x, hx, he⟩ := List.mem_filterMap.1 hy
  cases hm : Zbu BEq.beq x.name (Zcy raw) with
  | none => rw [hm] at he; cases he
  | some u =>
    rw [hm] at he
    cases he
    exact ⟨⟨x, hx, rfl⟩, hm⟩
theorem Dn.small {y : Cus} (hy : y ∈ c) : Zaz y.val ≤ 2000 ∧ ZbD y.val = false := by
  obtain ⟨p, hp, h⟩ := Zxh (D.mem hy).2
  rw [← h]
  exact Zuh raw p hp
theorem Dn.okc : Zgv c := by
  refine ⟨?_, fun y hy => Nat.le_trans (D.small hy).1 (by decide)⟩
  rw [D.eq]
  exact Nat.le_trans (ZsR _ _) D.ok.1
end
end Go.Tev.S1
namespace Go.Tev.S1
open Go.Abs Go.Proofs
theorem A26 : (ann 26).nt = 65 ∧ (ann 26).keep = [0, 1, 4, 5, 6, 7, 8, 10, 11, 19, 37, 48, 57] ∧ (ann 26).take = [6] ∧ (ann 26).heapy = [] ∧ (ann 26).frz = [31, 45] ∧ (ann 26).lend = [] := ⟨rfl, rfl, rfl, rfl, rfl, rfl⟩
noncomputable abbrev B26 : Code := Zad Tryz.f26
noncomputable abbrev ZyV : Code := sq1 B26
noncomputable abbrev ZzU : Code := sq1 (sq2 B26)
noncomputable abbrev Zie : Code := sq1 (sq2 (sq2 B26))
noncomputable abbrev L26 : Code := inn (inn (sq1 (sq2 (sq2 (sq2 B26)))))
noncomputable abbrev ZhB : Code := sq1 (sq1 L26)
noncomputable abbrev K26 : Code := inn (sq2 L26)
noncomputable abbrev Zgp : Code := sq1 K26
noncomputable abbrev Zgr : Code := sq1 (sq2 K26)
noncomputable abbrev Zvz : Code := sq1 (sq2 (sq2 K26))
noncomputable abbrev ZwD : Code := sq1 (sq2 (sq2 (sq2 K26)))
noncomputable abbrev Y26 : Code := inn (inn (sq2 (sq2 (sq2 (sq2 K26)))))
noncomputable abbrev Zt1 : Code := sq1 (sq1 Y26)
noncomputable abbrev M26 : Code := inn (sq1 (sq2 Y26))
noncomputable abbrev Zt6 : Code := sq2 (sq2 Y26)
noncomputable abbrev ZlP : Code := sq1 M26
noncomputable abbrev Zlv : Code := sq1 (sq1 (sq2 M26))
noncomputable abbrev ZlN : Code := sq1 (cn1 (sq2 (sq1 (sq2 M26))))
noncomputable abbrev Zir : Code := sq1 (sq2 (sq2 M26))
noncomputable abbrev Zlx : Code := sq1 (cn1 (sq2 (sq2 (sq2 M26))))
noncomputable abbrev ZcR : Code := sq2 (cn1 (sq2 (sq2 (sq2 M26))))
noncomputable abbrev Zs0 : Code := sq1 (sq2 (sq2 (sq2 (sq2 B26))))
theorem YcD : Tryz.f26.body = some (.seq ZyV (.seq ZzU (.seq Zie (.seq (.block 0 (.loop (.seq (.seq ZhB (.cond (.tmp 19) .skip (.exit 0)))
  (.block 1 (.seq Zgp (.seq Zgr (.seq Zvz (.seq ZwD (.block 2 (.loop (.seq (.seq Zt1 (.cond (.tmp 37) .skip (.exit 2)))
    (.seq (.block 3 (.seq ZlP (.seq (.seq Zlv (.cond (.tmp 48) (.seq ZlN .ret) .skip)) (.seq Zir (.cond (.tmp 57) (.seq Zlx ZcR) .skip))))) Zt6)))))))))))) (.seq Zs0 .ret))))) := by kernel_rfl
theorem Zy1 : okC (C.ann 26) ZyV = true ∧ okC (C.ann 26) ZzU = true ∧ okC (C.ann 26) Zvz = true ∧ okC (C.ann 26) ZwD = true ∧ okC (C.ann 26) Zt1 = true ∧ okC (C.ann 26) Zt6 = true ∧ okC (C.ann 26) ZlP = true ∧ okC (C.ann 26) Zlv = true ∧ okC (C.ann 26) ZlN = true ∧ okC (C.ann 26) Zir = true ∧ okC (C.ann 26) Zlx = true ∧ okC (C.ann 26) Zs0 = true := by
  refine ⟨?_, ?_, ?_, ?_, ?_, ?_, ?_, ?_, ?_, ?_, ?_, ?_⟩ <;> kernel_rfl
theorem ez77 : C.elemZero 77 = some (.bool false) := by kernel_rfl
theorem Yfg : C.elemSize 77 = some 1 := by kernel_rfl
theorem eo77 : C.elemOk 77 1 = true := by kernel_rfl
theorem eb77 : C.elemBytes 77 = some 1 := by kernel_rfl
theorem Ydm : C.elemSize 78 = some 1 := by kernel_rfl
theorem eo78 : C.elemOk 78 1 = true := by kernel_rfl
theorem eb78 : C.elemBytes 78 = some 8 := by kernel_rfl
theorem hz78 : C.hasZero 78 = true := by kernel_rfl
theorem ag3 : C.isAgg 3 = some false := by kernel_rfl
theorem ag4z : C.isAgg 4 = some false := by kernel_rfl
theorem sz4z : C.size 4 = some 1 := by kernel_rfl
theorem es31 : C.elemSize 31 = some 1 := by kernel_rfl
theorem rm77 {n : Nat} (h : n ≤ 2 ^ 40) : ZbL C 77 n = true := by
  simp only [ZbL, eb77, Bool.and_eq_true, Nat.ble_eq]
  exact ⟨by omega, by omega⟩
theorem rm78 {n : Nat} (h : n ≤ 2 ^ 40) : ZbL C 78 n = true := by
  simp only [ZbL, eb78, Bool.and_eq_true, Nat.ble_eq]
  exact ⟨by omega, by omega⟩
def Yas (n : Nat) (f : Nat → Bool) : List AV := (List.range n).map fun j => AV.d (.bool (f j))
theorem Zvw {n : Nat} {f : Nat → Bool} {j : Nat} (h : j < n) : (Yas n f)[j]? = some (.d (.bool (f j))) := by
  unfold Yas
  rw [List.getElem?_map, List.getElem?_range h]
  rfl
theorem Ybe {n : Nat} {f : Nat → Bool} {j : Nat} : (Yas n f).set j (.d (.bool true)) = Yas n (fun b => if b = j then true else f b) := by
  apply List.ext_getElem?
  intro k
  rw [List.getElem?_set]
  unfold Yas
  simp only [List.getElem?_map, List.length_map, List.length_range]
  rcases Nat.lt_or_ge k n with hk | hk
  · rw [List.getElem?_range hk]
    by_cases e : j = k
    · subst e; simp [hk]
    · have e2 : k ≠ j := fun h => e h.symm
      simp [e, e2]
  · rw [List.getElem?_eq_none (by simpa using hk)]
    by_cases e : j = k
    · subst e; simp; omega
    · simp [e]
def hS (n : Nat) (f : Nat → Bool) : List AObj := [.arr 0 true (Yas n f)]
def eA (raw : List Cus) (fr : Nat) (v : Value) : List (Nat × SV) := [(0, .val (.d (d44 raw))), (1, .val (.d (.int .i64 fr))), (4, .val (.d (.bool false))), (5, .val (.osl 0 0 raw.length)), (6, .val (.raw v))]
def eB (raw : List Cus) (fr : Nat) (v : Value) : List (Nat × SV) := eA raw fr v ++ [(19, .val (.d (.bool true)))]
def eC (raw : List Cus) (fr : Nat) (v : Value) (i : Nat) : List (Nat × SV) := eB raw fr v ++ [(7, .val (.d (.int .i64 i)))]
def eD (raw : List Cus) (fr : Nat) (v : Value) (i : Nat) (us : List (List UInt8)) : List (Nat × SV) := eC raw fr v i ++ [(8, .val (.d (.slc (us.map DV.str))))]
def eE (raw : List Cus) (fr : Nat) (v : Value) (i : Nat) (us : List (List UInt8)) (k : Nat) : List (Nat × SV) := eD raw fr v i us ++ [(10, .val (.d (.int .i64 k)))]
def eF (raw : List Cus) (fr : Nat) (v : Value) (i : Nat) (us : List (List UInt8)) (k : Nat) : List (Nat × SV) := eE raw fr v i us k ++ [(37, .val (.d (.bool true)))]
def eG (raw : List Cus) (fr : Nat) (v : Value) (i : Nat) (us : List (List UInt8)) (k : Nat) (z : Int) : List (Nat × SV) := eF raw fr v i us k ++ [(11, .val (.d (.int .i64 z)))]
theorem Ycg {call : Zaa} (raw : List Cus) (fr : Nat) : evQ C call (ann 26) 0 ZyV ⟨Zgo 0 [.d (d44 raw), .d (.int .i64 fr)], [], []⟩ = some (.norm ⟨[(0, .val (.d (d44 raw))), (1, .val (.d (.int .i64 fr))), (4, .val (.d (.bool false)))], [], []⟩) := by
  unfold ZyV B26 Zad Tryz.f26 d44
  simp only [Option.getD_some, sq1, sq2]
  simp [-getElem?_pos, List.getElem?_cons_zero, Option.bind_some, Zgw, ZbR, Zbp, ZaW, ZbC, Za8, ZaM, ZcG, ZbB, Za7, Zbz, Zby, ZcH, ZbA, Za9, ZaK, ZcB, Zau, Zaw, Zeh, ZaQ, Zbs, Zbm, Zbx, Zbn, has, opx, opd, opA, opD, XV.flat, XV.copy, oD, oA, Zab, ins, ZeT, Zcg, St.put, St.putOwn, St.lose, St.loseEnv, unal, Zem, Zep, ZfC, dUn, Zdk, Zag, ZaV, ZaX, ZaF, Zal, ZaZ, Za1, ZaU, Zd2, ZaG, AV.cells, AV.cellOk, AV.single, DV.cellOk, Zgs, Zgt, Zgx, DV.cells, Zak, Zb1, Zah, ZaS, Zam, ZaL, ZeB, Zaq, ZcF, mapO, AV.toD, Zai, ZaO, ZbO, optD, ZaT, ZaE, Zca, Zae, ZaP, Zay, Zao, Zbl, ZbF, ZaI, St.trim, Out.st, A26, Zan, Zgo]
theorem Ycm (n : Nat) : List.replicate n (AV.d (.bool false)) = Yas n fun _ => false := by
  apply List.ext_getElem?
  intro k
  unfold Yas
  rw [List.getElem?_map, List.getElem?_replicate]
  rcases Nat.lt_or_ge k n with hk | hk
  · rw [List.getElem?_range hk, if_pos hk]; rfl
  · rw [List.getElem?_eq_none (by simpa using hk), if_neg (by omega)]; rfl
theorem YaI {call : Zaa} (raw : List Cus) (fr : Nat) (hl : raw.length ≤ 2 ^ 40) : evQ C call (ann 26) 0 ZzU ⟨[(0, .val (.d (d44 raw))), (1, .val (.d (.int .i64 fr))), (4, .val (.d (.bool false)))], [], []⟩ =
    some (.norm ⟨[(0, .val (.d (d44 raw))), (1, .val (.d (.int .i64 fr))), (4, .val (.d (.bool false))), (5, .val (.osl 0 0 raw.length))], [], hS raw.length fun _ => false⟩) := by
  have hr := rm77 hl
  unfold ZzU B26 Zad Tryz.f26 d44 hS
  simp only [Option.getD_some, sq1, sq2]
  simp [-getElem?_pos, List.getElem?_cons_zero, Option.bind_some, Zgw, ZbR, Zbp, ZaW, ZbC, Za8, ZaM, ZcG, ZbB, Za7, Zbz, Zby, ZcH, ZbA, Za9, ZaK, ZcB, Zau, Zaw, Zeh, ZaQ, Zbs, Zbm, Zbx, Zbn, has, opx, opd, opA, opD, XV.flat, XV.copy, oD, oA, Zab, ins, ZeT, Zcg, St.put, St.putOwn, St.lose, St.loseEnv, unal, Zem, Zep, ZfC, dUn, Zdk, Zag, ZaV, ZaX, ZaF, Zal, ZaZ, Za1, ZaU, Zd2, ZaG, AV.cells, AV.cellOk, AV.single, DV.cellOk, Zgs, Zgt, Zgx, DV.cells, Zak, Zb1, Zah, ZaS, Zam, ZaL, ZeB, Zaq, ZcF, mapO, AV.toD, Zai, ZaO, ZbO, optD, ZaT, ZaE, Zca, Zae, ZaP, Zay, Zao, Zbl, ZbF, ZaI, St.trim, Out.st, A26, Zan, ez77, Yfg, eo77, hr, ZrQ, Ycm]
theorem Ybi {call : Zaa} (raw : List Cus) (fr : Nat) (v : Value) (i : Nat) (us : List (List UInt8)) (h : List AObj) : evQ C call (ann 26) 0 ZwD ⟨eD raw fr v i us, [], h⟩ = some (.norm ⟨eE raw fr v i us 0, [], h⟩) := by
  unfold ZwD K26 L26 B26 Zad Tryz.f26 eE eD eC eB eA
  simp only [Option.getD_some, sq1, sq2, inn]
  simp [-getElem?_pos, List.getElem?_cons_zero, Option.bind_some, Zgw, ZbR, Zbp, ZaW, ZbC, Za8, ZaM, ZcG, ZbB, Za7, Zbz, Zby, ZcH, ZbA, Za9, ZaK, ZcB, Zau, Zaw, Zeh, ZaQ, Zbs, Zbm, Zbx, Zbn, has, opx, opd, opA, opD, XV.flat, XV.copy, oD, oA, Zab, ins, ZeT, Zcg, St.put, St.putOwn, St.lose, St.loseEnv, unal, Zem, Zep, ZfC, dUn, Zdk, Zag, ZaV, ZaX, ZaF, Zal, ZaZ, Za1, ZaU, Zd2, ZaG, AV.cells, AV.cellOk, AV.single, DV.cellOk, Zgs, Zgt, Zgx, DV.cells, Zak, Zb1, Zah, ZaS, Zam, ZaL, ZeB, Zaq, ZcF, mapO, AV.toD, Zai, ZaO, ZbO, optD, ZaT, ZaE, Zca, Zae, ZaP, Zay, Zao, Zbl, ZbF, ZaI, St.trim, Out.st, A26, Zan]
theorem Ybw {call : Zaa} (raw : List Cus) (fr : Nat) (v : Value) (i : Nat) (x : Cus) (hx : raw[i]? = some x) (us : List (List UInt8)) (h : List AObj)
    (hc : Zcz call true 13 [.slc (x.val.map Val.enc)] = some (.tup [.slc (us.map DV.str), .int .i64 0])) : evQ C call (ann 26) 0 Zvz ⟨eC raw fr v i, [], h⟩ = some (.norm ⟨eD raw fr v i us, [], h⟩) := by
  have hlt : i < raw.length := (List.getElem?_eq_some_iff.1 hx).1
  have hg := Zk1 hx
  have hi := Ycy hlt
  unfold Zvz K26 L26 B26 Zad Tryz.f26 eD eC eB eA d44
  simp only [Option.getD_some, sq1, sq2, inn]
  simp [-getElem?_pos, List.getElem?_cons_zero, Option.bind_some, Zgw, ZbR, Zbp, ZaW, ZbC, Za8, ZaM, ZcG, ZbB, Za7, Zbz, Zby, ZcH, ZbA, Za9, ZaK, ZcB, Zau, Zaw, Zeh, ZaQ, Zbs, Zbm, Zbx, Zbn, has, opx, opd, opA, opD, XV.flat, XV.copy, oD, oA, Zab, ins, ZeT, Zcg, St.put, St.putOwn, St.lose, St.loseEnv, unal, Zem, Zep, ZfC, dUn, Zdk, Zag, ZaV, ZaX, ZaF, Zal, ZaZ, Za1, ZaU, Zd2, ZaG, AV.cells, AV.cellOk, AV.single, DV.cellOk, Zgs, Zgt, Zgx, DV.cells, Zak, Zb1, Zah, ZaS, Zam, ZaL, ZeB, Zaq, ZcF, mapO, AV.toD, Zai, ZaO, ZbO, optD, ZaT, ZaE, Zca, Zae, ZaP, Zay, Zao, Zbl, ZbF, ZaI, St.trim, Out.st, A26, Zan, ZrQ, hg, hi, hc, ZnK, Zx3, ZxZ, -List.getElem?_map]
theorem Zvf {call : Zaa} (raw : List Cus) (fr : Nat) (v : Value) (i : Nat) (us : List (List UInt8)) (k : Nat) (h : List AObj) : evQ C call (ann 26) 0 Zt1 ⟨eE raw fr v i us k, [], h⟩ = some (.norm ⟨eE raw fr v i us k ++ [(37, .val (.d (.bool (decide (k < us.length)))))], [], h⟩) := by
  unfold Zt1 Y26 K26 L26 B26 Zad Tryz.f26 eE eD eC eB eA
  simp only [Option.getD_some, sq1, sq2, inn]
  simp [-getElem?_pos, List.getElem?_cons_zero, Option.bind_some, Zgw, ZbR, Zbp, ZaW, ZbC, Za8, ZaM, ZcG, ZbB, Za7, Zbz, Zby, ZcH, ZbA, Za9, ZaK, ZcB, Zau, Zaw, Zeh, ZaQ, Zbs, Zbm, Zbx, Zbn, has, opx, opd, opA, opD, XV.flat, XV.copy, oD, oA, Zab, ins, ZeT, Zcg, St.put, St.putOwn, St.lose, St.loseEnv, unal, Zem, Zep, ZfC, dUn, Zdk, Zag, ZaV, ZaX, ZaF, Zal, ZaZ, Za1, ZaU, Zd2, ZaG, AV.cells, AV.cellOk, AV.single, DV.cellOk, Zgs, Zgt, Zgx, DV.cells, Zak, Zb1, Zah, ZaS, Zam, ZaL, ZeB, Zaq, ZcF, mapO, AV.toD, Zai, ZaO, ZbO, optD, ZaT, ZaE, Zca, Zae, ZaP, Zay, Zao, Zbl, ZbF, ZaI, St.trim, Out.st, A26, Zan, es31]
theorem Ybu {call : Zaa} (raw : List Cus) (fr : Nat) (v : Value) (i : Nat) (us : List (List UInt8)) (k : Nat) (hk : k < 2 ^ 40) (h : List AObj) : evQ C call (ann 26) 0 Zt6 ⟨eF raw fr v i us k, [], h⟩ = some (.norm ⟨eE raw fr v i us (k + 1) ++ [(37, .val (.d (.bool true)))], [], h⟩) := by
  have hw : IntKind.i64.wrap ((k : Int) + 1) = (k : Int) + 1 := wrap_add1 (by omega)
  unfold Zt6 Y26 K26 L26 B26 Zad Tryz.f26 eF eE eD eC eB eA
  simp only [Option.getD_some, sq1, sq2, inn]
  simp [-getElem?_pos, List.getElem?_cons_zero, Option.bind_some, Zgw, ZbR, Zbp, ZaW, ZbC, Za8, ZaM, ZcG, ZbB, Za7, Zbz, Zby, ZcH, ZbA, Za9, ZaK, ZcB, Zau, Zaw, Zeh, ZaQ, Zbs, Zbm, Zbx, Zbn, has, opx, opd, opA, opD, XV.flat, XV.copy, oD, oA, Zab, ins, ZeT, Zcg, St.put, St.putOwn, St.lose, St.loseEnv, unal, Zem, Zep, ZfC, dUn, Zdk, Zag, ZaV, ZaX, ZaF, Zal, ZaZ, Za1, ZaU, Zd2, ZaG, AV.cells, AV.cellOk, AV.single, DV.cellOk, Zgs, Zgt, Zgx, DV.cells, Zak, Zb1, Zah, ZaS, Zam, ZaL, ZeB, Zaq, ZcF, mapO, AV.toD, Zai, ZaO, ZbO, optD, ZaT, ZaE, Zca, Zae, ZaP, Zay, Zao, Zbl, ZbF, ZaI, St.trim, Out.st, A26, Zan, hw]
theorem Zzd {call : Zaa} (raw : List Cus) (fr : Nat) (v : Value) (i : Nat) (us : List (List UInt8)) (k : Nat) (u : List UInt8) (hu : us[k]? = some u) (z : Int) (h : List AObj) (hc : Zcz call true 17 [d44 raw, .str u] = some (.int .i64 z)) :
    evQ C call (ann 26) 0 ZlP ⟨eF raw fr v i us k, [], h⟩ = some (.norm ⟨eG raw fr v i us k z, [], h⟩) := by
  have hlt : k < us.length := (List.getElem?_eq_some_iff.1 hu).1
  have hg : (us.map DV.str)[k]? = some (.str u) := by rw [List.getElem?_map, hu]; rfl
  have hi : idx (k : Int) us.length = some k := Zts hlt
  unfold ZlP M26 Y26 K26 L26 B26 Zad Tryz.f26 eG eF eE eD eC eB eA
  simp only [Option.getD_some, sq1, sq2, inn]
  simp [-getElem?_pos, List.getElem?_cons_zero, Option.bind_some, Zgw, ZbR, Zbp, ZaW, ZbC, Za8, ZaM, ZcG, ZbB, Za7, Zbz, Zby, ZcH, ZbA, Za9, ZaK, ZcB, Zau, Zaw, Zeh, ZaQ, Zbs, Zbm, Zbx, Zbn, has, opx, opd, opA, opD, XV.flat, XV.copy, oD, oA, Zab, ins, ZeT, Zcg, St.put, St.putOwn, St.lose, St.loseEnv, unal, Zem, Zep, ZfC, dUn, Zdk, Zag, ZaV, ZaX, ZaF, Zal, ZaZ, Za1, ZaU, Zd2, ZaG, AV.cells, AV.cellOk, AV.single, DV.cellOk, Zgs, Zgt, Zgx, DV.cells, Zak, Zb1, Zah, ZaS, Zam, ZaL, ZeB, Zaq, ZcF, mapO, AV.toD, Zai, ZaO, ZbO, optD, ZaT, ZaE, Zca, Zae, ZaP, Zay, Zao, Zbl, ZbF, ZaI, St.trim, Out.st, A26, Zan, es31, hg, hi, hc, hz9, ag9, -List.getElem?_map]
theorem Ztw {call : Zaa} (raw : List Cus) (fr : Nat) (v : Value) (i : Nat) (us : List (List UInt8)) (k : Nat) (z : Int) (h : List AObj) : evQ C call (ann 26) 0 Zlv ⟨eG raw fr v i us k z, [], h⟩ = some (.norm ⟨eG raw fr v i us k z ++ [(48, .val (.d (.bool (z == (fr : Int)))))], [], h⟩) := by
  unfold Zlv M26 Y26 K26 L26 B26 Zad Tryz.f26 eG eF eE eD eC eB eA
  simp only [Option.getD_some, sq1, sq2, inn]
  simp [-getElem?_pos, List.getElem?_cons_zero, Option.bind_some, Zgw, ZbR, Zbp, ZaW, ZbC, Za8, ZaM, ZcG, ZbB, Za7, Zbz, Zby, ZcH, ZbA, Za9, ZaK, ZcB, Zau, Zaw, Zeh, ZaQ, Zbs, Zbm, Zbx, Zbn, has, opx, opd, opA, opD, XV.flat, XV.copy, oD, oA, Zab, ins, ZeT, Zcg, St.put, St.putOwn, St.lose, St.loseEnv, unal, Zem, Zep, ZfC, dUn, Zdk, Zag, ZaV, ZaX, ZaF, Zal, ZaZ, Za1, ZaU, Zd2, ZaG, AV.cells, AV.cellOk, AV.single, DV.cellOk, Zgs, Zgt, Zgx, DV.cells, Zak, Zb1, Zah, ZaS, Zam, ZaL, ZeB, Zaq, ZcF, mapO, AV.toD, Zai, ZaO, ZbO, optD, ZaT, ZaE, Zca, Zae, ZaP, Zay, Zao, Zbl, ZbF, ZaI, St.trim, Out.st, A26, Zan]
end Go.Tev.S1
namespace Go.Tev.S1
open Go.Abs Go.Proofs
theorem ZxN {call : Zaa} (raw : List Cus) (fr : Nat) (v : Value) (i : Nat) (us : List (List UInt8)) (k : Nat) (z : Int) (h : List AObj) : evQ C call (ann 26) 0 ZlN ⟨eG raw fr v i us k z ++ [(48, .val (.d (.bool true)))], [], h⟩ = some (.norm ⟨Zdk (eG raw fr v i us k z ++ [(48, .val (.d (.bool true)))]) 4 (.val (.d (.bool true))), [], h⟩) := by
  unfold ZlN M26 Y26 K26 L26 B26 Zad Tryz.f26 eG eF eE eD eC eB eA
  simp only [Option.getD_some, sq1, sq2, inn, cn1]
  simp [-getElem?_pos, List.getElem?_cons_zero, Option.bind_some, Zgw, ZbR, Zbp, ZaW, ZbC, Za8, ZaM, ZcG, ZbB, Za7, Zbz, Zby, ZcH, ZbA, Za9, ZaK, ZcB, Zau, Zaw, Zeh, ZaQ, Zbs, Zbm, Zbx, Zbn, has, opx, opd, opA, opD, XV.flat, XV.copy, oD, oA, Zab, ins, ZeT, Zcg, St.put, St.putOwn, St.lose, St.loseEnv, unal, Zem, Zep, ZfC, dUn, Zdk, Zag, ZaV, ZaX, ZaF, Zal, ZaZ, Za1, ZaU, Zd2, ZaG, AV.cells, AV.cellOk, AV.single, DV.cellOk, Zgs, Zgt, Zgx, DV.cells, Zak, Zb1, Zah, ZaS, Zam, ZaL, ZeB, Zaq, ZcF, mapO, AV.toD, Zai, ZaO, ZbO, optD, ZaT, ZaE, Zca, Zae, ZaP, Zay, Zao, Zbl, ZbF, ZaI, St.trim, Out.st, A26, Zan]
def eH (raw : List Cus) (fr : Nat) (v : Value) (i : Nat) (us : List (List UInt8)) (k : Nat) (z : Int) : List (Nat × SV) := eG raw fr v i us k z ++ [(48, .val (.d (.bool false)))]
theorem ZvD {call : Zaa} (raw : List Cus) (fr : Nat) (v : Value) (i : Nat) (us : List (List UInt8)) (k : Nat) (z : Int) (hz : z < 0) (h : List AObj) : evQ C call (ann 26) 0 Zir ⟨eH raw fr v i us k z, [], h⟩ = some (.norm ⟨eH raw fr v i us k z ++ [(57, .val (.d (.bool false)))], [], h⟩) := by
  have hd : decide (z ≥ 0) = false := by simp; omega
  have hn : ¬ (0 ≤ z) := by omega
  unfold Zir M26 Y26 K26 L26 B26 Zad Tryz.f26 eH eG eF eE eD eC eB eA
  simp only [Option.getD_some, sq1, sq2, inn]
  simp [-getElem?_pos, List.getElem?_cons_zero, Option.bind_some, Zgw, ZbR, Zbp, ZaW, ZbC, Za8, ZaM, ZcG, ZbB, Za7, Zbz, Zby, ZcH, ZbA, Za9, ZaK, ZcB, Zau, Zaw, Zeh, ZaQ, Zbs, Zbm, Zbx, Zbn, has, opx, opd, opA, opD, XV.flat, XV.copy, oD, oA, Zab, ins, ZeT, Zcg, St.put, St.putOwn, St.lose, St.loseEnv, unal, Zem, Zep, ZfC, dUn, Zdk, Zag, ZaV, ZaX, ZaF, Zal, ZaZ, Za1, ZaU, Zd2, ZaG, AV.cells, AV.cellOk, AV.single, DV.cellOk, Zgs, Zgt, Zgx, DV.cells, Zak, Zb1, Zah, ZaS, Zam, ZaL, ZeB, Zaq, ZcF, mapO, AV.toD, Zai, ZaO, ZbO, optD, ZaT, ZaE, Zca, Zae, ZaP, Zay, Zao, Zbl, ZbF, ZaI, St.trim, Out.st, A26, Zan, hd, hn, hz]
theorem Zvc {call : Zaa} (raw : List Cus) (fr : Nat) (v : Value) (i : Nat) (us : List (List UInt8)) (k : Nat) (z : Nat) (f : Nat → Bool) (hz : z < raw.length) : evQ C call (ann 26) 0 Zir ⟨eH raw fr v i us k z, [], hS raw.length f⟩ = some (.norm ⟨eH raw fr v i us k z ++ [(57, .val (.d (.bool (!f z))))], [], hS raw.length f⟩) := by
  have hi : idx (z : Int) raw.length = some z := Zts hz
  have hg := Zvw (f := f) hz
  unfold Zir M26 Y26 K26 L26 B26 Zad Tryz.f26 eH eG eF eE eD eC eB eA hS
  simp only [Option.getD_some, sq1, sq2, inn]
  simp [-getElem?_pos, List.getElem?_cons_zero, Option.bind_some, Zgw, ZbR, Zbp, ZaW, ZbC, Za8, ZaM, ZcG, ZbB, Za7, Zbz, Zby, ZcH, ZbA, Za9, ZaK, ZcB, Zau, Zaw, Zeh, ZaQ, Zbs, Zbm, Zbx, Zbn, has, opx, opd, opA, opD, XV.flat, XV.copy, oD, oA, Zab, ins, ZeT, Zcg, St.put, St.putOwn, St.lose, St.loseEnv, unal, Zem, Zep, ZfC, dUn, Zdk, Zag, ZaV, ZaX, ZaF, Zal, ZaZ, Za1, ZaU, Zd2, ZaG, AV.cells, AV.cellOk, AV.single, DV.cellOk, Zgs, Zgt, Zgx, DV.cells, Zak, Zb1, Zah, ZaS, Zam, ZaL, ZeB, Zaq, ZcF, mapO, AV.toD, Zai, ZaO, ZbO, optD, ZaT, ZaE, Zca, Zae, ZaP, Zay, Zao, Zbl, ZbF, ZaI, St.trim, Out.st, A26, Zan, Yfg, Zel, hi, hg, ag4z]
theorem ZzB {call : Zaa} (raw : List Cus) (fr : Nat) (v : Value) (i : Nat) (us : List (List UInt8)) (k : Nat) (z : Nat) (f : Nat → Bool) (hz : z < raw.length) : evQ C call (ann 26) 0 Zlx ⟨eH raw fr v i us k z ++ [(57, .val (.d (.bool true)))], [], hS raw.length f⟩ =
    some (.norm ⟨eH raw fr v i us k z ++ [(57, .val (.d (.bool true)))], [], hS raw.length fun b => if b = z then true else f b⟩) := by
  have hi : idx (z : Int) raw.length = some z := Zts hz
  have hg := Zvw (f := f) hz
  have hs := Ybe (n := raw.length) (f := f) (j := z)
  unfold Zlx M26 Y26 K26 L26 B26 Zad Tryz.f26 eH eG eF eE eD eC eB eA hS
  simp only [Option.getD_some, sq1, sq2, inn, cn1]
  simp [-getElem?_pos, List.getElem?_cons_zero, Option.bind_some, Zgw, ZbR, Zbp, ZaW, ZbC, Za8, ZaM, ZcG, ZbB, Za7, Zbz, Zby, ZcH, ZbA, Za9, ZaK, ZcB, Zau, Zaw, Zeh, ZaQ, Zbs, Zbm, Zbx, Zbn, has, opx, opd, opA, opD, XV.flat, XV.copy, oD, oA, Zab, ins, ZeT, Zcg, St.put, St.putOwn, St.lose, St.loseEnv, unal, Zem, Zep, ZfC, dUn, Zdk, Zag, ZaV, ZaX, ZaF, Zal, ZaZ, Za1, ZaU, Zd2, ZaG, AV.cells, AV.cellOk, AV.single, DV.cellOk, Zgs, Zgt, Zgx, DV.cells, Zak, Zb1, Zah, ZaS, Zam, ZaL, ZeB, Zaq, ZcF, mapO, AV.toD, Zai, ZaO, ZbO, optD, ZaT, ZaE, Zca, Zae, ZaP, Zay, Zao, Zbl, ZbF, ZaI, St.trim, Out.st, A26, Zan, Yfg, Zel, hi, hg, ag4z, sz4z, Zed, ZqJ, hs]
theorem Zyj {call : Zaa} (raw : List Cus) (fr : Nat) (v : Value) (h : List AObj) : evQ C call (ann 26) 0 Zs0 ⟨eA raw fr v, [], h⟩ = some (.norm ⟨eA raw fr v, [], h⟩) := by
  unfold Zs0 B26 Zad Tryz.f26 eA
  simp only [Option.getD_some, sq1, sq2]
  simp [-getElem?_pos, List.getElem?_cons_zero, Option.bind_some, Zgw, ZbR, Zbp, ZaW, ZbC, Za8, ZaM, ZcG, ZbB, Za7, Zbz, Zby, ZcH, ZbA, Za9, ZaK, ZcB, Zau, Zaw, Zeh, ZaQ, Zbs, Zbm, Zbx, Zbn, has, opx, opd, opA, opD, XV.flat, XV.copy, oD, oA, Zab, ins, ZeT, Zcg, St.put, St.putOwn, St.lose, St.loseEnv, unal, Zem, Zep, ZfC, dUn, Zdk, Zag, ZaV, ZaX, ZaF, Zal, ZaZ, Za1, ZaU, Zd2, ZaG, AV.cells, AV.cellOk, AV.single, DV.cellOk, Zgs, Zgt, Zgx, DV.cells, Zak, Zb1, Zah, ZaS, Zam, ZaL, ZeB, Zaq, ZcF, mapO, AV.toD, Zai, ZaO, ZbO, optD, ZaT, ZaE, Zca, Zae, ZaP, Zay, Zao, Zbl, ZbF, ZaI, St.trim, Out.st, A26, Zan]
noncomputable abbrev nth (c : Code) (k : Nat) : Oper := op0 ((opsL c).drop k)
theorem q26_2 : Zie = .region 2 (ops Zie) false ∧ (ops Zie).toList = (opsL Zie).take 1 ++ nth Zie 1 :: (opsL Zie).drop 2 := ⟨by kernel_rfl, by kernel_rfl⟩
theorem q26_3 : ZhB = .region 3 (ops ZhB) false ∧ (ops ZhB).toList = (opsL ZhB).take 1 ++ nth ZhB 1 :: (opsL ZhB).drop 2 := ⟨by kernel_rfl, by kernel_rfl⟩
theorem q26_4 : Zgp = .region 4 (ops Zgp) false ∧ (ops Zgp).toList = (opsL Zgp).take 1 ++ nth Zgp 1 :: (opsL Zgp).drop 2 := ⟨by kernel_rfl, by kernel_rfl⟩
theorem q26_5 : Zgr = .region 5 (ops Zgr) false ∧ (ops Zgr).toList = (opsL Zgr).take 1 ++ nth Zgr 1 :: (opsL Zgr).drop 2 := ⟨by kernel_rfl, by kernel_rfl⟩
theorem q26_15 : ZcR = .region 15 (ops ZcR) false ∧ (ops ZcR).toList = (opsL ZcR).take 3 ++ nth ZcR 3 :: (opsL ZcR).drop 4 := ⟨by kernel_rfl, by kernel_rfl⟩
theorem Yfk : (nth Zie 1).guard = none ∧ (nth Zie 1).dst = some 16 ∧ (nth Zie 1).op = .buildSlice 78 1 #[(0, .tmp 15)] := ⟨by kernel_rfl, by kernel_rfl, by kernel_rfl⟩
theorem YfD : (nth ZhB 1).guard = none := by kernel_rfl
theorem YeJ : (nth Zgp 1).guard = none := by kernel_rfl
theorem YeH : (nth Zgr 1).guard = none ∧ (nth Zgr 1).dst = some 24 ∧ (nth Zgr 1).op = .slice 78 (.tmp 23) (some (.const (.int .i64 1))) none none := ⟨by kernel_rfl, by kernel_rfl, by kernel_rfl⟩
theorem Ydt : (nth ZcR 3).guard = none ∧ (nth ZcR 3).dst = some 64 ∧ (nth ZcR 3).op = .call { callee := .builtin .append, args := #[.tmp 61, .tmp 63], argTypes := #[78, 78] } := ⟨by kernel_rfl, by kernel_rfl, by kernel_rfl⟩
theorem Yeh {call : Zaa} {all : List Oper} (raw : List Cus) (fr : Nat) (h : List AObj) : Zan C call (ann 26) all ((opsL Zie).take 1) ⟨[(0, .val (.d (d44 raw))), (1, .val (.d (.int .i64 fr))), (4, .val (.d (.bool false))), (5, .val (.osl 0 0 raw.length))], [], h⟩ =
    some ⟨[(0, .val (.d (d44 raw))), (1, .val (.d (.int .i64 fr))), (4, .val (.d (.bool false))), (5, .val (.osl 0 0 raw.length))], [(15, .a (.d (.int .i64 fr)))], h⟩ := by
  unfold opsL ops Zie B26 Zad Tryz.f26
  simp only [Option.getD_some, sq1, sq2, List.take]
  simp [-getElem?_pos, List.getElem?_cons_zero, Option.bind_some, Zgw, ZbR, Zbp, ZaW, ZbC, Za8, ZaM, ZcG, ZbB, Za7, Zbz, Zby, ZcH, ZbA, Za9, ZaK, ZcB, Zau, Zaw, Zeh, ZaQ, Zbs, Zbm, Zbx, Zbn, has, opx, opd, opA, opD, XV.flat, XV.copy, oD, oA, Zab, ins, ZeT, Zcg, St.put, St.putOwn, St.lose, St.loseEnv, unal, Zem, Zep, ZfC, dUn, Zdk, Zag, ZaV, ZaX, ZaF, Zal, ZaZ, Za1, ZaU, Zd2, ZaG, AV.cells, AV.cellOk, AV.single, DV.cellOk, Zgs, Zgt, Zgx, DV.cells, Zak, Zb1, Zah, ZaS, Zam, ZaL, ZeB, Zaq, ZcF, mapO, AV.toD, Zai, ZaO, ZbO, optD, ZaT, ZaE, Zca, Zae, ZaP, Zay, Zao, Zbl, ZbF, ZaI, St.trim, Out.st, A26, Zan]
theorem Yfm (raw : List Cus) (fr : Nat) (h : List AObj) : Zae C 78 1 ⟨[(0, .val (.d (d44 raw))), (1, .val (.d (.int .i64 fr))), (4, .val (.d (.bool false))), (5, .val (.osl 0 0 raw.length))], [(15, .a (.d (.int .i64 fr)))], h⟩ [(0, .tmp 15)] = some [.int .i64 fr] := by
  simp [-getElem?_pos, List.getElem?_cons_zero, Option.bind_some, Zgw, ZbR, Zbp, ZaW, ZbC, Za8, ZaM, ZcG, ZbB, Za7, Zbz, Zby, ZcH, ZbA, Za9, ZaK, ZcB, Zau, Zaw, Zeh, ZaQ, Zbs, Zbm, Zbx, Zbn, has, opx, opd, opA, opD, XV.flat, XV.copy, oD, oA, Zab, ins, ZeT, Zcg, St.put, St.putOwn, St.lose, St.loseEnv, unal, Zem, Zep, ZfC, dUn, Zdk, Zag, ZaV, ZaX, ZaF, Zal, ZaZ, Za1, ZaU, Zd2, ZaG, AV.cells, AV.cellOk, AV.single, DV.cellOk, Zgs, Zgt, Zgx, DV.cells, Zak, Zb1, Zah, ZaS, Zam, ZaL, ZeB, Zaq, ZcF, mapO, AV.toD, Zai, ZaO, ZbO, optD, ZaT, ZaE, Zca, Zae, ZaP, Zay, Zao, Zbl, ZbF, ZaI, St.trim, Out.st, A26, Ydm, hz78]
theorem Ye5 {call : Zaa} {all : List Oper} (raw : List Cus) (fr : Nat) (v : Value) (h : List AObj) : Zan C call (ann 26) all ((opsL Zie).drop 2) ⟨[(0, .val (.d (d44 raw))), (1, .val (.d (.int .i64 fr))), (4, .val (.d (.bool false))), (5, .val (.osl 0 0 raw.length))], [(16, .a (.raw v)), (15, .a (.d (.int .i64 fr)))], h⟩ =
    some ⟨eA raw fr v, [(16, .a (.raw v)), (15, .a (.d (.int .i64 fr)))], h⟩ := by
  unfold opsL ops Zie B26 Zad Tryz.f26 eA
  simp only [Option.getD_some, sq1, sq2, List.drop]
  simp [-getElem?_pos, List.getElem?_cons_zero, Option.bind_some, Zgw, ZbR, Zbp, ZaW, ZbC, Za8, ZaM, ZcG, ZbB, Za7, Zbz, Zby, ZcH, ZbA, Za9, ZaK, ZcB, Zau, Zaw, Zeh, ZaQ, Zbs, Zbm, Zbx, Zbn, has, opx, opd, opA, opD, XV.flat, XV.copy, oD, oA, Zab, ins, ZeT, Zcg, St.put, St.putOwn, St.lose, St.loseEnv, unal, Zem, Zep, ZfC, dUn, Zdk, Zag, ZaV, ZaX, ZaF, Zal, ZaZ, Za1, ZaU, Zd2, ZaG, AV.cells, AV.cellOk, AV.single, DV.cellOk, Zgs, Zgt, Zgx, DV.cells, Zak, Zb1, Zah, ZaS, Zam, ZaL, ZeB, Zaq, ZcF, mapO, AV.toD, Zai, ZaO, ZbO, optD, ZaT, ZaE, Zca, Zae, ZaP, Zay, Zao, Zbl, ZbF, ZaI, St.trim, Out.st, A26, Zan]
theorem YeX {call : Zaa} {all : List Oper} (raw : List Cus) (fr : Nat) (v : Value) (h : List AObj) : Zan C call (ann 26) all ((opsL ZhB).take 1) ⟨eA raw fr v, [], h⟩ = some ⟨eA raw fr v, [(17, .a (.raw v))], h⟩ := by
  unfold opsL ops ZhB L26 B26 Zad Tryz.f26 eA
  simp only [Option.getD_some, sq1, sq2, inn, List.take]
  simp [-getElem?_pos, List.getElem?_cons_zero, Option.bind_some, Zgw, ZbR, Zbp, ZaW, ZbC, Za8, ZaM, ZcG, ZbB, Za7, Zbz, Zby, ZcH, ZbA, Za9, ZaK, ZcB, Zau, Zaw, Zeh, ZaQ, Zbs, Zbm, Zbx, Zbn, has, opx, opd, opA, opD, XV.flat, XV.copy, oD, oA, Zab, ins, ZeT, Zcg, St.put, St.putOwn, St.lose, St.loseEnv, unal, Zem, Zep, ZfC, dUn, Zdk, Zag, ZaV, ZaX, ZaF, Zal, ZaZ, Za1, ZaU, Zd2, ZaG, AV.cells, AV.cellOk, AV.single, DV.cellOk, Zgs, Zgt, Zgx, DV.cells, Zak, Zb1, Zah, ZaS, Zam, ZaL, ZeB, Zaq, ZcF, mapO, AV.toD, Zai, ZaO, ZbO, optD, ZaT, ZaE, Zca, Zae, ZaP, Zay, Zao, Zbl, ZbF, ZaI, St.trim, Out.st, A26, Zan]
theorem Yel {call : Zaa} (raw : List Cus) (fr : Nat) (v : Value) (qs : List Int) (h : List AObj) : Zeh C call (ann 26) (nth ZhB 1) ⟨eA raw fr v, [(17, .a (.d (ints qs)))], h⟩ = some ⟨eA raw fr v, [(18, .a (.d (.int .i64 qs.length))), (17, .a (.d (ints qs)))], h⟩ := by
  unfold nth op0 opsL ops ZhB L26 B26 Zad Tryz.f26 eA ints
  simp only [Option.getD_some, sq1, sq2, inn, List.drop, List.headD]
  simp [-getElem?_pos, List.getElem?_cons_zero, Option.bind_some, Zgw, ZbR, Zbp, ZaW, ZbC, Za8, ZaM, ZcG, ZbB, Za7, Zbz, Zby, ZcH, ZbA, Za9, ZaK, ZcB, Zau, Zaw, Zeh, ZaQ, Zbs, Zbm, Zbx, Zbn, has, opx, opd, opA, opD, XV.flat, XV.copy, oD, oA, Zab, ins, ZeT, Zcg, St.put, St.putOwn, St.lose, St.loseEnv, unal, Zem, Zep, ZfC, dUn, Zdk, Zag, ZaV, ZaX, ZaF, Zal, ZaZ, Za1, ZaU, Zd2, ZaG, AV.cells, AV.cellOk, AV.single, DV.cellOk, Zgs, Zgt, Zgx, DV.cells, Zak, Zb1, Zah, ZaS, Zam, ZaL, ZeB, Zaq, ZcF, mapO, AV.toD, Zai, ZaO, ZbO, optD, ZaT, ZaE, Zca, Zae, ZaP, Zay, Zao, Zbl, ZbF, ZaI, St.trim, Out.st, A26, Zan, Ydm]
theorem YeA {call : Zaa} {all : List Oper} (raw : List Cus) (fr : Nat) (v : Value) (qs : List Int) (h : List AObj) : Zan C call (ann 26) all ((opsL ZhB).drop 2) ⟨eA raw fr v, [(18, .a (.d (.int .i64 qs.length))), (17, .a (.d (ints qs)))], h⟩ =
    some ⟨eA raw fr v ++ [(19, .val (.d (.bool (decide (0 < qs.length)))))], [(18, .a (.d (.int .i64 qs.length))), (17, .a (.d (ints qs)))], h⟩ := by
  unfold opsL ops ZhB L26 B26 Zad Tryz.f26 eA
  simp only [Option.getD_some, sq1, sq2, inn, List.drop]
  simp [-getElem?_pos, List.getElem?_cons_zero, Option.bind_some, Zgw, ZbR, Zbp, ZaW, ZbC, Za8, ZaM, ZcG, ZbB, Za7, Zbz, Zby, ZcH, ZbA, Za9, ZaK, ZcB, Zau, Zaw, Zeh, ZaQ, Zbs, Zbm, Zbx, Zbn, has, opx, opd, opA, opD, XV.flat, XV.copy, oD, oA, Zab, ins, ZeT, Zcg, St.put, St.putOwn, St.lose, St.loseEnv, unal, Zem, Zep, ZfC, dUn, Zdk, Zag, ZaV, ZaX, ZaF, Zal, ZaZ, Za1, ZaU, Zd2, ZaG, AV.cells, AV.cellOk, AV.single, DV.cellOk, Zgs, Zgt, Zgx, DV.cells, Zak, Zb1, Zah, ZaS, Zam, ZaL, ZeB, Zaq, ZcF, mapO, AV.toD, Zai, ZaO, ZbO, optD, ZaT, ZaE, Zca, Zae, ZaP, Zay, Zao, Zbl, ZbF, ZaI, St.trim, Out.st, A26, Zan]
theorem YfK {call : Zaa} {all : List Oper} (raw : List Cus) (fr : Nat) (v : Value) (h : List AObj) : Zan C call (ann 26) all ((opsL Zgp).take 1) ⟨eB raw fr v, [], h⟩ = some ⟨eB raw fr v, [(20, .a (.raw v))], h⟩ := by
  unfold opsL ops Zgp K26 L26 B26 Zad Tryz.f26 eB eA
  simp only [Option.getD_some, sq1, sq2, inn, List.take]
  simp [-getElem?_pos, List.getElem?_cons_zero, Option.bind_some, Zgw, ZbR, Zbp, ZaW, ZbC, Za8, ZaM, ZcG, ZbB, Za7, Zbz, Zby, ZcH, ZbA, Za9, ZaK, ZcB, Zau, Zaw, Zeh, ZaQ, Zbs, Zbm, Zbx, Zbn, has, opx, opd, opA, opD, XV.flat, XV.copy, oD, oA, Zab, ins, ZeT, Zcg, St.put, St.putOwn, St.lose, St.loseEnv, unal, Zem, Zep, ZfC, dUn, Zdk, Zag, ZaV, ZaX, ZaF, Zal, ZaZ, Za1, ZaU, Zd2, ZaG, AV.cells, AV.cellOk, AV.single, DV.cellOk, Zgs, Zgt, Zgx, DV.cells, Zak, Zb1, Zah, ZaS, Zam, ZaL, ZeB, Zaq, ZcF, mapO, AV.toD, Zai, ZaO, ZbO, optD, ZaT, ZaE, Zca, Zae, ZaP, Zay, Zao, Zbl, ZbF, ZaI, St.trim, Out.st, A26, Zan]
theorem YfJ {call : Zaa} (raw : List Cus) (fr : Nat) (v : Value) (i : Int) (qs : List Int) (h : List AObj) : Zeh C call (ann 26) (nth Zgp 1) ⟨eB raw fr v, [(20, .a (.d (ints (i :: qs))))], h⟩ = some ⟨eB raw fr v, [(21, .fp [.int .i64 i]), (20, .a (.d (ints (i :: qs))))], h⟩ := by
  have h0 : idx 0 (qs.length + 1) = some 0 := by unfold idx; rw [if_pos (by constructor <;> omega)]; rfl
  unfold nth op0 opsL ops Zgp K26 L26 B26 Zad Tryz.f26 eB eA ints
  simp only [Option.getD_some, sq1, sq2, inn, List.drop, List.headD]
  simp [-getElem?_pos, List.getElem?_cons_zero, Option.bind_some, Zgw, ZbR, Zbp, ZaW, ZbC, Za8, ZaM, ZcG, ZbB, Za7, Zbz, Zby, ZcH, ZbA, Za9, ZaK, ZcB, Zau, Zaw, Zeh, ZaQ, Zbs, Zbm, Zbx, Zbn, has, opx, opd, opA, opD, XV.flat, XV.copy, oD, oA, Zab, ins, ZeT, Zcg, St.put, St.putOwn, St.lose, St.loseEnv, unal, Zem, Zep, ZfC, dUn, Zdk, Zag, ZaV, ZaX, ZaF, Zal, ZaZ, Za1, ZaU, Zd2, ZaG, AV.cells, AV.cellOk, AV.single, DV.cellOk, Zgs, Zgt, Zgx, DV.cells, Zak, Zb1, Zah, ZaS, Zam, ZaL, ZeB, Zaq, ZcF, mapO, AV.toD, Zai, ZaO, ZbO, optD, ZaT, ZaE, Zca, Zae, ZaP, Zay, Zao, Zbl, ZbF, ZaI, St.trim, Out.st, A26, Zan, Ydm, h0]
theorem YeR {call : Zaa} {all : List Oper} (raw : List Cus) (fr : Nat) (v : Value) (i : Nat) (qs : List Int) (h : List AObj) : ∃ tm, Zan C call (ann 26) all ((opsL Zgp).drop 2) ⟨eB raw fr v, [(21, .fp [.int .i64 i]), (20, .a (.d (ints ((i : Int) :: qs))))], h⟩ = some ⟨eC raw fr v i, tm, h⟩ := by
  refine ⟨[(22, .a (.d (.int .i64 i))), (21, .fp [.int .i64 i]), (20, .a (.d (ints ((i : Int) :: qs))))], ?_⟩
  unfold opsL ops Zgp K26 L26 B26 Zad Tryz.f26 eC eB eA
  simp only [Option.getD_some, sq1, sq2, inn, List.drop]
  simp [-getElem?_pos, List.getElem?_cons_zero, Option.bind_some, Zgw, ZbR, Zbp, ZaW, ZbC, Za8, ZaM, ZcG, ZbB, Za7, Zbz, Zby, ZcH, ZbA, Za9, ZaK, ZcB, Zau, Zaw, Zeh, ZaQ, Zbs, Zbm, Zbx, Zbn, has, opx, opd, opA, opD, XV.flat, XV.copy, oD, oA, Zab, ins, ZeT, Zcg, St.put, St.putOwn, St.lose, St.loseEnv, unal, Zem, Zep, ZfC, dUn, Zdk, Zag, ZaV, ZaX, ZaF, Zal, ZaZ, Za1, ZaU, Zd2, ZaG, AV.cells, AV.cellOk, AV.single, DV.cellOk, Zgs, Zgt, Zgx, DV.cells, Zak, Zb1, Zah, ZaS, Zam, ZaL, ZeB, Zaq, ZcF, mapO, AV.toD, Zai, ZaO, ZbO, optD, ZaT, ZaE, Zca, Zae, ZaP, Zay, Zao, Zbl, ZbF, ZaI, St.trim, Out.st, A26, Zan, ag3]
theorem Ye0 {call : Zaa} {all : List Oper} (raw : List Cus) (fr : Nat) (v : Value) (i : Nat) (h : List AObj) : Zan C call (ann 26) all ((opsL Zgr).take 1) ⟨eC raw fr v i, [], h⟩ = some ⟨eC raw fr v i, [(23, .a (.raw v))], h⟩ := by
  unfold opsL ops Zgr K26 L26 B26 Zad Tryz.f26 eC eB eA
  simp only [Option.getD_some, sq1, sq2, inn, List.take]
  simp [-getElem?_pos, List.getElem?_cons_zero, Option.bind_some, Zgw, ZbR, Zbp, ZaW, ZbC, Za8, ZaM, ZcG, ZbB, Za7, Zbz, Zby, ZcH, ZbA, Za9, ZaK, ZcB, Zau, Zaw, Zeh, ZaQ, Zbs, Zbm, Zbx, Zbn, has, opx, opd, opA, opD, XV.flat, XV.copy, oD, oA, Zab, ins, ZeT, Zcg, St.put, St.putOwn, St.lose, St.loseEnv, unal, Zem, Zep, ZfC, dUn, Zdk, Zag, ZaV, ZaX, ZaF, Zal, ZaZ, Za1, ZaU, Zd2, ZaG, AV.cells, AV.cellOk, AV.single, DV.cellOk, Zgs, Zgt, Zgx, DV.cells, Zak, Zb1, Zah, ZaS, Zam, ZaL, ZeB, Zaq, ZcF, mapO, AV.toD, Zai, ZaO, ZbO, optD, ZaT, ZaE, Zca, Zae, ZaP, Zay, Zao, Zbl, ZbF, ZaI, St.trim, Out.st, A26, Zan]
theorem Yff {call : Zaa} {all : List Oper} (raw : List Cus) (fr : Nat) (v v' : Value) (i : Nat) (h : List AObj) : ∃ tm, Zan C call (ann 26) all ((opsL Zgr).drop 2) ⟨eC raw fr v i, [(24, .a (.raw v')), (23, .a (.raw v))], h⟩ = some ⟨eC raw fr v' i, tm, h⟩ := by
  refine ⟨[(24, .a (.raw v')), (23, .a (.raw v))], ?_⟩
  unfold opsL ops Zgr K26 L26 B26 Zad Tryz.f26 eC eB eA
  simp only [Option.getD_some, sq1, sq2, inn, List.drop]
  simp [-getElem?_pos, List.getElem?_cons_zero, Option.bind_some, Zgw, ZbR, Zbp, ZaW, ZbC, Za8, ZaM, ZcG, ZbB, Za7, Zbz, Zby, ZcH, ZbA, Za9, ZaK, ZcB, Zau, Zaw, Zeh, ZaQ, Zbs, Zbm, Zbx, Zbn, has, opx, opd, opA, opD, XV.flat, XV.copy, oD, oA, Zab, ins, ZeT, Zcg, St.put, St.putOwn, St.lose, St.loseEnv, unal, Zem, Zep, ZfC, dUn, Zdk, Zag, ZaV, ZaX, ZaF, Zal, ZaZ, Za1, ZaU, Zd2, ZaG, AV.cells, AV.cellOk, AV.single, DV.cellOk, Zgs, Zgt, Zgx, DV.cells, Zak, Zb1, Zah, ZaS, Zam, ZaL, ZeB, Zaq, ZcF, mapO, AV.toD, Zai, ZaO, ZbO, optD, ZaT, ZaE, Zca, Zae, ZaP, Zay, Zao, Zbl, ZbF, ZaI, St.trim, Out.st, A26, Zan]
def eI (raw : List Cus) (fr : Nat) (v : Value) (i : Nat) (us : List (List UInt8)) (k : Nat) (z : Int) : List (Nat × SV) := eH raw fr v i us k z ++ [(57, .val (.d (.bool true)))]
theorem YdD {call : Zaa} {all : List Oper} (raw : List Cus) (fr : Nat) (v : Value) (i : Nat) (us : List (List UInt8)) (k : Nat) (z : Int) (h : List AObj) : Zan C call (ann 26) all ((opsL ZcR).take 3) ⟨eI raw fr v i us k z, [], h⟩ =
    some ⟨eI raw fr v i us k z, [(63, .a (.d (.slc [.int .i64 z]))), (62, .a (.d (.int .i64 z))), (61, .a (.raw v))], h⟩ := by
  unfold opsL ops ZcR M26 Y26 K26 L26 B26 Zad Tryz.f26 eI eH eG eF eE eD eC eB eA
  simp only [Option.getD_some, sq1, sq2, inn, cn1, List.take]
  simp [-getElem?_pos, List.getElem?_cons_zero, Option.bind_some, Zgw, ZbR, Zbp, ZaW, ZbC, Za8, ZaM, ZcG, ZbB, Za7, Zbz, Zby, ZcH, ZbA, Za9, ZaK, ZcB, Zau, Zaw, Zeh, ZaQ, Zbs, Zbm, Zbx, Zbn, has, opx, opd, opA, opD, XV.flat, XV.copy, oD, oA, Zab, ins, ZeT, Zcg, St.put, St.putOwn, St.lose, St.loseEnv, unal, Zem, Zep, ZfC, dUn, Zdk, Zag, ZaV, ZaX, ZaF, Zal, ZaZ, Za1, ZaU, Zd2, ZaG, AV.cells, AV.cellOk, AV.single, DV.cellOk, Zgs, Zgt, Zgx, DV.cells, Zak, Zb1, Zah, ZaS, Zam, ZaL, ZeB, Zaq, ZcF, mapO, AV.toD, Zai, ZaO, ZbO, optD, ZaT, ZaE, Zca, Zae, ZaP, Zay, Zao, Zbl, ZbF, ZaI, St.trim, Out.st, A26, Zan, Ydm, hz78]
theorem Ydd {call : Zaa} {all : List Oper} (raw : List Cus) (fr : Nat) (v v' : Value) (i : Nat) (us : List (List UInt8)) (k : Nat) (z : Int) (h : List AObj) : ∃ tm, Zan C call (ann 26) all ((opsL ZcR).drop 4) ⟨eI raw fr v i us k z, [(64, .a (.raw v')), (63, .a (.d (.slc [.int .i64 z]))), (62, .a (.d (.int .i64 z))), (61, .a (.raw v))], h⟩ = some ⟨eI raw fr v' i us k z, tm, h⟩ := by
  refine ⟨[(64, .a (.raw v')), (63, .a (.d (.slc [.int .i64 z]))), (62, .a (.d (.int .i64 z))), (61, .a (.raw v))], ?_⟩
  unfold opsL ops ZcR M26 Y26 K26 L26 B26 Zad Tryz.f26 eI eH eG eF eE eD eC eB eA
  simp only [Option.getD_some, sq1, sq2, inn, cn1, List.drop]
  simp [-getElem?_pos, List.getElem?_cons_zero, Option.bind_some, Zgw, ZbR, Zbp, ZaW, ZbC, Za8, ZaM, ZcG, ZbB, Za7, Zbz, Zby, ZcH, ZbA, Za9, ZaK, ZcB, Zau, Zaw, Zeh, ZaQ, Zbs, Zbm, Zbx, Zbn, has, opx, opd, opA, opD, XV.flat, XV.copy, oD, oA, Zab, ins, ZeT, Zcg, St.put, St.putOwn, St.lose, St.loseEnv, unal, Zem, Zep, ZfC, dUn, Zdk, Zag, ZaV, ZaX, ZaF, Zal, ZaZ, Za1, ZaU, Zd2, ZaG, AV.cells, AV.cellOk, AV.single, DV.cellOk, Zgs, Zgt, Zgx, DV.cells, Zak, Zb1, Zah, ZaS, Zam, ZaL, ZeB, Zaq, ZcF, mapO, AV.toD, Zai, ZaO, ZbO, optD, ZaT, ZaE, Zca, Zae, ZaP, Zay, Zao, Zbl, ZbF, ZaI, St.trim, Out.st, A26, Zan]
end Go.Tev.S1
namespace Go.Abs
theorem Zww {C : Ctx} {fa : FA} {c : Code} {st : St} {Q : Out → Prop} (h : ∀ w0 Zbo, TJ C fa w0 Zbo st.heap c st none (fun o _ => Q o)) : Tri C fa c st Q := fun own a w S =>
  wp_mono (h w own own a w ⟨S, .refl w own, (Grow.refl w).extA own _, trivial⟩) fun e a' w' ⟨o, q', hq, he, own', J⟩ => ⟨o, hq, he, own', J.s, J.f, J.e⟩
end Go.Abs
namespace Go.Tev.S1
open Go.Abs Go.Proofs
inductive Way (A : Nat → Nat → Prop) (a : Nat) : Nat → Prop where
  | one {b : Nat} (h : A a b) : Way A a b
  | snoc {b c : Nat} (t : Way A a b) (h : A b c) : Way A a c
def un : Nat → (Nat → Bool) → Nat
  | 0, _ => 0
  | n + 1, f => un n f + (if f n = true then 0 else 1)
def mark (f : Nat → Bool) (y : Nat) : Nat → Bool := fun b => if b = y then true else f b
theorem Zte {f : Nat → Bool} {y : Nat} : ∀ {n : Nat}, n ≤ y → un n (mark f y) = un n f
  | 0, _ => rfl
  | n + 1, h => by
    have e : mark f y n = f n := by unfold mark; rw [if_neg (by omega)]
    rw [un, un, Zte (by omega), e]
theorem Zwz {f : Nat → Bool} {y : Nat} (hf : f y = false) : ∀ {n : Nat}, y < n → un n (mark f y) + 1 = un n f
  | n + 1, h => by
    rw [un, un]
    by_cases e : y = n
    · subst e
      rw [Zte (Nat.le_refl _), show mark f y y = true by simp [mark], hf]
      simp
    · have e2 : mark f y n = f n := by unfold mark; rw [if_neg (by omega)]
      have := Zwz hf (n := n) (by omega)
      rw [e2]
      omega
def Adj (raw : List Cus) (a b : Nat) : Prop := ∃ x, raw[a]? = some x ∧ ∃ u ∈ Zbt x.val, ZdP raw u 0 = (b : Int)
structure Srch (A : Nat → Nat → Prop) (fr n : Nat) (qs : List Nat) (f : Nat → Bool) : Prop where
  lt : ∀ x ∈ qs, x < n ∧ (x = fr ∨ f x = true)
  way : ∀ x, f x = true → Way A fr x
def Cl (A : Nat → Nat → Prop) (fr : Nat) (f : Nat → Bool) (x : Nat) : Prop := ∀ y, A x y → y ≠ fr ∧ f y = true
theorem Zxy (f : Nat → Bool) (y : Nat) : mark f y y = true := by simp [mark]
theorem Zip {f : Nat → Bool} {y x : Nat} (h : f x = true) : mark f y x = true := by
  unfold mark; split
  · rfl
  · exact h
theorem Cl.mono {A : Nat → Nat → Prop} {fr : Nat} {f : Nat → Bool} {x y : Nat} (h : Cl A fr f x) : Cl A fr (mark f y) x := fun z hz => ⟨(h z hz).1, Zip (h z hz).2⟩
theorem ZzR {A : Nat → Nat → Prop} {fr : Nat} {f : Nat → Bool} (h : ∀ x, x = fr ∨ f x = true → Cl A fr f x) : ¬ Way A fr fr := by
  have : ∀ b, Way A fr b → b ≠ fr ∧ f b = true := by
    intro b hb
    induction hb with
    | one e => exact h fr (.inl rfl) _ e
    | snoc t e ih => exact h _ (.inr ih.2) _ e
  exact fun hw => (this fr hw).1 rfl
theorem Ztj (raw : List Cus) (u : List UInt8) : ∀ b : Int, ZdP raw u b = -1 ∨ (b ≤ ZdP raw u b ∧ ZdP raw u b < b + raw.length) := by
  induction raw with
  | nil => intro b; exact .inl rfl
  | cons x r ih =>
    intro b
    simp only [ZdP]
    cases x.name == u with
    | true => right; simp only [if_true, List.length_cons]; constructor <;> omega
    | false =>
      simp only [Bool.false_eq_true, if_false, List.length_cons]
      rcases ih (b + 1) with h | ⟨h1, h2⟩
      · exact .inl h
      · exact .inr ⟨by omega, by omega⟩
theorem Zst : ∀ {raw : List Cus}, (raw.map Cus.name).Nodup → ∀ (u : List UInt8) (k : Int) (b : Nat), ZdP raw u k = k + b ↔ (∃ y, raw[b]? = some y ∧ y.name = u) ∨ (ZdP raw u k = -1 ∧ k + b = -1)
  | [], _, u, k, b => by simp [ZdP]; omega
  | x :: r, hn, u, k, b => by
    simp only [List.map_cons, List.nodup_cons] at hn
    simp only [ZdP]
    cases e : (x.name == u) with
    | true =>
      have hx : x.name = u := by simpa using e
      simp only [if_true]
      constructor
      · intro h
        have : b = 0 := by omega
        subst this
        exact .inl ⟨x, rfl, hx⟩
      · rintro (⟨y, h1, h2⟩ | ⟨h1, h2⟩)
        · rcases b with _ | b
          · simp
          · rw [List.getElem?_cons_succ] at h1
            exact absurd (List.mem_map.2 ⟨y, List.mem_of_getElem? h1, by rw [h2, hx]⟩) hn.1
        · omega
    | false =>
      have hx : x.name ≠ u := by simpa using e
      simp only [Bool.false_eq_true, if_false]
      have ih := Zst hn.2 u (k + 1)
      rcases b with _ | b
      · constructor
        · intro h
          rcases Ztj r u (k + 1) with h1 | ⟨h1, _⟩
          · exact .inr ⟨h1, by omega⟩
          · omega
        · rintro (⟨y, h1, h2⟩ | ⟨h1, h2⟩)
          · rw [List.getElem?_cons_zero] at h1; cases h1; exact absurd h2 hx
          · omega
      · have := ih b
        rw [List.getElem?_cons_succ, show k + ((b + 1 : Nat) : Int) = k + 1 + b by omega]
        exact this
theorem Zim {raw : List Cus} (hn : (raw.map Cus.name).Nodup) (u : List UInt8) (b : Nat) : ZdP raw u 0 = (b : Int) ↔ ∃ y, raw[b]? = some y ∧ y.name = u := by
  have := Zst hn u 0 b
  rw [Int.zero_add] at this
  rw [this]
  constructor
  · rintro (h | ⟨_, h⟩)
    · exact h
    · omega
  · exact .inl
theorem Zz0 {raw : List Cus} (hn : (raw.map Cus.name).Nodup) {a b : Nat} {x y : Cus} (hx : raw[a]? = some x) (hy : raw[b]? = some y) (h : Way (Adj raw) a b) : Path (Zbq raw) x.name y.name := by
  have edge : ∀ {a b : Nat} {x y : Cus}, raw[a]? = some x → raw[b]? = some y → Adj raw a b → Edge (Zbq raw) x.name y.name := by
    intro a b x y hx hy ⟨x', h1, u, hu, h2⟩
    rw [hx] at h1; cases h1
    obtain ⟨y', h3, h4⟩ := (Zim hn u b).1 h2
    rw [hy] at h3; cases h3
    subst h4
    exact (ZhP hn (List.mem_of_getElem? hx)).2 ⟨hu, List.mem_map.2 ⟨y, List.mem_of_getElem? hy, rfl⟩⟩
  induction h generalizing y with
  | one e => exact .one (edge hx hy e)
  | @snoc m c t e ih =>
    have e' := e
    obtain ⟨z, hz, _⟩ := e'
    exact (ih hz).trans (.one (edge hz hy e))
theorem ZzJ {raw : List Cus} (hn : (raw.map Cus.name).Nodup) {p q : List UInt8} (h : Path (Zbq raw) p q) : ∀ {a : Nat} {x : Cus}, raw[a]? = some x → x.name = p → ∃ b y, raw[b]? = some y ∧ y.name = q ∧ Way (Adj raw) a b := by
  have edge : ∀ {p q : List UInt8}, Edge (Zbq raw) p q → ∀ {a : Nat} {x : Cus}, raw[a]? = some x → x.name = p → ∃ b y, raw[b]? = some y ∧ y.name = q ∧ Adj raw a b := by
    intro p q he a x hx hp
    subst hp
    obtain ⟨h1, h2⟩ := (ZhP hn (List.mem_of_getElem? hx)).1 he
    obtain ⟨y, hy, rfl⟩ := List.mem_map.1 h2
    obtain ⟨b, hb⟩ := List.mem_iff_getElem?.1 hy
    exact ⟨b, y, hb, rfl, x, hx, y.name, h1, (Zim hn _ b).2 ⟨y, hb, rfl⟩⟩
  have pre : ∀ {A : Nat → Nat → Prop} {a b c : Nat}, A a b → Way A b c → Way A a c := by
    intro A a b c h t
    induction t with
    | one e => exact .snoc (.one h) e
    | snoc t e ih => exact .snoc ih e
  induction h with
  | one e => intro a x hx hp; obtain ⟨b, y, h1, h2, h3⟩ := edge e hx hp; exact ⟨b, y, h1, h2, .one h3⟩
  | step e t ih =>
    intro a x hx hp
    obtain ⟨b, y, h1, h2, h3⟩ := edge e hx hp
    obtain ⟨c, z, h4, h5, h6⟩ := ih h1 h2
    exact ⟨c, z, h4, h5, pre h3 h6⟩
theorem Zsq {raw : List Cus} (hn : (raw.map Cus.name).Nodup) {a : Nat} {x : Cus} (hx : raw[a]? = some x) : ZoK raw x.name ↔ Way (Adj raw) a a := by
  constructor
  · intro h
    obtain ⟨b, y, h1, h2, h3⟩ := ZzJ hn h hx rfl
    have : b = a := by
      have e1 := (Zim hn x.name b).2 ⟨y, h1, h2⟩
      have e2 := (Zim hn x.name a).2 ⟨x, hx, rfl⟩
      rw [e1] at e2
      exact Int.ofNat.inj e2
    rw [this] at h3
    exact h3
  · intro h
    exact Zz0 hn hx hx h
theorem Zxk (raw : List Cus) (hl : raw.length ≤ B) (u : List UInt8) : Zcz (Zac C K0) true 17 [d44 raw, .str u] = some (.int .i64 (ZdP raw u 0)) := by
  obtain ⟨d, h1, h2⟩ := Yc9 Zjl [.l 39 raw, .s u] (raw, u) _ [d44 raw, .str u] _ rfl rfl (Zx2 hl) rfl
  cases h1
  exact ZgO h2
theorem ZxB {l : List Val} (hl : Zaz l ≤ B) (hc : Za0 l = 0) : Zcz (Zac C K0) true 13 [.slc (l.map Val.enc)] = some (.tup [.slc ((Zf6 (Zbt l)).map DV.str), .int .i64 0]) := by
  have he : Zq7 l = (Zf6 (Zbt l), 0) := by unfold Zq7; rw [if_neg (by simpa using hc)]
  obtain ⟨d, h1, h2⟩ := ZmW Zjl Zxs [.l 51 l] l (show List (List UInt8) × Int from (Zf6 (Zbt l), 0)) [.slc (l.map Val.enc)] _ rfl rfl (show ZpG l = some (Zf6 (Zbt l), 0) by rw [Zqk hl, he]) rfl
  cases h1
  exact ZgO h2
section
variable {raw c : List Cus} {fr : Nat} {w0 : World} {Zbo : Own} {h0 : List AObj}
def OI (raw : List Cus) (fr : Nat) (m : Nat) (s : St) (q : Option (Value × List Int)) : Prop := ∃ v qs f, s = ⟨eA raw fr v, [], hS raw.length f⟩ ∧ q = some (v, qs.map Int.ofNat) ∧ Srch (Adj raw) fr raw.length qs f ∧
  (∀ x, x = fr ∨ f x = true → x ∈ qs ∨ Cl (Adj raw) fr f x) ∧ qs.length + un raw.length f = m
end
end Go.Tev.S1
namespace Go.Abs
theorem Zgm {C : Ctx} {call : Zaa} {fa : FA} {w0 : World} {Zbo : Own} {h0 : List AObj} {x y : Code} {st s : St} {q : Option (Value × List Int)} {Q : Out → Option (Value × List Int) → Prop} (hn : Zbj C.P) (hm : C.P.follows .mixedOrders = true) (hK : Zba C.P call) {n : Nat}
    (hok : okC fa x = true) (h : evQ C call fa n x st = some (.norm s)) (h2 : TJ C fa w0 Zbo h0 y s q Q) : TJ C fa w0 Zbo h0 (.seq x y) st q Q :=
  Zgl (Q2 := fun o q' => o = .norm s ∧ q' = q) (ZyQ hn hm hK hok h ⟨rfl, rfl⟩) (fun s' q' hs => by obtain ⟨h1, rfl⟩ := hs; cases h1; exact h2) (fun o q' h1 h2 => absurd h1.1 (h2 _))
end Go.Abs
namespace Go.Tev.S1
open Go.Abs Go.Proofs
section
variable {raw c : List Cus} {fr : Nat} {w0 : World} {Zbo : Own} {h0 : List AObj}
noncomputable abbrev Yec : FA := C.ann 26
structure Ins (raw : List Cus) (fr i : Nat) (us : List (List UInt8)) (k m : Nat) (qs : List Nat) (f : Nat → Bool) : Prop where
  s : Srch (Adj raw) fr raw.length qs f
  cl : ∀ x, x = fr ∨ f x = true → x = i ∨ x ∈ qs ∨ Cl (Adj raw) fr f x
  hi : i = fr ∨ f i = true
  dn : ∀ u ∈ us.take k, ∀ y : Nat, ZdP raw u 0 = (y : Int) → y ≠ fr ∧ f y = true
  ct : qs.length + un raw.length f = m
theorem Ins.next {i : Nat} {us : List (List UInt8)} {k m : Nat} {qs : List Nat} {f : Nat → Bool} (I : Ins raw fr i us k m qs f) {u : List UInt8} (hu : us[k]? = some u) (h : ∀ y : Nat, ZdP raw u 0 = (y : Int) → y ≠ fr ∧ f y = true) : Ins raw fr i us (k + 1) m qs f := by
  refine ⟨I.s, I.cl, I.hi, fun u' hu' y hy => ?_, I.ct⟩
  rw [List.take_add_one, hu] at hu'
  rcases List.mem_append.1 hu' with h1 | h1
  · exact I.dn u' h1 y hy
  · simp only [Option.toList_some, List.mem_singleton] at h1
    subst h1
    exact h y hy
theorem Ins.push {i : Nat} {us : List (List UInt8)} {k m : Nat} {qs : List Nat} {f : Nat → Bool} (I : Ins raw fr i us k m qs f) {y : Nat} (hy : y < raw.length) (hf : f y = false) (ha : Adj raw i y) : Ins raw fr i us k m (qs ++ [y]) (mark f y) := by
  refine ⟨⟨fun x hx => ?_, fun x hx => ?_⟩, fun x hx => ?_, I.hi.imp id Zip, fun u hu z hz => ⟨(I.dn u hu z hz).1, Zip (I.dn u hu z hz).2⟩, ?_⟩
  · rcases List.mem_append.1 hx with h | h
    · exact ⟨(I.s.lt x h).1, (I.s.lt x h).2.imp id Zip⟩
    · simp only [List.mem_singleton] at h
      subst h
      exact ⟨hy, .inr (Zxy f x)⟩
  · by_cases e : x = y
    · subst e
      rcases I.hi with h | h
      · subst h; exact .one ha
      · exact .snoc (I.s.way i h) ha
    · refine I.s.way x ?_
      unfold mark at hx
      rwa [if_neg e] at hx
  · by_cases e : x = y
    · exact .inr (.inl (List.mem_append.2 (.inr (by simp [e]))))
    · have hx' : x = fr ∨ f x = true := by
        unfold mark at hx
        rwa [if_neg e] at hx
      rcases I.cl x hx' with h | h | h
      · exact .inl h
      · exact .inr (.inl (List.mem_append.2 (.inl h)))
      · exact .inr (.inr h.mono)
  · have := Zwz hf hy
    have := I.ct
    rw [List.length_append, List.length_singleton]
    omega
def II' (raw : List Cus) (fr i : Nat) (us : List (List UInt8)) (m : Nat) (j : Nat) (s : St) (q : Option (Value × List Int)) : Prop := ∃ k v qs f, s = ⟨eE raw fr v i us k, [], hS raw.length f⟩ ∧ q = some (v, qs.map Int.ofNat) ∧ Ins raw fr i us k m qs f ∧ k ≤ us.length ∧ us.length - k = j
def QI (raw : List Cus) (fr i : Nat) (us : List (List UInt8)) (m : Nat) : Out → Option (Value × List Int) → Prop
  | .ret s, _ => (Zab s.env 4 = some (.val (.d (.bool true))) ∧ s.tmp = []) ∧ Way (Adj raw) fr fr
  | .exit 2 s, q => ∃ v qs f, s = ⟨eE raw fr v i us us.length ++ [(37, .val (.d (.bool false)))], [], hS raw.length f⟩ ∧ q = some (v, qs.map Int.ofNat) ∧ Ins raw fr i us us.length m qs f
  | _, _ => False
def QM (raw : List Cus) (fr i : Nat) (us : List (List UInt8)) (k m : Nat) : Out → Option (Value × List Int) → Prop
  | .ret s, _ => (Zab s.env 4 = some (.val (.d (.bool true))) ∧ s.tmp = []) ∧ Way (Adj raw) fr fr
  | .norm s, q => ∃ v qs f, s = ⟨eF raw fr v i us k, [], hS raw.length f⟩ ∧ q = some (v, qs.map Int.ofNat) ∧ Ins raw fr i us (k + 1) m qs f
  | _, _ => False
theorem Zra (raw : List Cus) (u : List UInt8) : ZdP raw u 0 = -1 ∨ ∃ y : Nat, ZdP raw u 0 = (y : Int) ∧ y < raw.length := by
  rcases Ztj raw u 0 with h | ⟨h1, h2⟩
  · exact .inl h
  · exact .inr ⟨(ZdP raw u 0).toNat, by omega, by omega⟩
theorem Yc7 (hl : raw.length ≤ B) {i : Nat} {x : Cus} (hx : raw[i]? = some x) {us : List (List UInt8)} (hus : ∀ u ∈ us, u ∈ Zbt x.val) {k m : Nat} {v : Value} {qs : List Nat} {f : Nat → Bool} (I : Ins raw fr i us k m qs f) {u : List UInt8} (hu : us[k]? = some u) (hq40 : qs.length ≤ 2 ^ 30) :
    TJ C Yec w0 Zbo h0 (.block 3 (.seq ZlP (.seq (.seq Zlv (.cond (.tmp 48) (.seq ZlN .ret) .skip)) (.seq Zir (.cond (.tmp 57) (.seq Zlx ZcR) .skip))))) ⟨eF raw fr v i us k, [], hS raw.length f⟩ (some (v, qs.map Int.ofNat)) (QM raw fr i us k m) := by
  obtain ⟨_, _, _, _, _, _, o10, o11, o12, o13, o14, _⟩ := Zy1
  have hadj : ∀ y : Nat, ZdP raw u 0 = (y : Int) → Adj raw i y := fun y hy => ⟨x, hx, u, hus u (List.mem_of_getElem? hu), hy⟩
  refine ZkB ?_
  refine Zgm (call := Zac C K0) noCount mixed Zaj o10 (Zzd raw fr v i us k u hu _ _ (Zxk raw hl u)) ?_
  by_cases hz : ZdP raw u 0 = (fr : Int)
  · have hb : (ZdP raw u 0 == (fr : Int)) = true := by rw [hz]; simp
    have hw : Way (Adj raw) fr fr := by
      rcases I.hi with h | h
      · have := hadj fr hz; rw [h] at this; exact .one this
      · exact .snoc (I.s.way i h) (hadj fr hz)
    refine Zgl (Q2 := fun o _ => ∃ s, o = .ret s ∧ Zab s.env 4 = some (.val (.d (.bool true))) ∧ s.tmp = []) ?_ (fun s q' h => by obtain ⟨_, h, _⟩ := h; cases h) (fun o q' h h2 => ?_)
    · refine Zgm (call := Zac C K0) noCount mixed Zaj o11 (Ztw raw fr v i us k _ _) ?_
      refine ZfI (b := true) (by rw [hb]; rfl) ?_
      simp only [cond_true]
      rw [hb]
      refine Zgm (call := Zac C K0) noCount mixed Zaj o12 (ZxN raw fr v i us k _ _) ?_
      exact ZyQ (call := Zac C K0) (n := 0) noCount mixed Zaj rfl rfl ⟨_, rfl, rfl, rfl⟩
    · obtain ⟨s, rfl, h4⟩ := h
      exact ⟨h4, hw⟩
  · have hb : (ZdP raw u 0 == (fr : Int)) = false := by simpa using hz
    refine Zgl (Q2 := fun o q' => o = .norm ⟨eH raw fr v i us k (ZdP raw u 0), [], hS raw.length f⟩ ∧ q' = some (v, qs.map Int.ofNat)) ?_ (fun s q' h => ?_) (fun o q' h h2 => absurd h.1 (h2 _))
    · refine Zgm (call := Zac C K0) noCount mixed Zaj o11 (Ztw raw fr v i us k _ _) ?_
      refine ZfI (b := false) (by rw [hb]; rfl) ?_
      simp only [cond_false]
      rw [hb]
      exact ZlR ⟨rfl, rfl⟩
    · obtain ⟨h1, rfl⟩ := h
      cases h1
      rcases Zra raw u with hn | ⟨y, hy, hlt⟩
      · refine Zgm (call := Zac C K0) noCount mixed Zaj o13 (ZvD raw fr v i us k _ (by rw [hn]; decide) _) ?_
        refine ZfI (b := false) rfl ?_
        simp only [cond_false]
        refine ZlR ⟨v, qs, f, rfl, rfl, I.next hu fun y hy => ?_⟩
        rw [hn] at hy; omega
      · rw [hy]
        have hne : y ≠ fr := fun h => hz (by rw [hy, h])
        refine Zgm (call := Zac C K0) noCount mixed Zaj o13 (Zvc raw fr v i us k y f hlt) ?_
        cases hf : f y with
        | true =>
          refine ZfI (b := false) rfl ?_
          simp only [cond_false]
          refine ZlR ⟨v, qs, f, rfl, rfl, I.next hu fun z hz => ?_⟩
          rw [hy] at hz
          have : z = y := by omega
          subst this
          exact ⟨hne, hf⟩
        | false =>
          refine ZfI (b := true) rfl ?_
          simp only [cond_true, Bool.not_false]
          refine Zgm (call := Zac C K0) noCount mixed Zaj o14 (ZzB raw fr v i us k y f hlt) ?_
          rw [q26_15.1]
          obtain ⟨g1, g2, g3⟩ := Ydt
          have hp := YdD (call := Zac C K0) (all := (opsL ZcR).take 3 ++ nth ZcR 3 :: (opsL ZcR).drop 4) raw fr v i us k (y : Int) (hS raw.length (mark f y))
          refine ZgA (call := Zac C K0) noCount Zaj q26_15.2 hp g1 (YbF (n := (y : Int)) g3 rfl rfl rfl g2 rfl rfl Ydm (rm78 (by rw [List.length_map]; omega)) eo78 rfl rfl) ?_
          rintro s q' ⟨v', rfl, rfl⟩
          obtain ⟨tm, ht⟩ := Ydd (call := Zac C K0) (all := (opsL ZcR).take 3 ++ nth ZcR 3 :: (opsL ZcR).drop 4) raw fr v v' i us k (y : Int) (hS raw.length (mark f y))
          refine ⟨_, ht, v', qs ++ [y], mark f y, rfl, by rw [List.map_append]; rfl, (I.push hlt hf (hadj y hy)).next hu fun z hz => ?_⟩
          rw [hy] at hz
          have : z = y := by omega
          subst this
          exact ⟨hne, Zxy f z⟩
theorem Zzi (hl : raw.length ≤ 64) {i : Nat} {x : Cus} (hx : raw[i]? = some x) {us : List (List UInt8)} (hus : ∀ u ∈ us, u ∈ Zbt x.val) (hul : us.length < 2 ^ 40) {m : Nat} (hm : m ≤ 2 ^ 30) {v : Value} {qs : List Nat} {f : Nat → Bool} (I : Ins raw fr i us 0 m qs f) :
    TJ C Yec w0 Zbo h0 (.loop (.seq (.seq Zt1 (.cond (.tmp 37) .skip (.exit 2))) (.seq (.block 3 (.seq ZlP (.seq (.seq Zlv (.cond (.tmp 48) (.seq ZlN .ret) .skip)) (.seq Zir (.cond (.tmp 57) (.seq Zlx ZcR) .skip))))) Zt6))) ⟨eE raw fr v i us 0, [], hS raw.length f⟩ (some (v, qs.map Int.ofNat)) (QI raw fr i us m) := by
  obtain ⟨_, _, _, _, o8, o9, _⟩ := Zy1
  refine Zvu (II' raw fr i us m) (n := us.length) ⟨0, v, qs, f, rfl, rfl, I, Nat.zero_le _, rfl⟩ ?_
  rintro j s q1 ⟨k, v, qs, f, rfl, rfl, I, hk, rfl⟩
  by_cases hlt : k < us.length
  · refine Zgl (Q2 := fun o q' => o = .norm ⟨eF raw fr v i us k, [], hS raw.length f⟩ ∧ q' = some (v, qs.map Int.ofNat)) ?_ (fun s q' h => ?_) (fun o q' h h2 => absurd h.1 (h2 _))
    · refine Zgm (call := Zac C K0) noCount mixed Zaj o8 (Zvf raw fr v i us k _) ?_
      rw [decide_eq_true hlt]
      refine ZfI (b := true) rfl ?_
      exact ZlR ⟨rfl, rfl⟩
    · obtain ⟨h1, rfl⟩ := h
      cases h1
      have hu := List.getElem?_eq_getElem hlt
      refine Zgl (Q2 := QM raw fr i us k m) (Yc7 (Nat.le_trans hl (by decide)) hx hus I hu (by have := I.ct; omega)) (fun s q' h => ?_) (fun o q' h h2 => ?_)
      · obtain ⟨v', qs', f', rfl, rfl, I'⟩ := h
        refine ZyQ (call := Zac C K0) noCount mixed Zaj o9 (Ybu raw fr v' i us k (by omega) _) ?_
        refine ⟨us.length - (k + 1), _, by omega, ⟨k + 1, v', qs', f', rfl, rfl, I', hlt, rfl⟩, ⟨fun n sv hs => ?_, rfl, rfl⟩⟩
        exact Zbk hs
      · cases o with
        | norm s => exact absurd rfl (h2 s)
        | ret s => exact h
        | exit id s => exact h.elim
        | goto l s => exact h.elim
  · have hke : k = us.length := by omega
    subst hke
    refine Zgl (Q2 := fun o q' => o = .exit 2 ⟨eE raw fr v i us us.length ++ [(37, .val (.d (.bool false)))], [], hS raw.length f⟩ ∧ q' = some (v, qs.map Int.ofNat)) ?_ (fun s q' h => by cases h.1) (fun o q' h h2 => ?_)
    · refine Zgm (call := Zac C K0) noCount mixed Zaj o8 (Zvf raw fr v i us us.length _) ?_
      rw [decide_eq_false hlt]
      refine ZfI (b := false) rfl ?_
      exact Zw7 ⟨rfl, rfl⟩
    · obtain ⟨rfl, rfl⟩ := h
      exact ⟨v, qs, f, rfl, rfl, I⟩
abbrev QRR (raw : List Cus) (fr : Nat) : Out → Prop
  | .ret s => (Zab s.env 4 = some (.val (.d (.bool true))) ∧ s.tmp = []) ∧ Way (Adj raw) fr fr
  | .norm s => ∃ v f, s = ⟨eA raw fr v, [], hS raw.length f⟩ ∧ ¬ Way (Adj raw) fr fr
  | _ => False
theorem Ydw {v : Value} {h : List AObj} {l : List (Nat × SV)} : Sub ⟨eA raw fr v, [], h⟩ ⟨eA raw fr v ++ l, [], h⟩ := ⟨fun n sv hs => Zbk hs, rfl, rfl⟩
set_option maxRecDepth 4000 in
theorem outer {c : List Cus} (D : Dn raw c) (hfr : fr < raw.length) {m : Nat} {v : Value} {qs : List Nat} {f : Nat → Bool} (S : Srch (Adj raw) fr raw.length qs f) (hc : ∀ x, x = fr ∨ f x = true → x ∈ qs ∨ Cl (Adj raw) fr f x) (hm : qs.length + un raw.length f = m) (hmm : m ≤ 2 ^ 30) :
    TJ C Yec w0 Zbo h0 (.block 0 (.loop (.seq (.seq ZhB (.cond (.tmp 19) .skip (.exit 0)))
  (.block 1 (.seq Zgp (.seq Zgr (.seq Zvz (.seq ZwD (.block 2 (.loop (.seq (.seq Zt1 (.cond (.tmp 37) .skip (.exit 2)))
    (.seq (.block 3 (.seq ZlP (.seq (.seq Zlv (.cond (.tmp 48) (.seq ZlN .ret) .skip)) (.seq Zir (.cond (.tmp 57) (.seq Zlx ZcR) .skip))))) Zt6)))))))))))) ⟨eA raw fr v, [], hS raw.length f⟩ (some (v, qs.map Int.ofNat)) (fun o _ => QRR raw fr o) := by
  have okr := Zy1
  obtain ⟨_, _, o6, o7, _⟩ := okr
  refine ZkB ?_
  refine Zvu (fun k s q => OI raw fr k s q ∧ k ≤ m) (n := m) ⟨⟨v, qs, f, rfl, rfl, S, hc, hm⟩, Nat.le_refl _⟩ ?_
  rintro j s q1 ⟨⟨v, qs, f, rfl, rfl, S, hc, hj⟩, hjm⟩
  have r3 : TJ C Yec w0 Zbo h0 (.seq ZhB (.cond (.tmp 19) .skip (.exit 0))) ⟨eA raw fr v, [], hS raw.length f⟩ (some (v, qs.map Int.ofNat)) (fun o q' => q' = some (v, qs.map Int.ofNat) ∧ (if 0 < qs.length then o = .norm ⟨eB raw fr v, [], hS raw.length f⟩ else o = .exit 0 ⟨eA raw fr v ++ [(19, .val (.d (.bool false)))], [], hS raw.length f⟩)) := by
    have hlen : (qs.map Int.ofNat).length = qs.length := List.length_map _
    refine Zgl (Q2 := fun o q' => o = .norm ⟨eA raw fr v ++ [(19, .val (.d (.bool (decide (0 < qs.length)))))], [], hS raw.length f⟩ ∧ q' = some (v, qs.map Int.ofNat)) ?_ (fun s q' h => ?_) (fun o q' h h2 => absurd h.1 (h2 _))
    · rw [q26_3.1]
      refine ZgA (call := Zac C K0) noCount Zaj q26_3.2 (YeX raw fr v _) YfD (Zs4 (call := Zac C K0) noCount Zaj (u := 17) rfl (Yel raw fr v _ _)) ?_
      rintro s q' ⟨rfl, rfl⟩
      refine ⟨_, YeA raw fr v _ _, ?_, rfl⟩
      rw [hlen]
    · obtain ⟨h1, rfl⟩ := h
      cases h1
      by_cases h0' : 0 < qs.length
      · rw [decide_eq_true h0']
        refine ZfI (b := true) rfl ?_
        exact ZlR ⟨rfl, by rw [if_pos h0']; rfl⟩
      · rw [decide_eq_false h0']
        refine ZfI (b := false) rfl ?_
        exact Zw7 ⟨rfl, by rw [if_neg h0']⟩
  refine Zgl r3 (fun s q' h => ?_) (fun o q' h h2 => ?_)
  · obtain ⟨rfl, h⟩ := h
    split at h
    case isFalse => cases h
    case isTrue hpos =>
      cases h
      rcases qs with _ | ⟨i, r⟩
      · simp at hpos
      have hil := (S.lt i List.mem_cons_self).1
      have hin := (S.lt i List.mem_cons_self).2
      have hx := List.getElem?_eq_getElem hil
      generalize raw[i] = x at hx
      have hxm := List.mem_of_getElem? hx
      refine ZkB ?_
      refine Zgl (Q2 := fun o q' => o = .norm ⟨eC raw fr v i, [], hS raw.length f⟩ ∧ q' = some (v, (i :: r).map Int.ofNat)) ?_ (fun s q' h => ?_) (fun o q' h h2 => absurd h.1 (h2 _))
      · rw [q26_4.1]
        refine ZgA (call := Zac C K0) noCount Zaj q26_4.2 (YfK raw fr v _) YeJ (Zs4 (call := Zac C K0) noCount Zaj (u := 20) rfl (YfJ raw fr v (i : Int) (r.map Int.ofNat) _)) ?_
        rintro s q' ⟨rfl, rfl⟩
        obtain ⟨tm, ht⟩ := YeR (call := Zac C K0) (all := (opsL Zgp).take 1 ++ nth Zgp 1 :: (opsL Zgp).drop 2) raw fr v i (r.map Int.ofNat) (hS raw.length f)
        exact ⟨_, ht, rfl, rfl⟩
      obtain ⟨h1, rfl⟩ := h
      cases h1
      refine Zgl (Q2 := fun o q' => ∃ v', o = .norm ⟨eC raw fr v' i, [], hS raw.length f⟩ ∧ q' = some (v', r.map Int.ofNat)) ?_ (fun s q' h => ?_) (fun o q' h h2 => absurd h.choose_spec.1 (h2 _))
      · rw [q26_5.1]
        obtain ⟨g1, g2, g3⟩ := YeH
        refine ZgA (call := Zac C K0) noCount Zaj q26_5.2 (Ye0 raw fr v i _) g1 (ZxT (n := (i : Int)) (r := r.map Int.ofNat) (i := (C.P.info? 3).getD default) (e := 3) g3 g2 rfl (by kernel_rfl) (by kernel_rfl) (by kernel_rfl) rfl rfl) ?_
        rintro s q' ⟨v', rfl, rfl⟩
        obtain ⟨tm, ht⟩ := Yff (call := Zac C K0) (all := (opsL Zgr).take 1 ++ nth Zgr 1 :: (opsL Zgr).drop 2) raw fr v v' i (hS raw.length f)
        exact ⟨_, ht, v', rfl, rfl⟩
      obtain ⟨v', h1, rfl⟩ := h
      cases h1
      have hus : ∀ u ∈ Zf6 (Zbt x.val), u ∈ Zbt x.val := fun u hu => ((Zjm _).2 u).1 hu
      have hul : (Zf6 (Zbt x.val)).length < 2 ^ 40 := Nat.lt_of_le_of_lt (Nat.le_trans (ZwI _) (Nat.le_trans (ZiA _) (D.tot hxm))) (by decide)
      have I : Ins raw fr i (Zf6 (Zbt x.val)) 0 (r.length + un raw.length f) r f := by
        refine ⟨⟨fun z hz => S.lt z (List.mem_cons_of_mem _ hz), S.way⟩, fun z hz => ?_, hin, fun u hu => by simp at hu, rfl⟩
        rcases hc z hz with h | h
        · rcases List.mem_cons.1 h with h | h
          · exact .inl h
          · exact .inr (.inl h)
        · exact .inr (.inr h)
      refine Zgm (call := Zac C K0) noCount mixed Zaj o6 (Ybw raw fr v' i x hx (Zf6 (Zbt x.val)) _ (ZxB (D.tot hxm) (D.chk hxm))) ?_
      refine Zgm (call := Zac C K0) noCount mixed Zaj o7 (Ybi raw fr v' i _ _) ?_
      refine ZkB ?_
      simp only [List.length_cons] at hj
      refine YcH (Zzi D.le hx hus hul (by omega) I) fun o q' h => ?_
      cases o with
      | norm s => exact h.elim
      | goto l s => exact h.elim
      | ret s => exact h
      | exit id s =>
        by_cases e : id = 2
        · subst e
          obtain ⟨v2, qs2, f2, rfl, rfl, I2⟩ := h
          refine ⟨qs2.length + un raw.length f2, ⟨eA raw fr v2, [], hS raw.length f2⟩, by have := I2.ct; omega, ⟨⟨v2, qs2, f2, rfl, rfl, I2.s, fun z hz => ?_, rfl⟩, by have := I2.ct; omega⟩, Ydw⟩
          rcases I2.cl z hz with h | h | h
          · subst h
            refine .inr fun y ⟨x', h1, u, hu, hy⟩ => ?_
            rw [hx] at h1; cases h1
            exact I2.dn u (by rw [List.take_length]; exact ((Zjm _).2 u).2 hu) y hy
          · exact .inl h
          · exact .inr h
        · have : QI raw fr i (Zf6 (Zbt x.val)) (r.length + un raw.length f) (.exit id s) q' = False := by
            unfold QI
            split
            · rename_i heq; cases heq
            · rename_i heq; cases heq; exact absurd rfl e
            · rfl
          rw [this] at h
          exact h.elim
  · obtain ⟨rfl, h⟩ := h
    split at h
    · exact absurd h (h2 _)
    · rename_i hpos
      subst h
      have hq : qs = [] := List.eq_nil_of_length_eq_zero (by omega)
      subst hq
      refine ⟨v, f, rfl, ZzR (f := f) fun z hz => ?_⟩
      rcases hc z hz with h | h
      · cases h
      · exact h
theorem Zu1 : ∀ n, un n (fun _ => false) = n
  | 0 => rfl
  | n + 1 => by rw [un, Zu1 n]; rfl
end
set_option maxRecDepth 4000 in
open Classical in
theorem ZqZ {raw c : List Cus} (D : Dn raw c) {fr : Nat} {x : Cus} (hx : raw[fr]? = some x) : Has Tryz.prog 26 [.d (d44 raw), .d (.int .i64 fr)] [] (.d (.bool (decide (ZoK raw x.name)))) [] := by
  obtain ⟨o0, o1, _, _, _, _, _, _, _, _, _, o16⟩ := Zy1
  have hfr : fr < raw.length := (List.getElem?_eq_some_iff.1 hx).1
  have h : HasN Tryz.prog 26 [.d (d44 raw), .d (.int .i64 fr)] [] (fun r h' => r = .d (.bool (decide (ZoK raw x.name)))) := by
    refine ZdW (C := C) (f := 26) (fn := Tryz.f26) Tryz.func26 YcD (by kernel_rfl) ?_
    refine Zbg (call := Zac C K0) noCount mixed Zaj o0 (Ycg raw fr) ?_
    refine Zbg (call := Zac C K0) noCount mixed Zaj o1 (YaI raw fr (Nat.le_trans D.le (by decide))) ?_
    refine Zww fun w0 Zbo => ?_
    refine Zgl (Q2 := fun o q' => ∃ v', o = .norm ⟨eA raw fr v', [], hS raw.length fun _ => false⟩ ∧ q' = some (v', [(fr : Int)])) ?_ (fun s q' h => ?_) (fun o q' h h2 => absurd h.choose_spec.1 (h2 _))
    · rw [q26_2.1]
      obtain ⟨g1, g2, g3⟩ := Yfk
      refine ZgA (call := Zac C K0) noCount Zaj q26_2.2 (Yeh raw fr _) g1 (YbS (n := (fr : Int)) g3 g2 (Yfm raw fr _) rfl rfl) ?_
      rintro s q' ⟨v', rfl, rfl⟩
      exact ⟨_, Ye5 raw fr v' _, v', rfl, rfl⟩
    · obtain ⟨v', h1, rfl⟩ := h
      cases h1
      have S0 : Srch (Adj raw) fr raw.length [fr] (fun _ => false) := ⟨fun z hz => by simp only [List.mem_singleton] at hz; subst hz; exact ⟨hfr, .inl rfl⟩, fun z hz => by cases hz⟩
      refine Zgl (outer D hfr (qs := [fr]) S0 (fun z hz => .inl (by rcases hz with h | h; exact List.mem_singleton.2 h; cases h)) rfl (by rw [Zu1]; have := D.le; simp; omega)) (fun s q' h => ?_) (fun o q' h h2 => ?_)
      · obtain ⟨v, f, rfl, hw⟩ := h
        refine Zgm (call := Zac C K0) noCount mixed Zaj o16 (Zyj raw fr v _) ?_
        refine ZyQ (call := Zac C K0) (n := 0) noCount mixed Zaj rfl rfl ?_
        refine ⟨[.d (.bool false)], rfl, ?_⟩
        rw [decide_eq_false (fun hp => hw ((Zsq D.nd hx).1 hp))]
        rfl
      · cases o with
        | norm s => exact absurd rfl (h2 s)
        | ret s =>
          refine ⟨[.d (.bool true)], ?_, ?_⟩
          · show Zbp C s [.tmp 4] = _
            simp only [Zbp, opA, opd, opx, h.1.1, h.1.2, Zab, XV.flat, Option.map_some]
          · rw [decide_eq_true ((Zsq D.nd hx).2 h.2)]
            rfl
        | exit id s => exact h.elim
        | goto l s => exact h.elim
  refine HasN.frozen (ds := [d44 raw, .int .i64 fr]) h ?_
  rintro r h' rfl
  exact ⟨0, rfl⟩
end Go.Tev.S1
namespace Go.Tev
open Go.Abs
end Go.Tev
namespace Go.Tev.S1
open Go.Abs Go.Proofs
def Ycd (a : List Cus × Int) : Prop := Zgv a.1 ∧ a.1.length ≤ 64 ∧ namL none a.1 = true ∧ ZqS a.1 = 0 ∧ 0 ≤ a.2 ∧ a.2 < a.1.length
open Classical in
noncomputable def YcV (a : List Cus × Int) : Option Bool := if Ycd a then some (decide (∃ x, a.1[a.2.toNat]? = some x ∧ ZoK a.1 x.name)) else none
open Classical in
theorem Ya9 {raw : List Cus} {c : List Cus} (D : Dn raw c) {i : Nat} {x : Cus} (hx : raw[i]? = some x) : YcV (raw, (i : Int)) = some (decide (ZoK raw x.name)) := by
  have hi : i < raw.length := (List.getElem?_eq_some_iff.1 hx).1
  unfold YcV
  rw [if_pos (show Ycd (raw, (i : Int)) from ⟨D.ok, D.le, D.nam, D.err, by simp, by simpa using hi⟩)]
  congr 1
  have : (∃ y, raw[(i : Int).toNat]? = some y ∧ ZoK raw y.name) ↔ ZoK raw x.name := by
    rw [show (i : Int).toNat = i from rfl, hx]
    exact ⟨fun ⟨y, h1, h2⟩ => by cases h1; exact h2, fun h => ⟨x, rfl, h⟩⟩
  exact decide_eq_decide.2 this
open Classical in
noncomputable def YeP (args : List AV) (h : List AObj) : Option (AV × List AObj) := if e : ∃ a : (List Cus × Int) × Bool, args = [.d (d44 a.1.1), .d (.int .i64 a.1.2)] ∧ h = [] ∧ YcV a.1 = some a.2 then some (.d (.bool e.choose.2), []) else none
theorem ZyK {args : List AV} {h : List AObj} {r : AV} {h' : List AObj} (he : YeP args h = some (r, h')) : Has Tryz.prog 26 args h r h' := by
  unfold YeP at he
  split at he
  · rename_i e
    obtain ⟨h1, h2, h3⟩ := e.choose_spec
    generalize e.choose = a at he h1 h3
    cases he
    subst h1 h2
    obtain ⟨⟨raw, fr⟩, b⟩ := a
    simp only at h3
    unfold YcV at h3
    split at h3
    · rename_i hok
      obtain ⟨k1, k2, k3, k4, k5, k6⟩ := hok
      simp only at k1 k2 k3 k4 k5 k6
      obtain ⟨i, rfl⟩ := Int.eq_ofNat_of_zero_le k5
      have hi : i < raw.length := by omega
      have D : Dn raw (Zfr raw (Zcy raw)) := ⟨k1, k2, k3, k4, rfl⟩
      have hx := List.getElem?_eq_getElem hi
      have := ZqZ D hx
      have e2 := Ya9 D hx
      unfold YcV at e2
      rw [if_pos (show Ycd (raw, (i : Int)) from ⟨k1, k2, k3, k4, k5, k6⟩)] at e2
      have e3 := h3.symm.trans e2
      rw [Option.some.inj e3]
      exact this
    · cases h3
  · cases he
noncomputable def KR (K : Zaa) : Zaa := fun f args h => bif Nat.beq f 26 then YeP args h else K f args h
theorem Yfv {K : Zaa} (hK : Zba Tryz.prog K) : Zba Tryz.prog (KR K) := by
  intro f args h r h' he
  unfold KR at he
  cases hb : Nat.beq f 26 with
  | false => rw [hb] at he; exact hK _ _ _ _ _ he
  | true =>
    rw [hb, cond_true] at he
    have := Nat.eq_of_beq_eq_true hb
    subst this
    exact ZyK he
theorem Yby {K : Zaa} (hK : Zde K) : Zde (KR K) := by
  intro f args h hf
  unfold KR
  rw [show Nat.beq f 26 = false from beq_ne.2 fun e => hf (by subst e; decide)]
  exact hK f args h hf
theorem YaN {K : Zaa} (hK : ZgH K) : ZgH (KR K) := fun args h r he => hK args h r he
noncomputable abbrev Kz : Zaa := K2 (KR K1)
theorem YfP : Zba Tryz.prog Kz := YdZ (Yfv Yej)
theorem ZfN : Zde Kz := YaM (Yby Yb6)
theorem Yb5 : ZgH Kz := YaQ (YaN Ybx)
theorem Zyi : ZaC U (Zac C Kz) 43 ⟨true, [.ty 23], [23], ZlT⟩ := ZrN (t := 23) (rt := 23) fun a r h => by
  have h : ZlT a = some r := h
  unfold ZlT at h
  split at h
  · rename_i hc
    cases h
    exact Ybn (F := fun raw => (raw.map Cus.name).Nodup ∧ Zgv raw) (fun raw => .slc ((Zfr raw (Zcy raw)).map Cus.enc)) hc
  · cases h
theorem Ycj : ZaC U (Zac C Kz) 16 ⟨true, [.ty 23], [23, 28], ZvV⟩ :=
  Zj8 (kf ZfN 16 (by decide)) _ _ _ (ZuT ZfN) Zyi (ZeN (kf ZfN 33 (by decide)) (kf ZfN 52 (by decide)) (kf ZfN 66 (by decide))) _ fun a r h => by
    unfold ZvV at h
    split at h
    · rename_i h3; cases h; exact ⟨_, ZrU a h3⟩
    · cases h
end Go.Tev.S1
namespace Go.Tev.S1
open Go.Abs Go.Proofs
def vN (k : Int) (t : List UInt8) (n : Int) (f : Bool) (l : List Val) : Val := .mk ⟨k, t, n, [], f⟩ l
def vX : Val := vN 1 [120] 0 false []
def vC : Val := vN 18 [] 0 false []
def vS : Val := vN 13 [] 0 false []
def v1 (n : Int) : Val := vN 10 [] n true []
def vV (l : List Val) : Val := vN 2 [118, 97, 114] 0 false l
def vI (c : UInt8) : Val := vN 1 [45, 45, c] 0 false []
structure Lng (F : List Val) (n : Nat) : Prop where
  tot : Zaz F = n
  chk : Za0 F = 0
  no : ZbD F = false
theorem ZvT (n : Nat) : Zaz (List.replicate n vX) = 2 * n := by
  induction n with
  | zero => rfl
  | succ n ih => rw [List.replicate_succ, Zaz, ih]; show 2 + 2 * n = _; omega
theorem ZwA (n : Nat) : Zi0 (List.replicate n vX) = 0 := by
  induction n with
  | zero => rfl
  | succ n ih => rw [List.replicate_succ, Zi0, ih]; rfl
theorem ZwK (n : Nat) : ZjJ (List.replicate n vX) = n := by
  induction n with
  | zero => rfl
  | succ n ih => rw [List.replicate_succ, ZjJ, ih]; show 1 + n = _; omega
theorem Zv5 (n : Nat) : Zn0 0 (List.replicate n vX) = false := by
  induction n with
  | zero => rfl
  | succ n ih => rw [List.replicate_succ, Zn0, ih]; rfl
theorem Zs6 (n : Nat) : ZbD (List.replicate n vX) = false := by
  induction n with
  | zero => rfl
  | succ n ih => rw [List.replicate_succ, ZbD, ih]; rfl
theorem Yar {l : List Val} (h1 : Zi0 l = 0) (h2 : ZjJ l ≤ 1500) (h3 : Zn0 0 l = false) : Za0 l = 0 := by
  unfold Za0
  rw [h1, h3, if_neg (by omega), if_neg (by omega)]
  rfl
theorem ZeD : Lng (List.replicate 1000 vX) 2000 := ⟨ZvT 1000, Yar (ZwA _) (by rw [ZwK]; omega) (Zv5 _), Zs6 _⟩
theorem lng_more : Lng (List.replicate 1000 vX ++ [vC]) 2001 := ⟨by rw [ZdQ, ZvT]; rfl, Yar (by rw [Zlq, ZwA]; rfl) (by rw [ZkM, ZwK]; decide) (by rw [Zln, Zv5]; rfl), by rw [ZjK, Zs6]; rfl⟩
def cF (c : UInt8) (l : List Val) : Cus := ⟨[45, 45, c], l⟩
theorem lk1 (c : UInt8) (F : List Val) : lkC [cF c F] [45, 45, c] = some F := by simp [lkC, cF]
theorem Yeb {F : List Val} {n : Nat} (h : Lng F n) : ZsW [cF 102 F] = if 2000 < n then 8 else 0 := by
  have e1 : namL none [cF 102 F] = true := rfl
  have e2 : ¬ ([cF 102 F].length > 64) := show ¬ 1 > 64 by decide
  have e3 : ¬ ([cF 102 F].length > 64 ∨ namL none [cF 102 F] = false) := fun h => h.elim e2 (fun h => by rw [e1] at h; cases h)
  unfold ZsW
  rw [if_neg e3]
  simp only [YcE, Zlw, cF, h.tot, h.chk, h.no]
  by_cases h2 : 2000 < n <;> simp [h2]
theorem Zz6 : (ZaA [vI 102]).1 = [45, 45, 102] := by rfl
theorem ZxM {F : List Val} {n : Nat} (h : Lng F n) {lk : Lk} (hl : lk [45, 45, 102] = some F) : ZqV lk (vV [vI 102]) = some n := by
  rw [Zns (x := F) rfl (show lk (ZaA [vI 102]).1 = _ by rw [Zz6]; exact hl), h.tot]
theorem Ye4 {F : List Val} {lk : Lk} (hl : lk [45, 45, 102] = some F) : Zty lk (vV [vI 102]) = F :=
  ZsM (x := F) rfl (show lk (ZaA [vI 102]).1 = _ by rw [Zz6]; exact hl)
theorem rep1 {F : List Val} (h : Lng F 2000) : Zxv [vV [vI 102]] [cF 102 F] = (F, 0) := by
  unfold Zxv
  rw [if_neg (by decide), Yeb h, if_neg (by decide)]
  unfold ZfG
  rw [ZbG, ZxM h (lk1 102 F), Zb7]
  simp only [Zji]
  rw [if_neg (by omega), Zc2, Ye4 (lk1 102 F), Zd5, List.append_nil, h.chk]
  rfl
theorem rep2 {F : List Val} (h : Lng F 2000) : Zxv [vV [vI 102], v1 1000] [cF 102 F] = ([], 28) := by
  unfold Zxv
  rw [if_neg (by decide), Yeb h, if_neg (by decide)]
  unfold ZfG
  rw [ZbG, ZxM h (lk1 102 F), ZbG, Zjd (by rfl), Zb7, show (v1 1000).l = [] from rfl, Zb7]
  simp only [Zji]
  rw [if_pos ⟨by decide, by rfl⟩]
theorem rep3 {F : List Val} {n : Nat} (h : Lng F n) : Zxv F [] = (F, 0) := by
  unfold Zxv
  rw [if_neg (by rw [h.chk]; decide), if_neg (by decide)]
  unfold ZfG
  rw [ZiD _ _ h.no, Zkx _ _ h.no]
  simp only [h.no, h.chk]
  rw [if_neg (by rintro ⟨_, h⟩; cases h)]
  rfl
theorem ZwS {raw : List Cus} (hn : (raw.map Cus.name).Nodup) (rk : List UInt8 → Nat) (hr : ∀ x ∈ raw, ∀ b ∈ Zbt x.val, b ∈ raw.map Cus.name → rk b < rk x.name) {a b : List UInt8} (h : Path (Zbq raw) a b) : rk b < rk a := by
  have he : ∀ {a b}, Edge (Zbq raw) a b → rk b < rk a := by
    intro a b h
    obtain ⟨x, hx, rfl, hb⟩ : ∃ x ∈ raw, x.name = a ∧ (b ∈ Zbt x.val ∧ b ∈ raw.map Cus.name) := by
      have h' := h
      obtain ⟨u, h1, h2, h3⟩ := h
      have : a ∈ (Zbq raw).map Prod.fst := mget_iff.1 (by rw [h1]; rfl)
      have : a ∈ raw.map Cus.name := by simpa [Zbq] using this
      obtain ⟨x, hx, rfl⟩ := List.mem_map.1 this
      exact ⟨x, hx, rfl, (ZhP hn hx).1 h'⟩
    exact hr x hx b hb.1 hb.2
  induction h with
  | one h => exact he h
  | step h t ih => exact Nat.lt_trans ih (he h)
theorem Yad {raw : List Cus} (hn : (raw.map Cus.name).Nodup) (rk : List UInt8 → Nat) (hr : ∀ x ∈ raw, ∀ b ∈ Zbt x.val, b ∈ raw.map Cus.name → rk b < rk x.name) {lk : Lk} (ho : ∀ n, n ∉ raw.map Cus.name → lk n = none) (hv : ∀ x ∈ raw, lk x.name = ZoL lk x) : Sol raw lk :=
  ⟨ho, fun n h => absurd (ZwS hn rk hr h) (Nat.lt_irrefl _), fun x hx _ => hv x hx⟩
theorem Zz5 {raw : List Cus} (hn : (raw.map Cus.name).Nodup) (hne : [] ∉ raw.map Cus.name) {lk : Lk} (h : Sol raw lk) : Zfr raw (Zcy raw) = raw.filterMap fun x => (lk x.name).map fun v => ⟨x.name, v⟩ := by
  have h : lkM (Zcy raw) = lk := Zs8 hn hne (Zja hn hne) h
  unfold Zfr
  have e : ∀ n, Zbu BEq.beq n (Zcy raw) = lk n := fun n => by rw [← h]; rfl
  simp only [e]
theorem Zw3 {l : List Val} (h : ZbD l = false) : Zbt l = [] := by
  revert h
  refine ZfT (fun l => ZbD l = false → Zbt l = []) (fun _ => rfl) (fun v r h1 h2 _ h => ?_) l
  rw [ZbD, Bool.or_eq_false_iff, Val.hasv_eq, Bool.or_eq_false_iff] at h
  rw [Zbt, h1 h.2, Val.uses_eq, h2 h.1.2, h.1.1]
  rfl
theorem ZtG {lk : Lk} {x : Cus} {n : Nat} (h : Lng x.val n) : ZoL lk x = if n ≤ 2000 then some x.val else none := by
  unfold ZoL ZfG
  rw [ZiD _ _ h.no, Zkx _ _ h.no]
  simp only [h.no, h.chk, h.tot]
  by_cases h2 : n ≤ 2000
  · have : (n : Int) ≤ 2000 := by omega
    simp [h2, this, h.tot]
  · have : ¬ (n : Int) ≤ 2000 := by omega
    simp [h2, this, h.tot]
theorem Zzk {lk : Lk} {l d : List Val} (h3 : (ZaA l).2.2 = true) (h2 : (ZaA l).2.1 = d) (hn : lk (ZaA l).1 = none) (hd : ZbD d = false) (ht : Zaz d ≤ 2000) (hc : Za0 d = 0) : ZfG lk [vV l] = (d, 0) := by
  have hm : ZeH lk [vV l] = some (Zaz d) := by
    rw [ZbG, Zou (v := vV l) rfl hn h3, show (ZaA (vV l).l).2.1 = d from h2, ZiD _ _ hd, Zb7]; rfl
  have hq : Zei lk [vV l] = d := by
    rw [Zc2, Ztl (v := vV l) rfl hn, show (ZaA (vV l).l).2.1 = d from h2, Zkx _ _ hd, Zd5, List.append_nil]
  unfold ZfG
  rw [hm, hq]
  simp only
  rw [if_neg (by omega), if_pos hc]
theorem Zsk {lk : Lk} {c : UInt8} {l d : List Val} (h3 : (ZaA l).2.2 = true) (h2 : (ZaA l).2.1 = d) (hn : lk (ZaA l).1 = none) (hd : ZbD d = false) (ht : Zaz d ≤ 2000) (hc : Za0 d = 0) : ZoL lk (cF c [vV l]) = some d := by
  unfold ZoL
  rw [show (cF c [vV l]).val = [vV l] from rfl, Zzk h3 h2 hn hd ht hc]
  have : (Zaz d : Int) ≤ 2000 := by omega
  simp [this]
theorem ndE {raw : List Cus} {l : List (List UInt8)} (h : raw.map Cus.name = l) (hd : l.Nodup := by decide) : (raw.map Cus.name).Nodup := by rw [h]; exact hd
theorem neE {raw : List Cus} {l : List (List UInt8)} (h : raw.map Cus.name = l) (hd : [] ∉ l := by decide) : [] ∉ raw.map Cus.name := by rw [h]; exact hd
def e4 (M : List Val) : List Cus := [cF 101 [vV [vI 102, vC, vS, v1 1000]], cF 102 M]
def e5 (F : List Val) : List Cus := [cF 101 [vV [vI 102], vS, vV [vI 102]], cF 102 F, cF 103 [vV [vI 101, vC, vS, v1 2000]]]
def rk5 (n : List UInt8) : Nat := if n = [45, 45, 102] then 0 else if n = [45, 45, 101] then 1 else 2
theorem sol4 {M : List Val} (h : Lng M 2001) : Sol (e4 M) (fun n => if n = [45, 45, 101] then some [v1 1000] else none) := by
  refine Yad (ndE (l := [[45, 45, 101], [45, 45, 102]]) rfl) rk5 ?_ ?_ ?_
  · intro x hx b hb hm
    simp only [e4, List.mem_cons, List.not_mem_nil, or_false] at hx
    rcases hx with rfl | rfl
    · have : b = [45, 45, 102] := by
        have e : Zbt (cF 101 [vV [vI 102, vC, vS, v1 1000]]).val = [[45, 45, 102]] := by rfl
        rw [e] at hb; simpa using hb
      subst this
      decide
    · rw [show (cF 102 M).val = M from rfl, Zw3 h.no] at hb; cases hb
  · intro n hn
    rw [if_neg]
    intro e; subst e
    exact hn (by simp [e4, cF])
  · intro x hx
    simp only [e4, List.mem_cons, List.not_mem_nil, or_false] at hx
    rcases hx with rfl | rfl
    · exact (Zsk (d := [v1 1000]) (by rfl) (by rfl) (by rfl) (by rfl) (by decide) (by decide)).symm
    · rw [ZtG (x := cF 102 M) h]
      rfl
theorem out4 {M : List Val} (h : Lng M 2001) : Zii (e4 M) = ([cF 101 [v1 1000]], 0) := by
  unfold Zii
  rw [if_neg (show ¬ (e4 M).length > 64 from show ¬ 2 > 64 by omega), if_neg (by rw [show namL none (e4 M) = true from rfl]; decide)]
  have he : ZqS (e4 M) = 0 := by
    show (if Za0 [vV [vI 102, vC, vS, v1 1000]] = 0 then (if Za0 M = 0 then 0 else Za0 M) else _) = _
    rw [h.chk]; rfl
  rw [if_pos he, Zz5 (ndE (l := [[45, 45, 101], [45, 45, 102]]) rfl) (neE (l := [[45, 45, 101], [45, 45, 102]]) rfl) (sol4 h)]
  rfl
theorem sol5 {F : List Val} (h : Lng F 2000) : Sol (e5 F) (fun n => if n = [45, 45, 102] then some F else if n = [45, 45, 103] then some [v1 2000] else none) := by
  refine Yad (ndE (l := [[45, 45, 101], [45, 45, 102], [45, 45, 103]]) rfl) rk5 ?_ ?_ ?_
  · intro x hx b hb hm
    simp only [e5, List.mem_cons, List.not_mem_nil, or_false] at hx
    rcases hx with rfl | rfl | rfl
    · have : b = [45, 45, 102] := by
        have e : Zbt (cF 101 [vV [vI 102], vS, vV [vI 102]]).val = [[45, 45, 102], [45, 45, 102]] := by rfl
        rw [e] at hb; simpa using hb
      subst this
      decide
    · rw [show (cF 102 F).val = F from rfl, Zw3 h.no] at hb; cases hb
    · have : b = [45, 45, 101] := by
        have e : Zbt (cF 103 [vV [vI 101, vC, vS, v1 2000]]).val = [[45, 45, 101]] := by rfl
        rw [e] at hb; simpa using hb
      subst this
      decide
  · intro n hn
    simp only [e5, List.map_cons, List.map_nil, List.mem_cons, List.not_mem_nil, or_false, not_or, cF] at hn
    rw [if_neg hn.2.1, if_neg hn.2.2]
  · intro x hx
    simp only [e5, List.mem_cons, List.not_mem_nil, or_false] at hx
    rcases hx with rfl | rfl | rfl
    · have h3 : ZfG (fun n => if n = [45, 45, 102] then some F else if n = [45, 45, 103] then some [v1 2000] else none) [vV [vI 102], vS, vV [vI 102]] = ([], 28) := by
        unfold ZfG
        rw [ZbG, ZxM h rfl, ZbG, Zjd (v := vS) (by rfl), ZbG, ZxM h rfl, Zb7, show vS.l = [] from rfl, Zb7]
        simp only [Zji]
        rw [if_pos ⟨by decide, by rfl⟩]
      show none = ZoL _ _
      unfold ZoL
      rw [show (cF 101 [vV [vI 102], vS, vV [vI 102]]).val = [vV [vI 102], vS, vV [vI 102]] from rfl, h3]
      rfl
    · rw [ZtG (x := cF 102 F) h]
      rfl
    · exact (Zsk (d := [v1 2000]) (by rfl) (by rfl) (by rfl) (by rfl) (by decide) (by decide)).symm
theorem out5 {F : List Val} (h : Lng F 2000) : Zii (e5 F) = ([cF 102 F, cF 103 [v1 2000]], 0) := by
  unfold Zii
  rw [if_neg (show ¬ (e5 F).length > 64 from show ¬ 3 > 64 by omega), if_neg (by rw [show namL none (e5 F) = true from rfl]; decide)]
  have he : ZqS (e5 F) = 0 := by
    show (if Za0 [vV [vI 102], vS, vV [vI 102]] = 0 then (if Za0 F = 0 then (if Za0 [vV [vI 101, vC, vS, v1 2000]] = 0 then 0 else _) else Za0 F) else _) = _
    rw [h.chk]; rfl
  rw [if_pos he, Zz5 (ndE (l := [[45, 45, 101], [45, 45, 102], [45, 45, 103]]) rfl) (neE (l := [[45, 45, 101], [45, 45, 102], [45, 45, 103]]) rfl) (sol5 h)]
  rfl
def uL : List Val := [vV [vI 98, vC, vS, vV [vI 97]], vS, vN 19 [] 0 false [vV [vI 98]], vS, vV [vN 1 [45, 45] 0 false []], vS, vV [vN 1 [99] 0 false []]]
theorem YeV : Zq7 uL = ([[45, 45, 97], [45, 45, 98]], 0) := by
  unfold Zq7
  rw [if_neg (by decide), show Zbt uL = [[45, 45, 98], [45, 45, 97], [45, 45, 98]] by rfl]
  rfl
end Go.Tev.S1
namespace Go.Abs
def Zlo (C : Ctx) (call : Zaa) (fa : FA) (n : Nat) : Nat → Code → St → Option (St × Code)
  | 0, c, st => some (st, c)
  | k + 1, .seq a b, st => match evQ C call fa n a st with
    | some (.norm s) => Zlo C call fa n k b s
    | _ => none
  | _ + 1, _, _ => none
def ZnP (fa : FA) : Nat → Code → Bool
  | 0, _ => true
  | k + 1, .seq a b => okC fa a && ZnP fa k b
  | _ + 1, _ => false
section
variable {C : Ctx} {call : Zaa} {fa : FA} {own own' : Own} {st st' : St} {a : Act} {w w' : World} {Q : Out → Prop}
theorem Zo2 (hn : Zbj C.P) (hm : C.P.follows .mixedOrders = true) (hK : Zba C.P call) {n : Nat} : ∀ (k : Nat) (c : Code) (st : St) (st' : St) (c' : Code), ZnP fa k c = true → Zlo C call fa n k c st = some (st', c') → Tri C fa c' st' Q → Tri C fa c st Q
  | 0, c, st, st', c', _, he, h => by simp only [Zlo, Option.some.injEq, Prod.mk.injEq] at he; rw [he.1, he.2]; exact h
  | k + 1, .seq a b, st, st', c', hok, he, h => by
    simp only [ZnP, Bool.and_eq_true] at hok
    simp only [Zlo] at he
    split at he
    · rename_i s hs
      exact Zcr (Q1 := fun o => o = .norm s) (Zcj hn hm hK hok.1 hs rfl) (fun s' h1 => by cases h1; exact Zo2 hn hm hK k b s st' c' hok.2 he h) (fun o h1 h2 => absurd h1 (h2 _))
    · cases he
  | k + 1, .skip, _, _, _, hok, _, _ | k + 1, .label _, _, _, _, hok, _, _ | k + 1, .region .., _, _, _, hok, _, _ | k + 1, .cond .., _, _, _, hok, _, _ | k + 1, .block .., _, _, _, hok, _, _ | k + 1, .loop .., _, _, _, hok, _, _
  | k + 1, .exit .., _, _, _, hok, _, _ | k + 1, .ret, _, _, _, hok, _, _ | k + 1, .goto .., _, _, _, hok, _, _ | k + 1, .scope .., _, _, _, hok, _, _ | k + 1, .rangeFunc .., _, _, _, hok, _, _ => by cases hok
def Zvn (fa : FA) (t : Nat) : FA := { fa with keep := fa.keep.filter fun s => !Nat.beq s t }
theorem Zjw (l : List Nat) (t s : Nat) : has (l.filter fun s => !Nat.beq s t) s = (has l s && !Nat.beq s t) := by
  induction l with
  | nil => rfl
  | cons k l ih =>
    by_cases hk : k = t
    · subst hk
      have hkk : Nat.beq k k = true := Nat.beq_refl k
      rw [List.filter_cons, hkk]
      simp only [Bool.not_true, Bool.false_eq_true, if_false, ih, has]
      cases hb : Nat.beq k s with
      | true => have := Nat.eq_of_beq_eq_true hb; subst this; rw [hkk]; simp
      | false => rfl
    · have hkk : Nat.beq k t = false := beq_ne.2 hk
      rw [List.filter_cons, hkk]
      simp only [Bool.not_false, if_true, has, ih]
      cases hb : Nat.beq k s with
      | true => have := Nat.eq_of_beq_eq_true hb; subst this; rw [hkk]; rfl
      | false => rfl
theorem Zov (hn : Zbj C.P) (hm : C.P.follows .mixedOrders = true) (hK : Zba C.P call) {t id : Nat} {v : AV} {ops : Array Oper} {draw : Bool} (he : Zc8 C call (Zvn fa t) draw ops.toList st = some st') (ht : Zab st'.tmp t = some (.a v))
    (h0 : Zab st.env t = none) (h1 : Zab st'.env t = none) (hk : has fa.keep t = true) (hq : Q (.norm { st' with env := Zdk st'.env t (.val v), tmp := [] })) : Tri C fa (.region id ops draw) st Q := by
  intro own a w S
  have S' : SRel C.P (Zvn fa t) own st a w := by
    refine ⟨S.h, S.nt, S.defers, fun s sv hs => ?_, fun u x hx => ?_, S.env, S.tmp⟩
    · show has (fa.keep.filter _) s = true
      rw [Zjw, S.ek s sv hs]
      have : s ≠ t := fun e => by subst e; rw [h0] at hs; cases hs
      rw [beq_ne.2 this]; rfl
    · show has (fa.keep.filter _) u = false
      rw [Zjw, S.tk u x hx]; rfl
  refine ZiG hn hm hK S' he fun a' w' own' S2 F E => ?_
  refine ⟨_, hq, rfl, own', ⟨S2.h, S2.nt, S2.defers, fun s sv hs => ?_, fun u x hx => (by change Zab ([] : List (Nat × XV)) u = some x at hx; cases hx), fun s sv hs => ?_, fun u x hx => (by change Zab ([] : List (Nat × XV)) u = some x at hx; cases hx)⟩, F, E⟩
  · simp only [Out.st, ZaN] at hs
    cases hb : Nat.beq t s with
    | true => have := Nat.eq_of_beq_eq_true hb; subst this; exact hk
    | false =>
      rw [hb] at hs
      have h3 := S2.ek s sv hs
      have h4 : has (fa.keep.filter fun s => !Nat.beq s t) s = true := h3
      rw [Zjw, Bool.and_eq_true] at h4
      exact h4.1
  · simp only [Out.st, ZaN] at hs
    cases hb : Nat.beq t s with
    | true =>
      have := Nat.eq_of_beq_eq_true hb
      subst this
      rw [hb] at hs
      simp only [cond_true, Option.some.injEq] at hs
      subst hs
      exact S2.tmp _ _ ht
    | false => rw [hb] at hs; exact S2.env s sv hs
end
end Go.Abs
namespace Go.Abs
section
variable {C : Ctx} {fa : FA} {own : Own} {st : St} {a : Act} {w w' : World} {X : Exit → Act → World → Prop}
theorem ZlO {all : Array Oper} {o : Oper} {rest : List Oper} {v : Value} (hg : o.guard = none) (hr : (execOp a.eval o).run C.P w = .ok (.value v) w') (h : wpList C.P all X rest (a.put o.dst v) w') : wpList C.P all X (o :: rest) a w := by
  simp only [wpList]
  have hw : Region.wanted o (yielded all a.tmps) = true := by
    unfold Region.wanted
    rw [hg]
  rw [if_pos hw]
  left
  unfold Oper.wp
  rw [hr]
  exact h
theorem Zsp {all : Array Oper} {o : Oper} {rest : List Oper} (hg : o.guard = none) (hr : (execOp a.eval o).run C.P w = .ok .skip w') (h : wpList C.P all X rest (a.put o.dst undef) w') : wpList C.P all X (o :: rest) a w := by
  simp only [wpList]
  have hw : Region.wanted o (yielded all a.tmps) = true := by
    unfold Region.wanted
    rw [hg]
  rw [if_pos hw]
  left
  unfold Oper.wp
  rw [hr]
  exact h
theorem Zse {d : Option Tmp} {v : Value} : (a.put d v).tmps.size = a.tmps.size := by
  cases d with
  | none => rfl
  | some t => simp [Act.put]
theorem SRel.putNo {e : List (Nat × SV)} {h : List AObj} {t : Nat} {v : Value} (S : SRel C.P fa own ⟨e, [], h⟩ a w) (h1 : Zab e t = none) (h2 : t < fa.nt) : SRel C.P fa own ⟨e, [], h⟩ (a.put (some t) v) w := by
  have hs : t < a.tmps.size := by rw [S.nt]; exact h2
  refine ⟨S.h, by rw [Zse]; exact S.nt, S.defers, S.ek, S.tk, fun s sv hs' => ?_, fun u x hx => by cases hx⟩
  have hne : s ≠ t := fun he => by subst he; rw [h1] at hs'; cases hs'
  rw [ZeP hs, if_neg hne]
  exact S.env s sv hs'
end
open Go.Proofs
def sqn : Nat → Code → Code
  | 0, c => c
  | k + 1, c => sqn k (sq2 c)
noncomputable abbrev B5 : Code := Zad Tryz.f5
noncomputable abbrev C10 : Code := sqn 6 B5
noncomputable abbrev R5_10 : Code := sq1 C10
noncomputable abbrev F5 : Code := sq1 (sq2 C10)
noncomputable abbrev ZyA : Code := sq1 F5
noncomputable abbrev L5 : Code := inn (inn (sq2 F5))
noncomputable abbrev ZyG : Code := sq1 (sq1 L5)
noncomputable abbrev R5_14 : Code := inn (sq1 (sq2 L5))
noncomputable abbrev ZxU : Code := sq2 (sq2 L5)
noncomputable abbrev C15 : Code := sq2 (sq2 C10)
theorem YcT : C10 = .seq R5_10 (.seq (.seq ZyA (.block 2 (.loop (.seq (.seq ZyG (.cond (.tmp 140) .skip (.exit 2))) (.seq (.block 3 R5_14) ZxU))))) C15) := by kernel_rfl
noncomputable abbrev ZeU (c : Code) (k : Nat) : Oper := op0 ((opsL c).drop k)
theorem q5_10 : R5_10 = .region 10 (ops R5_10) false ∧ (ops R5_10).toList = [ZeU R5_10 0, ZeU R5_10 1, ZeU R5_10 2] := ⟨by kernel_rfl, by kernel_rfl⟩
theorem Yei : (ZeU R5_10 0).guard = none ∧ (ZeU R5_10 0).dst = some 138 ∧ (ZeU R5_10 1).guard = none ∧ (ZeU R5_10 1).dst = some 6 ∧ (ZeU R5_10 1).op = .alloc 39 ∧ (ZeU R5_10 2).guard = none ∧ (ZeU R5_10 2).op = .store 39 (.tmp 6) (.tmp 138) := by
  refine ⟨?_, ?_, ?_, ?_, ?_, ?_, ?_⟩ <;> kernel_rfl
def nmF : Value := .string ⟨#[45, 45, 102]⟩
theorem YeI (a : Act) (w : World) : (execOp a.eval (ZeU R5_10 0)).run C.P w = .ok (.value (.agg #[nmF, .slice none 0 0])) w := by kernel_rfl
theorem YeD (w : World) : (zeroValue 39).run C.P w = .ok (.agg #[.string ⟨#[]⟩, .slice none 0 0]) w := by kernel_rfl
def Fr0 (w0 : World) (Zbo : Own) (b : Nat) : Prop := b < w0.heap.size → Zbo b ≠ none ∧ ∀ f, Zbo b ≠ some (.ext, f)
def QF (w0 : World) (Zbo own : Own) (w : World) (p : Value) (es : List DV) : Prop := ∃ b0 c0 T0 v, p = .pointer (some ⟨b0, 0, none⟩) ∧ own b0 = some (.ext, 0) ∧ w0.heap.size ≤ b0 ∧ w.heap[b0]? = some (.cells c0 T0 (0, 0)) ∧ c0.size = 2 ∧
  c0[0]? = some nmF ∧ c0[1]? = some v ∧ OwnRel C.P w own .ext v es ∧ (∀ b off l cap, v = .slice (some ⟨b, off, none⟩) l cap → es ≠ [] → Fr0 w0 Zbo b)
theorem Zta {own own' : Own} {w w' : World} {hh : List AObj} (H : HRel C.P w own hh) (F : Frm w own w' own') : Keep w own w' own' .ext := fun b f hb => let ⟨e1, e2⟩ := F.blk b (H.lt b _ hb) (.inr ⟨f, hb⟩); ⟨by rw [e2, hb], e1⟩
theorem QF.frm {w0 : World} {Zbo own own' : Own} {w w' : World} {p : Value} {es : List DV} {hh hh' : List AObj} (h : QF w0 Zbo own w p es) (H : HRel C.P w own hh) (F : Frm w own w' own') (E : ExtA w own hh w' own' hh') : QF w0 Zbo own' w' p es := by
  obtain ⟨b0, c0, T0, v, h1, h2, h3, h4, h5, h6, h7, h8, h9⟩ := h
  have K := Zta H F
  obtain ⟨k1, k2⟩ := K b0 0 h2
  exact ⟨b0, c0, T0, v, h1, k1, h3, by rw [k2, h4], h5, h6, h7, h8.mono E.ext K, h9⟩
def eN (W : DV) : List (Nat × SV) := [(0, .val (.d (.bool false))), (2, .val (.d (.bool true))), (3, .val (.d (.bool true))), (4, .val (.d W))]
def eP (W : DV) (p : Value) : List (Nat × SV) := eN W ++ [(6, .val (.raw p))]
noncomputable abbrev fa5 : FA := C.ann 5
theorem nt5 : fa5.nt = 342 := by kernel_rfl
theorem kp5 : has fa5.keep 6 = true ∧ has fa5.keep 0 = true ∧ has fa5.keep 2 = true ∧ has fa5.keep 3 = true ∧ has fa5.keep 4 = true := by refine ⟨?_, ?_, ?_, ?_, ?_⟩ <;> kernel_rfl
theorem cs39 : C.size 39 = some 2 := by kernel_rfl
structure JN (w0 : World) (Zbo : Own) (st : St) (p : Value) (es : List DV) (own : Own) (a : Act) (w : World) : Prop where
  s : SRel C.P fa5 own st a w
  f : Frm w0 Zbo w own
  e : ExtA w0 Zbo [] w own st.heap
  q : QF w0 Zbo own w p es
theorem YfS {w0 : World} {Zbo : Own} (W : DV) {own : Own} {a : Act} {w : World} (S : SRel C.P fa5 own ⟨eN W, [], []⟩ a w) (F : Frm w0 Zbo w own) (E : ExtA w0 Zbo [] w own []) {Q : Exit → Act → World → Prop}
    (hQ : ∀ p own' a' w', JN w0 Zbo ⟨eP W p, [], []⟩ p [] own' a' w' → Q .normal a' w') : R5_10.wp C.P Q a w := by
  rw [q5_10.1]
  refine wp_region_list ?_
  rw [q5_10.2]
  obtain ⟨g0, d0, g1, d1, p1, g2, p2⟩ := Yei
  refine ZlO g0 (YeI a w) ?_
  rw [d0]
  have hs0 : a.tmps.size = 342 := by rw [S.nt]; exact nt5
  have hs1 : (a.put (some 138) (.agg #[nmF, .slice none 0 0])).tmps.size = 342 := by rw [Zse]; exact hs0
  refine ZlO g1 (v := .pointer (some ⟨w.heap.size, 0, none⟩)) (w' := w.alloc (.cells #[.string ⟨#[]⟩, .slice none 0 0] 39)) (by
    simp [execOp, p1, Instr.alloc, YeD, newVar, newRow]
    rfl) ?_
  rw [d1]
  have hblk : (w.alloc (.cells #[.string ⟨#[]⟩, .slice none 0 0] 39)).heap[w.heap.size]? = some (.cells #[.string ⟨#[]⟩, .slice none 0 0] 39 (0, 0)) := by
    show (w.heap.push _)[_]? = _
    simp
  obtain ⟨c', r1, r2, r3⟩ := ZeS (C := C) (t := 39) (v := .agg #[nmF, .slice none 0 0]) (n := 2) (off := 0) cs39 rfl (fun i u hu => by
    rcases i with _ | _ | i
    · cases hu; rfl
    · cases hu; rfl
    · simp [Value.cells] at hu) hblk (fun j _ hj => by simp at hj) (by decide)
  have e6 : ((a.put (some 138) (.agg #[nmF, .slice none 0 0])).put (some 6) (.pointer (some ⟨w.heap.size, 0, none⟩))).eval (.tmp 6) = .pointer (some ⟨w.heap.size, 0, none⟩) := by
    show ((a.put (some 138) _).put (some 6) _).tmps.getD 6 undef = _
    rw [ZeP (by rw [hs1]; decide)]
    rfl
  have e138 : ((a.put (some 138) (.agg #[nmF, .slice none 0 0])).put (some 6) (.pointer (some ⟨w.heap.size, 0, none⟩))).eval (.tmp 138) = .agg #[nmF, .slice none 0 0] := by
    show ((a.put (some 138) _).put (some 6) _).tmps.getD 138 undef = _
    rw [ZeP (by rw [hs1]; decide), if_neg (by decide), ZeP (by rw [hs0]; decide)]
    rfl
  have g : Grow w ((w.alloc (.cells #[.string ⟨#[]⟩, .slice none 0 0] 39)).setRow w.heap.size c') := ⟨rfl, rfl, rfl, by rw [size_setRow, ZdV]; omega, fun b hb => by
    rw [setRow_other _ _ _ _ (Nat.ne_of_lt hb)]
    exact (Grow.alloc w _).blk b hb⟩
  have hrow := setRow_heap (w.alloc (.cells #[.string ⟨#[]⟩, .slice none 0 0] 39)) w.heap.size _ c' 39 (0, 0) hblk
  generalize hw2 : (w.alloc (.cells #[.string ⟨#[]⟩, .slice none 0 0] 39)).setRow w.heap.size c' = w2 at *
  have E2 := ZnC S.h g (some (.ext, 0)) (h' := []) (Nat.le_refl _) (fun id x x' h h' => by simp at h')
  have hat : upd own w.heap.size (some (.ext, 0)) w.heap.size = some (.ext, 0) := by simp [upd]
  have hsz : w.heap.size < w2.heap.size := Za4 hrow
  have S' : SRel C.P fa5 (upd own w.heap.size (some (.ext, 0))) ⟨eN W, [], []⟩ a w2 := by
    refine S.owned E2 (fun b id hb => g.blk b (S.h.lt b _ hb)) (fun b x f hx hb => ?_) (fun b x hb => ?_) (fun x _ => Zku S.h g _ x)
    · by_cases hbw : b = w.heap.size
      · subst hbw; rw [hat] at hb; simp only [Option.some.injEq, Prod.mk.injEq] at hb; exact absurd hb.1.symm hx
      · simpa [upd, hbw] using hb
    · by_cases hbw : b = w.heap.size
      · omega
      · have : own b = some x := by simpa [upd, hbw] using hb
        exact Nat.lt_of_lt_of_le (S.h.lt b _ this) g.size
  refine Zsp g2 (w' := w2) (by
    simp only [execOp, p2, e6, e138, Sem.run_bind, r1, Result.andThen_ok]
    rfl) ?_
  have S1 := S'.putNo (t := 138) (v := .agg #[nmF, .slice none 0 0]) rfl (by rw [nt5]; decide)
  have S2 := S1.put (dst := some 6) (x := .a (.raw (.pointer (some ⟨w.heap.size, 0, none⟩)))) (v := .pointer (some ⟨w.heap.size, 0, none⟩)) (st' := ⟨eP W (.pointer (some ⟨w.heap.size, 0, none⟩)), [], []⟩) (fun t _ => .raw _ rfl) (by kernel_rfl)
  refine hQ (.pointer (some ⟨w.heap.size, 0, none⟩)) _ _ _ ⟨?_, F.trans (ZgK g _), E.trans E2, ?_⟩
  · exact S2
  · refine ⟨w.heap.size, c', 39, .slice none 0 0, rfl, hat, F.size, hrow, ?_, ?_, ?_, .inl ⟨rfl, none, rfl⟩, fun b off l cap hv _ => by cases hv⟩
    · rw [r2]; rfl
    · rw [r3 0]; rfl
    · rw [r3 1]; rfl
end Go.Abs
namespace Go.Abs
open Go.Proofs
theorem Yfn : ∃ b, C.elemBytes 22 = some b ∧ b ≤ 100 := ⟨80, by kernel_rfl, by decide⟩
theorem rmV {n : Nat} (h : n ≤ 2 ^ 40) : ZbL C 22 n = true := by
  obtain ⟨b, hb, hl⟩ := Yfn
  simp only [ZbL, hb, Bool.and_eq_true, Nat.ble_eq]
  have : n * b ≤ 2 ^ 40 * 100 := Nat.mul_le_mul h hl
  exact ⟨by omega, by omega⟩
theorem ZrQ : C.elemSize 22 = some 6 := by kernel_rfl
theorem YeM : C.elemOk 22 6 = true := by kernel_rfl
def x5 : DV := .agg [.int .u8 1, .str [120], .int .i64 0, .str [], .bool false]
def xV : DV := .agg [.int .u8 1, .str [120], .int .i64 0, .str [], .bool false, .slc []]
def eL (W : DV) (p : Value) (i : Nat) : List (Nat × SV) := eP W p ++ [(7, .val (.d (.int .i64 (i : Int))))]
noncomputable abbrev l14 : List Oper := [ZeU R5_14 0, ZeU R5_14 1, ZeU R5_14 2, ZeU R5_14 3, ZeU R5_14 4, ZeU R5_14 5, ZeU R5_14 6, ZeU R5_14 7]
theorem q5_14 : R5_14 = .region 14 (ops R5_14) false ∧ (ops R5_14).toList = l14 := ⟨by kernel_rfl, by kernel_rfl⟩
def t4 (es : List DV) : List (Nat × XV) := [(147, .a (.d (.slc [xV]))), (146, .a (.d xV)), (145, .a (.d x5)), (144, .own es)]
def t5 (es : List DV) : List (Nat × XV) := ins (ins (t4 es) 144 (.a (.d (.slc es)))) 148 (.own (es ++ [xV]))
theorem Ye9 {call : Zaa} (W : DV) (p : Value) (i : Nat) (es : List DV) : Zan C call fa5 l14 [ZeU R5_14 2, ZeU R5_14 3, ZeU R5_14 4] ⟨eL W p i, [(144, .own es)], []⟩ = some ⟨eL W p i, t4 es, []⟩ := by kernel_rfl
theorem YdE {call : Zaa} (W : DV) (p : Value) (i : Nat) (es : List DV) : Zan C call fa5 l14 [ZeU R5_14 5] ⟨eL W p i, t4 es, []⟩ = (match Zay C fa5 ⟨eL W p i, t4 es, []⟩ (some 148) 22 (.tmp 144) (.tmp 147) with
  | some s => some s
  | none => none) := by kernel_rfl
theorem Yer {call : Zaa} (W : DV) (p : Value) (i n : Nat) (hn : n ≤ 1000) : Zan C call fa5 l14 [ZeU R5_14 5] ⟨eL W p i, t4 (List.replicate n xV), []⟩ = some ⟨eL W p i, t5 (List.replicate n xV), []⟩ := by
  rw [YdE]
  have h1 : ZbL C 22 ((List.replicate n xV).length + [xV].length) = true := rmV (by simp; omega)
  have h2 : Zao 6 ((List.replicate n xV).take 1) = true := by cases n <;> rfl
  have h3 : opD ⟨eL W p i, t4 (List.replicate n xV), []⟩ (.tmp 147) = some (.slc [xV]) := rfl
  have h4 : opd ⟨eL W p i, t4 (List.replicate n xV), []⟩ (.tmp 144) = some (.a (.d (.slc (List.replicate n xV)))) := rfl
  have h5 : Zbx ⟨eL W p i, t4 (List.replicate n xV), []⟩ (.tmp 144) = some (List.replicate n xV) := rfl
  have h6 : ZaG fa5 (some 148) = false := by kernel_rfl
  have h7 : Zao 6 [xV] = true := rfl
  unfold Zay
  simp only [ZrQ, h3, h4, h5, h1, h2, h6, h7, YeM, Bool.and_self, cond_true, cond_false]
  rfl
section
variable {fa : FA} {own own' Zbo own1 : Own} {a : Act} {w w' w0 : World} {b f : Nat} {x y : Owner}
theorem Yc6 (F : Frm w0 Zbo w own) (hb : own b = some (x, f)) (hx : x ≠ .ext) : Fr0 w0 Zbo b := by
  intro hlt
  refine ⟨fun h => ?_, fun g h => ?_⟩
  · have := (F.blk b hlt (.inl h)).2; rw [hb, h] at this; cases this
  · have := (F.blk b hlt (.inr ⟨g, h⟩)).2; rw [hb, h] at this; simp only [Option.some.injEq, Prod.mk.injEq] at this; exact hx this.1
theorem Zz8 (H : HRel C.P w own []) (hb : own b = some (x, f)) (hy : ∀ id, y ≠ .obj id) : HRel C.P w (Zc0 own b y f) [] := by
  refine ⟨fun id o h => by simp at h, fun k k' z g g' h1 h2 hz => ?_, fun k z hk => ?_, fun k id g hk => ?_⟩
  · rcases ZbW h1 with ⟨rfl, e, _⟩ | ⟨n1, e1, e2⟩ <;> rcases ZbW h2 with ⟨rfl, e', _⟩ | ⟨n1', e1', e2'⟩
    · rfl
    · exact absurd e e2'
    · exact absurd e' e2
    · exact H.uniq k k' z g g' e1 e1' hz
  · rcases z with ⟨z, g⟩
    rcases ZbW hk with ⟨rfl, _⟩ | ⟨_, e, _⟩
    · exact H.lt _ _ hb
    · exact H.lt _ _ e
  · rcases ZbW hk with ⟨_, e, _⟩ | ⟨_, e, _⟩
    · exact absurd e.symm (hy id)
    · exact H.idlt _ _ _ e
theorem Yak (hb : own b = some (x, f)) : ExtA w own [] w (Zc0 own b y f) [] := by
  refine ⟨⟨fun k i v hc hp => ⟨hc, fun z g hz => ?_⟩, fun k es c hc hn => ⟨hc, ?_⟩⟩, Nat.le_refl _, fun id o o' h => by simp at h, fun k id o o' _ h => by simp at h⟩
  · rcases ZbW hz with ⟨rfl, _, rfl⟩ | ⟨_, e, _⟩
    · exact hp x _ hb
    · exact hp z g e
  · exact Zhj hn (fun h => by subst h; rw [hb] at hn; cases hn)
theorem Zz3 (hb : own b = some (x, f)) {z : Owner} (hx : z ≠ x) (hy : z ≠ y) : Keep w own w (Zc0 own b y f) z := by
  intro k g hk
  exact ⟨Zfl hk (fun h => by subst h; rw [hb] at hk; simp only [Option.some.injEq, Prod.mk.injEq] at hk; exact hx hk.1.symm) hy, rfl⟩
theorem Yap (F : Frm w0 Zbo w own) (hb : Fr0 w0 Zbo b) (hy : y ≠ .ext) : Frm w0 Zbo w (Zc0 own b y f) := by
  refine ⟨F.os, F.tape, F.output, F.size, fun k hk ho => ?_⟩
  obtain ⟨e1, e2⟩ := F.blk k hk ho
  have hne : k ≠ b := fun h => by
    subst h
    rcases ho with ho | ⟨g, ho⟩
    · exact (hb hk).1 ho
    · exact (hb hk).2 g ho
  refine ⟨e1, ?_⟩
  rcases ho with ho | ⟨g, ho⟩
  · rw [ho] at e2 ⊢; exact Zhj e2 hne
  · rw [ho] at e2 ⊢; exact Zfl e2 hne (Ne.symm hy)
theorem ZwU : upd own b (some (y, f)) b = some (y, f) := by simp [upd]
theorem ZhF {k : Nat} {z : Option (Owner × Nat)} (h : k ≠ b) : upd own b z k = own k := by simp [upd, h]
theorem Ydx (H : HRel C.P w own []) (hb : own b = some (x, f)) : HRel C.P w (upd own b (some (.ext, f))) [] := by
  have cs : ∀ k z, upd own b (some (.ext, f)) k = some z → (k = b ∧ z = (.ext, f)) ∨ (k ≠ b ∧ own k = some z) := fun k z hk => by
    by_cases h : k = b
    · subst h; rw [ZwU] at hk; exact .inl ⟨rfl, by simpa using hk.symm⟩
    · rw [ZhF h] at hk; exact .inr ⟨h, hk⟩
  refine ⟨fun id o h => by simp at h, fun k k' z g g' h1 h2 hz => ?_, fun k z hk => ?_, fun k id g hk => ?_⟩
  · rcases cs k _ h1 with ⟨rfl, e⟩ | ⟨_, e⟩
    · simp only [Prod.mk.injEq] at e; exact absurd e.1 hz
    · rcases cs k' _ h2 with ⟨rfl, e'⟩ | ⟨_, e'⟩
      · simp only [Prod.mk.injEq] at e'; exact absurd e'.1 hz
      · exact H.uniq k k' z g g' e e' hz
  · rcases cs k _ hk with ⟨rfl, e⟩ | ⟨_, e⟩
    · exact H.lt _ _ hb
    · exact H.lt _ _ e
  · rcases cs k _ hk with ⟨rfl, e⟩ | ⟨_, e⟩
    · simp at e
    · exact H.idlt _ _ _ e
theorem Ydu (hb : own b = some (x, f)) : ExtA w own [] w (upd own b (some (y, f))) [] := by
  refine ⟨⟨fun k i v hc hp => ⟨hc, fun z g hz => ?_⟩, fun k es c hc hn => ⟨hc, ?_⟩⟩, Nat.le_refl _, fun id o o' h => by simp at h, fun k id o o' _ h => by simp at h⟩
  · by_cases h : k = b
    · subst h; rw [ZwU] at hz; simp only [Option.some.injEq, Prod.mk.injEq] at hz; have := hp x _ hb; omega
    · rw [ZhF h] at hz; exact hp z g hz
  · rw [ZhF (fun h => by subst h; rw [hb] at hn; cases hn)]; exact hn
theorem Yah (hb : own b = some (x, f)) {z : Owner} (hx : z ≠ x) : Keep w own w (upd own b (some (y, f))) z := by
  intro k g hk
  exact ⟨by rw [ZhF (fun h => by subst h; rw [hb] at hk; simp only [Option.some.injEq, Prod.mk.injEq] at hk; exact hx hk.1.symm)]; exact hk, rfl⟩
theorem Yaa (F : Frm w0 Zbo w own) (hb : Fr0 w0 Zbo b) {z : Option (Owner × Nat)} : Frm w0 Zbo w (upd own b z) := by
  refine ⟨F.os, F.tape, F.output, F.size, fun k hk ho => ?_⟩
  obtain ⟨e1, e2⟩ := F.blk k hk ho
  have hne : k ≠ b := fun h => by
    subst h
    rcases ho with ho | ⟨g, ho⟩
    · exact (hb hk).1 ho
    · exact (hb hk).2 g ho
  exact ⟨e1, by rw [ZhF hne, e2]⟩
theorem SRel.reKeep {e : List (Nat × SV)} (S : SRel C.P fa own ⟨e, [], []⟩ a w) (H : HRel C.P w' own' []) (E : ExtA w own [] w' own' []) (hk : ∀ s, Keep w own w' own' (.own s) ∧ Keep w own w' own' (.box s)) : SRel C.P fa own' ⟨e, [], []⟩ a w' :=
  ⟨H, S.nt, S.defers, S.ek, S.tk, fun s sv hs => (S.env s sv hs).mono E (hk s).2 (hk s).1, fun t x hx => by cases hx⟩
theorem SRel.tmpOwn {e : List (Nat × SV)} {t : Nat} {v : Value} {es : List DV} (S : SRel C.P fa own ⟨e, [], []⟩ a w) (ht : has fa.keep t = false) (hlt : t < fa.nt) (he : Zab e t = none) (hO : OwnRel C.P w own (.tmp t) v es) : SRel C.P fa own ⟨e, [(t, .own es)], []⟩ (a.put (some t) v) w := by
  have S1 := S.putNo (v := v) he hlt
  have hs : t < a.tmps.size := by rw [S.nt]; exact hlt
  have inv : ∀ u x, Zab [(t, XV.own es)] u = some x → u = t ∧ x = .own es := fun u x hx => by
    simp only [Zab] at hx
    cases hb : Nat.beq t u with
    | true => rw [hb] at hx; have := Nat.eq_of_beq_eq_true hb; exact ⟨this.symm, by simpa using hx.symm⟩
    | false => rw [hb] at hx; simp at hx
  refine ⟨S1.h, S1.nt, S1.defers, S1.ek, fun u x hx => ?_, S1.env, fun u x hx => ?_⟩
  · obtain ⟨rfl, _⟩ := inv u x hx; exact ht
  · obtain ⟨rfl, rfl⟩ := inv u x hx
    show OwnRel C.P w own (.tmp u) ((a.put (some u) v).tmps.getD u undef) es
    rw [ZeP hs, if_pos rfl]
    exact hO
end
end Go.Abs
namespace Go.Abs
open Go.Proofs
theorem f39 : ∃ fd, C.field 39 1 = some fd ∧ C.hasSize fd.type = true ∧ fd.offset = 1 := by
  have h : (match C.field 39 1 with | some fd => C.hasSize fd.type && Nat.beq fd.offset 1 | none => false) = true := by kernel_rfl
  cases hf : C.field 39 1 with
  | none => rw [hf] at h; cases h
  | some fd =>
    rw [hf] at h
    simp only [Bool.and_eq_true] at h
    exact ⟨fd, rfl, h.1, Nat.eq_of_beq_eq_true h.2⟩
theorem ag22 : C.isAgg 22 = some false := by kernel_rfl
theorem cs22 : C.size 22 = some 1 := by kernel_rfl
theorem o14 : (ZeU R5_14 0).guard = none ∧ (ZeU R5_14 0).dst = some 143 ∧ (ZeU R5_14 0).op = .fieldAddr 39 (.tmp 6) 1 ∧ (ZeU R5_14 1).guard = none ∧ (ZeU R5_14 1).dst = some 144 ∧ (ZeU R5_14 1).op = .load 22 (.tmp 143) ∧
    (ZeU R5_14 6).guard = none ∧ (ZeU R5_14 6).dst = some 149 ∧ (ZeU R5_14 6).op = .fieldAddr 39 (.tmp 6) 1 ∧ (ZeU R5_14 7).guard = none ∧ (ZeU R5_14 7).dst = none ∧ (ZeU R5_14 7).op = .store 22 (.tmp 149) (.tmp 148) := by
  refine ⟨?_, ?_, ?_, ?_, ?_, ?_, ?_, ?_, ?_, ?_, ?_, ?_⟩ <;> kernel_rfl
theorem k14 : has fa5.keep 144 = false ∧ has fa5.keep 143 = false ∧ has fa5.keep 149 = false := by refine ⟨?_, ?_, ?_⟩ <;> kernel_rfl
theorem Zu0 {b0 : Nat} {w : World} {a : Act} {o : Oper} (ho : o.op = .fieldAddr 39 (.tmp 6) 1) (e6 : a.eval (.tmp 6) = .pointer (some ⟨b0, 0, none⟩)) : (execOp a.eval o).run C.P w = .ok (.value (.pointer (some ⟨b0, 1, none⟩))) w := by
  obtain ⟨fd, h1, h2, h3⟩ := f39
  simp only [execOp, ho, e6, Sem.run_bind, ZkY h1 h2, Result.andThen_ok, Sem.run_pure, h3]
theorem YcW {b0 : Nat} {w : World} {a : Act} {o : Oper} {c0 : Array Value} {T0 : TypeId} {v : Value} (ho : o.op = .load 22 (.tmp 143)) (e : a.eval (.tmp 143) = .pointer (some ⟨b0, 1, none⟩)) (hw : w.heap[b0]? = some (.cells c0 T0 (0, 0))) (hv : c0[1]? = some v) (h1 : v.oneCell' = true) :
    (execOp a.eval o).run C.P w = .ok (.value v) w := by
  obtain ⟨u, hu, hr⟩ := Zk0 (C := C) (own := fun _ => none) (w := w) (t := 22) (b := b0) (off := 1) (cs := [.raw v]) (d := .raw v) (h := []) (fun j x hx => by
    rcases j with _ | j
    · simp only [List.getElem?_cons_zero, Option.some.injEq] at hx
      subst hx
      exact ⟨v, by rw [cell_of_row w b0 _ c0 T0 (0, 0) hw]; exact hv, h1, .raw _ h1⟩
    · simp at hx) (by simp only [Zal, ag22])
  have := Zlt hr
  subst this
  simp only [execOp, ho, e, Instr.loadAt, Instr.sureAddr, Sem.run_bind, Sem.run_pure, Result.andThen_ok, hu]
theorem Yey {w0 : World} {Zbo : Own} {call : Zaa} (hK : Zba C.P call) (W : DV) {p : Value} {i n : Nat} (hn : n ≤ 1000) {own : Own} {a : Act} {w : World} (J : JN w0 Zbo ⟨eL W p i, [], []⟩ p (List.replicate n xV) own a w) {Q : Exit → Act → World → Prop}
    (hQ : ∀ own' a' w', JN w0 Zbo ⟨eL W p i, [], []⟩ p (List.replicate (n + 1) xV) own' a' w' → Q .normal a' w') : R5_14.wp C.P Q a w := by
  rw [q5_14.1]
  refine wp_region_list ?_
  have hall : (ops R5_14) = l14.toArray := by rw [← q5_14.2]
  rw [q5_14.2, hall]
  obtain ⟨g0, d0, p0, g1, d1, p1, g6, d6, p6, g7, d7, p7⟩ := o14
  obtain ⟨k144, k143, k149⟩ := k14
  obtain ⟨S, F, E, hq⟩ := J
  obtain ⟨b0, c0, T0, v, rfl, q2, q3, q4, q5, q6, q7, q8, q9⟩ := hq
  have e6 : a.eval (.tmp 6) = .pointer (some ⟨b0, 0, none⟩) := Zlt (S.env 6 _ rfl)
  have hs0 : a.tmps.size = 342 := by rw [S.nt]; exact nt5
  have hv1 : v.oneCell' = true := by
    rcases q8 with ⟨_, x, rfl⟩ | ⟨b, cap, c, T, i, _, rfl, _⟩ <;> rfl
  refine ZlO g0 (Zu0 p0 e6) ?_
  rw [d0]
  have S1 := S.putNo (t := 143) (v := .pointer (some ⟨b0, 1, none⟩)) rfl (by rw [nt5]; decide)
  have e143 : (a.put (some 143) (.pointer (some ⟨b0, 1, none⟩))).eval (.tmp 143) = .pointer (some ⟨b0, 1, none⟩) := by
    show (a.put (some 143) _).tmps.getD 143 undef = _
    rw [ZeP (by rw [hs0]; decide), if_pos rfl]
  refine ZlO g1 (YcW p1 e143 q4 q7 hv1) ?_
  rw [d1]
  have key : ∃ own1, SRel C.P fa5 own1 ⟨eL W (.pointer (some ⟨b0, 0, none⟩)) i, [(144, .own (List.replicate n xV))], []⟩ ((a.put (some 143) (.pointer (some ⟨b0, 1, none⟩))).put (some 144) v) w ∧ Frm w0 Zbo w own1 ∧ ExtA w0 Zbo [] w own1 [] ∧ own1 b0 = some (.ext, 0) := by
    rcases q8 with ⟨h1, x, rfl⟩ | ⟨b1, cap, c, T, inf, h1, rfl, h3, h4, h5, h6, h7, h8, h9, h10, h11⟩
    · exact ⟨own, S1.tmpOwn k144 (by rw [nt5]; decide) rfl (.inl ⟨h1, x, rfl⟩), F, E, q2⟩
    · have hne : b0 ≠ b1 := by
        intro h
        subst h
        rw [q2] at h3
        simp only [Option.some.injEq, Prod.mk.injEq, true_and] at h3
        have : 0 < (List.replicate n xV).length := List.length_pos_iff.2 h1
        have := Nat.mul_pos this h6
        omega
      have hf := q9 b1 _ _ _ rfl h1
      have Et := Yak (w := w) (y := .tmp 144) h3
      have S2 := S1.reKeep (Zz8 S1.h h3 (y := .tmp 144) (by simp)) Et (fun s => ⟨Zz3 h3 (by simp) (by simp), Zz3 h3 (by simp) (by simp)⟩)
      refine ⟨_, S2.tmpOwn k144 (by rw [nt5]; decide) rfl (.inr ⟨b1, cap, c, T, inf, h1, rfl, ZcE _ _ _ _, h4, h5, h6, h7, h8, h9, h10.mono Et.ext, h11⟩), Yap F hf (by simp), E.trans Et, Zfl q2 hne (by simp)⟩
  obtain ⟨own1, S2, F2, E2, q2'⟩ := key
  refine ZeO (rest := [ZeU R5_14 5, ZeU R5_14 6, ZeU R5_14 7]) Go.Tev.S1.noCount hK [ZeU R5_14 2, ZeU R5_14 3, ZeU R5_14 4] _ own1 _ w (Ye9 W _ i _) S2 fun a3 w3 own3 S3 F3 E3 => ?_
  refine ZeO (rest := [ZeU R5_14 6, ZeU R5_14 7]) Go.Tev.S1.noCount hK [ZeU R5_14 5] _ own3 _ w3 (Yer W _ i n hn) S3 fun a4 w4 own4 S4 F4 E4 => ?_
  have FF := F3.trans F4
  have EE := E3.trans E4
  obtain ⟨k1, k2⟩ := Zta S2.h FF b0 0 q2'
  have hrow : w4.heap[b0]? = some (.cells c0 T0 (0, 0)) := by rw [k2, q4]
  have hown := S4.tmp 148 (.own (List.replicate n xV ++ [xV])) rfl
  rcases hown with ⟨h1, _⟩ | ⟨b2, cap, c, T, inf, h1, h2, h3, h4, h5, h6, h7, h8, h9, h10, h11⟩
  · simp at h1
  have e6' : a4.eval (.tmp 6) = .pointer (some ⟨b0, 0, none⟩) := Zlt (S4.env 6 _ rfl)
  have hs4 : a4.tmps.size = 342 := by rw [S4.nt]; exact nt5
  refine ZlO g6 (Zu0 p6 e6') ?_
  rw [d6]
  have e149 : (a4.put (some 149) (.pointer (some ⟨b0, 1, none⟩))).eval (.tmp 149) = .pointer (some ⟨b0, 1, none⟩) := by
    show (a4.put (some 149) _).tmps.getD 149 undef = _
    rw [ZeP (by rw [hs4]; decide), if_pos rfl]
  have e148 : (a4.put (some 149) (.pointer (some ⟨b0, 1, none⟩))).eval (.tmp 148) = .slice (some ⟨b2, 0, none⟩) (List.replicate n xV ++ [xV]).length cap := by
    show (a4.put (some 149) _).tmps.getD 148 undef = _
    rw [ZeP (by rw [hs4]; decide), if_neg (by decide)]
    exact h2
  generalize hL : List.replicate n xV ++ [xV] = L at *
  obtain ⟨c', r1, r2, r3⟩ := ZeS (C := C) (t := 22) (v := .slice (some ⟨b2, 0, none⟩) L.length cap) (n := 1) (off := 1) cs22 rfl (fun i u hu => by
    rcases i with _ | i
    · cases hu; rfl
    · simp [Value.cells] at hu) hrow (fun j _ hj => by simp at hj) (by rw [q5]; decide)
  refine Zsp g7 (w' := w4.setRow b0 c') (by
    simp only [execOp, p7, e149, e148, Sem.run_bind, r1, Result.andThen_ok]
    rfl) ?_
  rw [d7]
  have hne : b2 ≠ b0 := by
    intro h
    subst h
    rw [k1] at h3
    simp at h3
  have Ea := Zjp (h := []) (h' := []) k1 hrow r2 (Nat.le_refl _) (fun id y y' h => by simp at h)
  have Eb := Ydu (w := w4.setRow b0 c') (y := .ext) h3
  have S5 := (S4.dropTmp).putNo (t := 149) (v := .pointer (some ⟨b0, 1, none⟩)) rfl (by rw [nt5]; decide)
  have S6 := S5.reKeep (w' := w4.setRow b0 c') (own' := upd own4 b2 (some (.ext, L.length * inf.size))) (Ydx (w := w4.setRow b0 c') ⟨fun id o h => by simp at h, S4.h.uniq, fun b x hb => by rw [size_setRow]; exact S4.h.lt b x hb, fun b id f hb => absurd (S4.h.idlt b id f hb).1 (Nat.not_lt_zero _)⟩ h3) (Ea.trans Eb)
    (fun s => ⟨fun k g hk => by
      obtain ⟨x1, x2⟩ := ZcC (w := w4) (c' := c') k1 (.own s) (by simp) k g hk
      obtain ⟨y1, y2⟩ := Yah (w := w4.setRow b0 c') (y := .ext) h3 (z := .own s) (by simp) k g x1
      exact ⟨y1, by rw [x2]⟩, fun k g hk => by
      obtain ⟨x1, x2⟩ := ZcC (w := w4) (c' := c') k1 (.box s) (by simp) k g hk
      obtain ⟨y1, y2⟩ := Yah (w := w4.setRow b0 c') (y := .ext) h3 (z := .box s) (by simp) k g x1
      exact ⟨y1, by rw [x2]⟩⟩)
  have Fw4 : Frm w0 Zbo w4 own4 := F2.trans FF
  have hfb2 : Fr0 w0 Zbo b2 := Yc6 Fw4 h3 (by simp)
  have F5 : Frm w0 Zbo (w4.setRow b0 c') own4 := ⟨Fw4.os, Fw4.tape, Fw4.output, by rw [size_setRow]; exact Fw4.size, fun k hk ho => by
    obtain ⟨x1, x2⟩ := Fw4.blk k hk ho
    exact ⟨by rw [setRow_other _ _ _ _ (by omega)]; exact x1, x2⟩⟩
  have hrow2 := setRow_heap w4 b0 c0 c' T0 (0, 0) hrow
  refine hQ _ _ _ ⟨S6, Yaa F5 hfb2, (E2.trans EE).trans (Ea.trans Eb), ?_⟩
  rw [List.replicate_succ', hL]
  refine ⟨b0, c', T0, _, rfl, by rw [ZhF (Ne.symm hne)]; exact k1, q3, hrow2, by rw [r2, q5], ?_, ?_, .inr ⟨b2, cap, c, T, inf, h1, rfl, ZwU, by rw [setRow_other _ _ _ _ hne]; exact h4, h5, h6, h7, h8, h9, ?_, h11⟩, fun b off l cap' hv _ => ?_⟩
  · rw [r3 0, if_neg (by omega)]; exact q6
  · rw [r3 1, if_pos (by omega)]; rfl
  · have := h10.mono (Ea.trans Eb).ext
    rw [h2] at this
    exact this
  · cases hv; exact hfb2
end Go.Abs
namespace Go.Abs
open Go.Proofs Go.Tev.S1
section
variable {w0 : World} {Zbo own : Own} {p : Value} {es : List DV} {a : Act} {w : World} {st s : St} {c : Code} {Q1 : Out → Prop}
theorem ZvA (h : Tri C fa5 c st Q1) (J : JN w0 Zbo st p es own a w) {Q : Exit → Act → World → Prop} (hQ : ∀ o own' a' w', Q1 o → JN w0 Zbo o.st p es own' a' w' → Q o.ex a' w') : c.wp C.P Q a w :=
  wp_mono (h own a w J.s) fun e a' w' ⟨o, h1, he, own', S, F, E⟩ => by rw [he]; exact hQ o own' a' w' h1 ⟨S, J.f.trans F, J.e.trans E, J.q.frm J.s.h F E⟩
theorem JN.sub (J : JN w0 Zbo st p es own a w) (h : Sub s st) : JN w0 Zbo s p es own a w := ⟨J.s.sub h, J.f, by rw [h.heap]; exact J.e, J.q⟩
end
theorem t12 {call : Zaa} (W : DV) (p : Value) (i : Nat) : evQ C call fa5 0 ZyG ⟨eL W p i, [], []⟩ = some (.norm ⟨eL W p i ++ [(140, .val (.d (.bool (decide ((i : Int) < 1000)))))], [], []⟩) := by kernel_rfl
theorem t13 {call : Zaa} (W : DV) (p : Value) (i : Nat) : evQ C call fa5 0 ZxU ⟨eL W p i, [], []⟩ = some (.norm ⟨eP W p ++ [(7, .val (.d (.int .i64 (IntKind.i64.wrap ((i : Int) + 1)))))], [], []⟩) := by kernel_rfl
theorem t11 {call : Zaa} (W : DV) (p : Value) : evQ C call fa5 0 ZyA ⟨eP W p, [], []⟩ = some (.norm ⟨eL W p 0, [], []⟩) := by kernel_rfl
theorem okc : okC fa5 ZyA = true ∧ okC fa5 ZyG = true ∧ okC fa5 ZxU = true := by refine ⟨?_, ?_, ?_⟩ <;> kernel_rfl
theorem ZkE {α : Type} {m : List (Nat × α)} {k : Nat} {v : α} : ∀ {l : List (Nat × α)}, Zab l k = some v → Zab (l ++ m) k = some v
  | [], h => by cases h
  | (j, u) :: l, h => by
    simp only [List.cons_append, Zab] at h ⊢
    cases hb : Nat.beq j k with
    | true => rw [hb] at h; exact h
    | false => rw [hb] at h; exact ZkE h
theorem Yes (W : DV) (p : Value) (i : Nat) (b : Bool) : Sub ⟨eL W p i, [], []⟩ ⟨eL W p i ++ [(140, .val (.d (.bool b)))], [], []⟩ := ⟨fun k v hk => ZkE hk, rfl, rfl⟩
theorem Yc4 {w0 : World} {Zbo : Own} {call : Zaa} (hK : Zba C.P call) (W : DV) {p : Value} {own : Own} {a : Act} {w : World} (J : JN w0 Zbo ⟨eP W p, [], []⟩ p [] own a w) {Q : Exit → Act → World → Prop}
    (hQ : ∀ own' a' w', JN w0 Zbo ⟨eP W p, [], []⟩ p (List.replicate 1000 xV) own' a' w' → Q .normal a' w') : (Code.seq ZyA (.block 2 (.loop (.seq (.seq ZyG (.cond (.tmp 140) .skip (.exit 2))) (.seq (.block 3 R5_14) ZxU))))).wp C.P Q a w := by
  refine wp_seq (ZvA (Zcj noCount mixed hK (Q := fun o => o = .norm ⟨eL W p 0, [], []⟩) okc.1 (t11 W p) rfl) J fun o own' a' w' h J1 => ?_)
  subst h
  refine wp_block ?_
  refine ZgJ (fun n a' w' => ∃ i own', i ≤ 1000 ∧ n = 1000 - i ∧ JN w0 Zbo ⟨eL W p i, [], []⟩ p (List.replicate i xV) own' a' w') 1000 ⟨0, own', by omega, rfl, J1⟩ ?_
  rintro n a2 w2 ⟨i, own2, hi, rfl, J2⟩
  refine wp_seq (wp_seq (ZvA (Zcj noCount mixed hK (Q := fun o => o = .norm _) okc.2.1 (t12 W p i) rfl) J2 fun o own3 a3 w3 h J3 => ?_))
  subst h
  have hc : a3.eval (.tmp 140) = .bool (decide ((i : Int) < 1000)) := (show ARep C.P w3 own3 [] _ _ from J3.s.env 140 _ rfl).d_inv.bool_inv
  refine wp_cond hc ?_
  have J4 := J3.sub (Yes W p i (decide ((i : Int) < 1000)))
  by_cases hlt : i < 1000
  · rw [decide_eq_true (by omega)]
    refine wp_skip ?_
    refine wp_seq (wp_block (Yey hK W hi J4 fun own5 a5 w5 J5 => ?_))
    refine ZvA (Zcj noCount mixed hK (Q := fun o => o = .norm _) okc.2.2 (t13 W p i) rfl) J5 fun o own6 a6 w6 h J6 => ?_
    subst h
    refine ⟨1000 - (i + 1), by omega, i + 1, own6, by omega, rfl, ?_⟩
    rw [Go.Tev.wrap_add1 (by omega)] at J6
    exact J6
  · rw [decide_eq_false (by omega)]
    have : i = 1000 := by omega
    subst this
    refine wp_exit ?_
    exact hQ _ _ _ (J4.sub ⟨fun k v hk => ZkE hk, rfl, rfl⟩)
end Go.Abs
namespace Go.Abs
open Go.Proofs Go.Tev.S1
theorem ZwG {own : Own} {b : Nat} {z : Option (Owner × Nat)} : upd own b z b = z := by simp [upd]
theorem Znr {α : Type} {m : List (Nat × α)} {k : Nat} {v : α} : ∀ {l : List (Nat × α)}, Zab (l ++ m) k = some v → Zab l k = some v ∨ Zab m k = some v
  | [], h => .inr h
  | (j, u) :: l, h => by
    simp only [List.cons_append, Zab] at h ⊢
    cases hb : Nat.beq j k with
    | true => rw [hb] at h; exact .inl h
    | false => rw [hb] at h; exact Znr h
theorem YdR {W : DV} {k : Nat} {sv : SV} (h : Zab (eN W) k = some sv) : ∃ x, sv = .val (.d x) := by
  simp only [eN, Zab] at h
  repeat' (first | (cases hb : Nat.beq _ k <;> rw [hb] at h <;> simp only [cond_true, cond_false, Option.some.injEq] at h) | exact ⟨_, h.symm⟩ | cases h)
def eB (W : DV) (es : List DV) : List (Nat × SV) := eN W ++ [(6, .box [.str [45, 45, 102], .slc es])]
theorem Yfi {w0 : World} {Zbo : Own} {W : DV} {p : Value} {es : List DV} {own : Own} {a : Act} {w : World} (J : JN w0 Zbo ⟨eP W p, [], []⟩ p es own a w) (hes : es ≠ []) :
    ∃ own', SRel C.P fa5 own' ⟨eB W es, [], []⟩ a w ∧ Frm w0 Zbo w own' ∧ ExtA w0 Zbo [] w own' [] := by
  obtain ⟨S, F, E, b0, c0, T0, v, rfl, q2, q3, q4, q5, q6, q7, q8, q9⟩ := J
  rcases q8 with ⟨h1, _⟩ | ⟨b1, cap, c, T, inf, h1, rfl, h3, h4, h5, h6, h7, h8, h9, h10, h11⟩
  · exact absurd h1 hes
  have hne : b0 ≠ b1 := by
    intro h
    subst h
    rw [q2] at h3
    simp only [Option.some.injEq, Prod.mk.injEq, true_and] at h3
    have : 0 < es.length := List.length_pos_iff.2 h1
    have := Nat.mul_pos this h6
    omega
  have hf1 : Fr0 w0 Zbo b1 := q9 b1 _ _ _ rfl h1
  have hf0 : Fr0 w0 Zbo b0 := fun h => by omega
  have E1 := Yak (w := w) (y := .box 6) q2
  have H1 := Zz8 S.h q2 (y := .box 6) (by simp)
  have h3' : Zc0 own b0 (.box 6) 0 b1 = some (.ext, es.length * inf.size) := Zfl h3 (Ne.symm hne) (by simp)
  have E2 : ExtA w (Zc0 own b0 (.box 6) 0) [] w (upd (Zc0 own b0 (.box 6) 0) b1 none) [] := by
    refine ⟨⟨fun k i u hc hp => ⟨hc, fun z g hz => ?_⟩, fun k es c hc hn => ⟨hc, ?_⟩⟩, Nat.le_refl _, fun id o o' h => by simp at h, fun k id o o' _ h => by simp at h⟩
    · by_cases h : k = b1
      · subst h; rw [ZwG] at hz; cases hz
      · rw [ZhF h] at hz; exact hp z g hz
    · rw [ZhF (fun h => by subst h; rw [h3'] at hn; cases hn)]; exact hn
  have EE := E1.trans E2
  have cs : ∀ k z, upd (Zc0 own b0 (.box 6) 0) b1 none k = some z → Zc0 own b0 (.box 6) 0 k = some z := fun k z hk => by
    by_cases h : k = b1
    · subst h; rw [ZwG] at hk; cases hk
    · rwa [ZhF h] at hk
  refine ⟨upd (Zc0 own b0 (.box 6) 0) b1 none, ⟨⟨fun id o h => by simp at h, fun k k' z g g' x y hz => H1.uniq k k' z g g' (cs _ _ x) (cs _ _ y) hz, fun k z hk => H1.lt k z (cs _ _ hk), fun k id g hk => H1.idlt k id g (cs _ _ hk)⟩, S.nt, S.defers, fun s sv hs => ?_, fun t x hx => (by cases hx), fun s sv hs => ?_, fun t x hx => (by cases hx)⟩,
    Yaa (Yap F hf0 (by simp)) hf1, E.trans EE⟩
  · rcases Znr hs with h | h
    · exact S.ek s sv (ZkE h)
    · simp only [Zab] at h
      cases hb : Nat.beq 6 s with
      | true => have := Nat.eq_of_beq_eq_true hb; subst this; exact kp5.1
      | false => rw [hb] at h; cases h
  · rcases Znr hs with h | h
    · obtain ⟨x, rfl⟩ := YdR h
      exact ARep.mono (show ARep C.P w own [] _ _ from S.env s _ (ZkE h)) EE
    · simp only [Zab] at h
      cases hb : Nat.beq 6 s with
      | false => rw [hb] at h; cases h
      | true =>
        have := Nat.eq_of_beq_eq_true hb
        subst this
        rw [hb] at h
        simp only [cond_true, Option.some.injEq] at h
        subst h
        refine ⟨b0, c0, T0, (0, 0), by rw [ZhF hne]; exact ZcE _ _ _ _, Zlt (S.env 6 _ rfl), q4, fun j _ hj => by simp at hj, q5, fun j d hd => ?_⟩
        rcases j with _ | _ | j
        · simp only [List.getElem?_cons_zero, Option.some.injEq] at hd; subst hd
          exact ⟨_, q6, rfl, .str _⟩
        · simp only [List.getElem?_cons_succ, List.getElem?_cons_zero, Option.some.injEq] at hd; subst hd
          exact ⟨_, q7, rfl, h10.mono EE.ext⟩
        · simp at hd
end Go.Abs
namespace Go.Abs
open Go.Proofs Go.Tev.S1
def tG (k : Int) (t : List UInt8) (n : Int) (f : Bool) (l : List DV) : DV := .agg [.int .u8 k, .str t, .int .i64 n, .str [], .bool f, .slc l]
def cG (n : List UInt8) (l : List DV) : DV := .agg [.str n, .slc l]
def Zt5 : DV := tG 10 [] 1000 true []
def ZqR : DV := .slc [cG [45, 45, 97] [Zt5], cG [45, 45, 98] [], cG [45, 45, 99] [tG 21 [] 0 false [tG 1 [120] 0 false [], tG 13 [] 0 false [], tG 1 [121] 0 false []]]]
def Ycr : DV := .slc [.slc [cG [97] [Zt5]], .slc [cG [45, 45, 98] [Zt5], cG [45, 45, 97] [Zt5]], .slc [cG [45, 45, 97] [Zt5], cG [45, 45, 97] [Zt5]], .slc [cG [45, 45, 97] [tG 2 [118, 97, 114] 0 false [tG 1 [45, 45, 98] 0 false []]]], .slc (List.replicate 65 (cG [] []))]
def Kno : Zaa := fun _ _ _ => none
end Go.Abs
namespace Go.Tev.S1
open Go.Abs Go.Proofs
theorem Yaq {K : Zaa} (hK : Zba Tryz.prog K) {f : FuncId} {ds : List DV} {d : DV} (h : Zcz (Zac C K) false f ds = some d) : Has Tryz.prog f (ds.map .d) [] (.d d) [] := by
  unfold Zcz at h
  split at h
  · rename_i r h' he
    cases h
    have hh : Has Tryz.prog f (ds.map .d) [] (.d d) h' := Zl6 noCount mixed hK _ _ _ _ _ he
    refine HasN.frozen (R := fun r k => r = .d d ∧ k = h') ⟨hh.1, fun w own vs H hO hl hr => (hh.2 w own vs H hO hl hr).mono ?_⟩ fun r k hr => ⟨0, by rw [hr.1]; rfl⟩
    rintro e w' ⟨v, own', h1, h2, h3, h4, h5, h6⟩
    exact ⟨v, own', _, _, ⟨rfl, rfl⟩, h1, h2, h3, h4, h5, h6⟩
  · cases h
  · cases h
structure Ent where
  f : FuncId
  xs : List AV
  r : AV
  ok : Has Tryz.prog f xs [] r []
def ZzQ : List AV → List AV → Bool
  | [], [] => true
  | .d a :: r, .d b :: s => ZqT a b && ZzQ r s
  | _, _ => false
theorem Zwe : ∀ a b, ZzQ a b = true → a = b
  | [], [], _ => rfl
  | .d a :: r, .d b :: s, h => by
    simp only [ZzQ, Bool.and_eq_true] at h
    rw [Zri a b h.1, Zwe r s h.2]
  | [], _ :: _, h => by simp [ZzQ] at h
  | _ :: _, [], h => by simp [ZzQ] at h
  | .raw _ :: _, _ :: _, h | .ptr .. :: _, _ :: _, h | .osl .. :: _, _ :: _, h | .mp _ :: _, _ :: _, h | .fn .. :: _, _ :: _, h | .tup _ :: _, _ :: _, h => by simp [ZzQ] at h
  | .d _ :: _, .raw _ :: _, h | .d _ :: _, .ptr .. :: _, h | .d _ :: _, .osl .. :: _, h | .d _ :: _, .mp _ :: _, h | .d _ :: _, .fn .. :: _, h | .d _ :: _, .tup _ :: _, h => by simp [ZzQ] at h
def Yd6 : List Ent → Zaa
  | [], _, _, _ => none
  | e :: l, f, args, h => bif Nat.beq f e.f && (h.isEmpty && ZzQ args e.xs) then some (e.r, []) else Yd6 l f args h
theorem ZwH : ∀ l, Zba Tryz.prog (Yd6 l)
  | [], f, args, h, r, h', he => by cases he
  | e :: l, f, args, h, r, h', he => by
    unfold Yd6 at he
    cases hb : (Nat.beq f e.f && (h.isEmpty && ZzQ args e.xs)) with
    | false => rw [hb, cond_false] at he; exact ZwH l _ _ _ _ _ he
    | true =>
      rw [hb, cond_true] at he
      simp only [Bool.and_eq_true] at hb
      cases he
      have h1 := Nat.eq_of_beq_eq_true hb.1
      have h2 := Zwe _ _ hb.2.2
      have h3 : h = [] := List.isEmpty_iff.1 hb.2.1
      subst h1 h2 h3
      exact e.ok
theorem YcU : Zba Tryz.prog Kno := fun f args h r h' he => by cases he
theorem ZbH {f : FuncId} {args : List AV} {r : AV} {n : Nat} (h : Zbf C Kno n f args [] = some (r, [])) : Has Tryz.prog f args [] r [] := ZfV noCount mixed YcU n _ _ _ _ _ h
abbrev Zn9 : List DV := List.replicate 1000 xV
theorem ZnX : (List.replicate 1000 vX).map Val.enc = Zn9 := by rw [List.map_replicate]; rfl
theorem ZvX : (List.replicate 1000 vX ++ [vC]).map Val.enc = Zn9 ++ [vC.enc] := by rw [List.map_append, ZnX]; rfl
theorem okB {l : List Val} {n : Nat} (h : Lng l n) (hn : n ≤ 3000) : Zaz l ≤ V := by rw [h.tot]; exact Nat.le_trans hn (by decide)
theorem okF {c : UInt8} {l : List Val} {n : Nat} (h : Lng l n) (hn : n ≤ 3000) : Zgv [cF c l] := ⟨show 1 ≤ B by decide, fun v hv => by rw [List.mem_singleton] at hv; subst hv; exact okB h hn⟩
theorem Zqs {f : FuncId} {ds : List DV} {d : DV} (h : Zcz (Zac C Kz) false f ds = some d) : Has Tryz.prog f (ds.map .d) [] (.d d) [] := Yaq YfP h
theorem ZrT {l : List Val} {c : List Cus} {x : List Val} {k : Int} (h1 : Zaz l ≤ B) (h2 : Zgv c) (h : Zxv l c = (x, k)) : Has Tryz.prog 12 [.d (.slc (l.map Val.enc)), .d (.slc (c.map Cus.enc))] [] (.d (.tup [.slc (x.map Val.enc), .int .i64 k])) [] := by
  obtain ⟨d, e1, e2⟩ := ZwL ZfN [.l 51 l, .l 39 c] (l, c) (x, k) [.slc (l.map Val.enc), .slc (c.map Cus.enc)] (fun y => .tup [.l 51 y.1, .i .i64 y.2]) rfl rfl ((ZpM h1 h2).trans (congrArg some h)) rfl
  cases e1
  exact Zqs e2
theorem ZqI {c x : List Cus} {k : Int} (h2 : Zgv c) (h : Zii c = (x, k)) : Has Tryz.prog 16 [.d (.slc (c.map Cus.enc))] [] (.d (.tup [.slc (x.map Cus.enc), .int .i64 k])) [] := by
  obtain ⟨d, e1, e2⟩ := Ycj [.l 39 c] c (x, k) [.slc (c.map Cus.enc)] (fun y => .tup [.l 39 y.1, .i .i64 y.2]) rfl rfl ((Zvi h2).trans (congrArg some h)) rfl
  cases e1
  exact Zqs e2
theorem Zwf {c : List Cus} {k : Int} (h2 : Zgv c) (h : ZsW c = k) : Has Tryz.prog 22 [.d (.slc (c.map Cus.enc))] [] (.d (.int .i64 k)) [] := by
  obtain ⟨d, e1, e2⟩ := Zwh ZfN [.l 39 c] c k [.slc (c.map Cus.enc)] (fun y => .i .i64 y) rfl rfl ((ZwE h2).trans (congrArg some h)) rfl
  cases e1
  exact Zqs e2
theorem ZzP {c : List Cus} (h2 : Zgv c) : Has Tryz.prog 18 [.d (.slc (c.map Cus.enc)), .d (.slc (c.map Cus.enc))] [] (.d (.bool true)) [] := by
  obtain ⟨d, e1, e2⟩ := YaU ZfN [.l 39 c, .l 39 c] (c, c) true [.slc (c.map Cus.enc), .slc (c.map Cus.enc)] (fun y => .b y) rfl rfl (ZvL h2) rfl
  cases e1
  exact Zqs e2
theorem ZxJ : Has Tryz.prog 13 [.d (.slc (uL.map Val.enc))] [] (.d (.tup [.slc [.str [45, 45, 97], .str [45, 45, 98]], .int .i64 0])) [] := by
  obtain ⟨d, e1, e2⟩ := ZmW ZfN Yb5 [.l 51 uL] uL (show List (List UInt8) × Int from ([[45, 45, 97], [45, 45, 98]], 0)) [.slc (uL.map Val.enc)] (fun y => .tup [.l 9 y.1, .i .i64 y.2]) rfl rfl ((Zqk (by decide)).trans (congrArg some YeV)) rfl
  cases e1
  exact Zqs e2
theorem Zxj : Has Tryz.prog 8 [] [] (.d (.bool true)) [] := by
  obtain ⟨d, e1, e2⟩ := Ybq (K := Kno) [] () true [] (fun y => .b y) rfl rfl rfl rfl
  cases e1
  exact Yaq (YdZ YcU) e2
def fD : DV := .agg [.str [45, 45, 102], .slc Zn9]
def mD : DV := .agg [.str [45, 45, 102], .slc (Zn9 ++ [vC.enc])]
theorem hv1 : Has Tryz.prog 12 [.d (.slc ([vV [vI 102]].map Val.enc)), .d (.slc [fD])] [] (.d (.tup [.slc Zn9, .int .i64 0])) [] := by
  have := ZrT (by decide) (okF (c := 102) ZeD (by decide)) (rep1 ZeD)
  rw [ZnX] at this
  rwa [show [cF 102 (List.replicate 1000 vX)].map Cus.enc = [fD] by rw [List.map_cons, List.map_nil, Cus.enc, show (cF 102 (List.replicate 1000 vX)).val = List.replicate 1000 vX from rfl, ZnX]; rfl] at this
end Go.Tev.S1
