/- A certified evaluator for the walked functions, and their contracts, for the laws of the variables. -/
import Derived.Test.YtnmlodkomklpfaaGreatLG
import Derived.Test.YtnmlodkomklpfaaGreatLH
import Derived.Test.YtnmlodkomklpfaaGreatLI
import Derived.Test.YtnmlodkomklpfaaGreatLK
set_option linter.unusedVariables false
set_option linter.unusedSimpArgs false
namespace Go.Tev.S1
open Go.Abs Go.Proofs
abbrev T8a : Type := Unit → Option Bool
abbrev T8b : Type := (List Cus) → Option Bool
abbrev T8c : Type := (List Cus) → Option ((List Cus) × Int)
abbrev T8e : Type := (List Cus) × (List UInt8) → Option Int
abbrev T8f : Type := (List Cus) × Int → Option Bool
abbrev T8g : Type := (List Val) → Option (Int × Int)
abbrev T8i : Type := (List Val) × (List Val) → Option Bool
abbrev T8j : Type := (List Val) × (List Cus) → Option ((List Val) × Int)
abbrev P8a (K : Zaa) (t : T8a) : Prop := Zaj U (Zab C K) 8 ⟨true, [], [4], t⟩
abbrev P8b (K : Zaa) (t : T8b) : Prop := Zaj U (Zab C K) 10 ⟨true, [.ty 23], [4], t⟩
abbrev P8c (K : Zaa) (t : T8c) : Prop := Zaj U (Zab C K) 16 ⟨true, [.ty 23], [23, 28], t⟩
abbrev P8e (K : Zaa) (t : T8e) : Prop := Zaj U (Zab C K) 17 ⟨true, [.ty 23, .ty 9], [3], t⟩
abbrev P8f (K : Zaa) (t : T8f) : Prop := Zaj U (Zab C K) 26 ⟨true, [.ty 23, .ty 3], [4], t⟩
abbrev P8g (K : Zaa) (t : T8g) : Prop := Zaj U (Zab C K) 24 ⟨true, [.ty 22], [3, 28], t⟩
abbrev P8i (K : Zaa) (t : T8i) : Prop := Zaj U (Zab C K) 15 ⟨true, [.ty 22, .ty 22], [4], t⟩
abbrev P8j (K : Zaa) (t : T8j) : Prop := Zaj U (Zab C K) 12 ⟨true, [.ty 22, .ty 23], [22, 28], t⟩
def Zb7 (qa : T8a) (qb : T8b) (qc : T8c) (qf : T8f) (qe : T8e) (qj : T8j) (qg : T8g) (qi : T8i) {R : Type} (n : Nat) (a0 : List Cus) (a3 : Bool) (a4 : List Cus) (kx0 : Bool → Option R) (kr : Bool → Option R) (y2 : Bool) (y6 : Int) (k : Bool → Int → Option R) : Option R :=
  cond (decide (y6 < (a0.length : Int)))
  (Option.bind (qf (a0, y6)) fun r7 =>
  cond r7
  (k y2 (IntKind.i64.wrap (y6 + (1 : Int))))
  (Option.bind (ZeS a0 y6) fun x8 =>
  Option.bind (qe (a4, x8.name)) fun r9 =>
  Option.bind (ZeS a0 y6) fun x10 =>
  Option.bind (qj (x10.val, a4)) fun r11 =>
  Option.bind (qg r11.1) fun r12 =>
  Option.bind (some (cond (r11.2 == (0 : Int)) (r12.2 == (0 : Int)) false)) fun m13 =>
  Option.bind (some (cond m13 (decide (r12.1 ≤ (2000 : Int))) false)) fun m14 =>
  Option.bind (cond ((!((decide (r9 ≥ (0 : Int))) != m14)) && (decide (r9 ≥ (0 : Int)))) (ZeS a4 r9) (some zCus)) fun x15 =>
  Option.bind (cond ((!((decide (r9 ≥ (0 : Int))) != m14)) && (decide (r9 ≥ (0 : Int)))) (qi (x15.val, r11.1)) (some false)) fun r16 =>
  Option.bind (cond (!((decide (r9 ≥ (0 : Int))) != m14)) (some (cond (decide (r9 ≥ (0 : Int))) (!r16) false)) (some (!r16))) fun m17 =>
  Option.bind (some (cond ((decide (r9 ≥ (0 : Int))) != m14) true m17)) fun m18 =>
  cond m18
  (kr false)
  (k y2 (IntKind.i64.wrap (y6 + (1 : Int))))))
  (kx0 y2)
def Zem (qa : T8a) (qb : T8b) (qc : T8c) (qf : T8f) (qe : T8e) (qj : T8j) (qg : T8g) (qi : T8i) (n : Nat) (p0 : List Cus) : Option Bool :=
  Option.bind (qa ()) fun r1 =>
  Option.bind (qb p0) fun r2 =>
  Option.bind (some (cond r2 true (!r1))) fun m3 =>
  cond m3
  (some r1)
  (Option.bind (qc p0) fun r4 =>
  cond (r4.2 != (0 : Int))
  (some r1)
  (Zgb (Zb7 qa qb qc qf qe qj qg qi n p0 r1 r4.1 (fun z5 =>
  some r1) (fun z6 =>
  some z6)) n false (0 : Int)))
abbrev Zlq (qa : T8a) (qb : T8b) (qc : T8c) (qf : T8f) (qe : T8e) (qj : T8j) (qg : T8g) (qi : T8i) : List (Nat × TCall X) := [(8, ⟨true, [], [4], qa⟩), (10, ⟨true, [.ty 23], [4], qb⟩), (16, ⟨true, [.ty 23], [23, 28], qc⟩), (26, ⟨true, [.ty 23, .ty 3], [4], qf⟩), (17, ⟨true, [.ty 23, .ty 9], [3], qe⟩), (12, ⟨true, [.ty 22, .ty 23], [22, 28], qj⟩), (24, ⟨true, [.ty 22], [3, 28], qg⟩), (15, ⟨true, [.ty 22, .ty 22], [4], qi⟩)]
noncomputable abbrev Zbr (qa : T8a) (qb : T8b) (qc : T8c) (qf : T8f) (qe : T8e) (qj : T8j) (qg : T8g) (qi : T8i) : Cx := ⟨C, U, Zlq qa qb qc qf qe qj qg qi, [], fun _ => []⟩
theorem ZkB : okF (C.ann 7) Tryz.f7 1 = true := by kernel_rfl
abbrev law30_VarsOwn_L0_D : LD := ⟨0, [.val 0 23, .val 3 4, .val 4 23], [.val 2 4, .val 6 2], [(0, [.val 2 4])], [.val 2 4]⟩
abbrev Zce (qa : T8a) (qb : T8b) (qc : T8c) (qf : T8f) (qe : T8e) (qj : T8j) (qg : T8g) (qi : T8i) (n : Nat) : LG U (PX X [4]) law30_VarsOwn_L0_D := fun c kx kr y k => Zb7 qa qb qc qf qe qj qg qi n c.1 c.2.1 c.2.2.1 (fun z0 => kx 0 (z0, ())) (fun z0 => kr (z0, ())) y.1 y.2.1 (fun z0 z1 => k (z0, z1, ()))
noncomputable abbrev Zcd (qa : T8a) (qb : T8b) (qc : T8c) (qf : T8f) (qe : T8e) (qj : T8j) (qg : T8g) (qi : T8i) (n : Nat) : ZeT (Zbr qa qb qc qf qe qj qg qi) (PX X [4]) := [(0, Zfk U law30_VarsOwn_L0_D (Zce qa qb qc qf qe qj qg qi n) n)]
theorem ZiP (qa : T8a) (qb : T8b) (qc : T8c) (qf : T8f) (qe : T8e) (qj : T8j) (qg : T8g) (qi : T8i) (n : Nat) : ∀ c kx kr y k1, evL (Zbr qa qb qc qf qe qj qg qi) (ann 7) (Zcd qa qb qc qf qe qj qg qi n) 0 (Zar (Zac Tryz.f7) 0) (ZeE U law30_VarsOwn_L0_D kx kr k1) (encS U law30_VarsOwn_L0_D.cap law30_VarsOwn_L0_D.din c y) = Zce qa qb qc qf qe qj qg qi n c (fun i z => kx i c z) kr y (fun y2 => k1 c y2) := by
  intro c kx kr y k1
  kernel_rfl
theorem Zlj (qa : T8a) (qb : T8b) (qc : T8c) (qf : T8f) (qe : T8e) (qj : T8j) (qg : T8g) (qi : T8i) (n : Nat) : ∀ a, fnL (Zbr qa qb qc qf qe qj qg qi) true 7 Tryz.f7 [.ty 23] [4] (Zcd qa qb qc qf qe qj qg qi n) a = Zem qa qb qc qf qe qj qg qi n a := by
  intro a
  kernel_rfl
theorem Zgh {K : Zaa} (qa : T8a) (qb : T8b) (qc : T8c) (qf : T8f) (qe : T8e) (qj : T8j) (qg : T8g) (qi : T8i) (h0 : P8a K qa) (h1 : P8b K qb) (h2 : P8c K qc) (h3 : P8f K qf) (h4 : P8e K qe) (h5 : P8j K qj) (h6 : P8g K qg) (h7 : P8i K qi) : CallsOk (Zbr qa qb qc qf qe qj qg qi) (Zab C K) :=
  ⟨(Zag h0 (Zag h1 (Zag h2 (Zag h3 (Zag h4 (Zag h5 (Zag h6 (Zag h7 ZaA)))))))), Zaz⟩
theorem ZhA {K : Zaa} (qa : T8a) (qb : T8b) (qc : T8c) (qf : T8f) (qe : T8e) (qj : T8j) (qg : T8g) (qi : T8i) (h0 : P8a K qa) (h1 : P8b K qb) (h2 : P8c K qc) (h3 : P8f K qf) (h4 : P8e K qe) (h5 : P8j K qj) (h6 : P8g K qg) (h7 : P8i K qi) (n : Nat) (b0 : Base) (bn0 : b0.nr ≤ 0) : Law (Zbr qa qb qc qf qe qj qg qi) b0 (Zab C K) (ann 7) n (Zar (Zac Tryz.f7) 0) (Zfk U law30_VarsOwn_L0_D (Zce qa qb qc qf qe qj qg qi n) n) :=
  Zda (x := Zbr qa qb qc qf qe qj qg qi) (id := 0) ok (Zgh qa qb qc qf qe qj qg qi h0 h1 h2 h3 h4 h5 h6 h7) (sums := Zcd qa qb qc qf qe qj qg qi n) (Zau (show Zaq 0 (Zar (Zac Tryz.f7) 0) = [] by kernel_rfl)) law30_VarsOwn_L0_D bn0 (Zce qa qb qc qf qe qj qg qi n) (ZiP qa qb qc qf qe qj qg qi n)
theorem Zib {K : Zaa} (hK : ∀ args h, K 7 args h = none) (qa : T8a) (qb : T8b) (qc : T8c) (qf : T8f) (qe : T8e) (qj : T8j) (qg : T8g) (qi : T8i) (h0 : P8a K qa) (h1 : P8b K qb) (h2 : P8c K qc) (h3 : P8f K qf) (h4 : P8e K qe) (h5 : P8j K qj) (h6 : P8g K qg) (h7 : P8i K qi) (t : PX X (AK.tys [.ty 23]) → Option (PX X [4])) (h : ∀ a r, t a = some r → ∃ n, Zem qa qb qc qf qe qj qg qi n a = some r) : Zaj U (Zab C K) 7 ⟨true, [.ty 23], [4], t⟩ := by
  refine Zav (x := Zbr qa qb qc qf qe qj qg qi) (ak := [.ty 23]) (rts := [4]) (dir := true) ok (Zgh qa qb qc qf qe qj qg qi h0 h1 h2 h3 h4 h5 h6 h7) hK Tryz.func7 ZkB fun a r hr => ?_
  obtain ⟨n, hn⟩ := h a r hr
  exact ⟨n, Zcd qa qb qc qf qe qj qg qi n, (Zbm (ids := [0]) (by kernel_rfl) (by decide) (fun i hi => by
    simp only [List.mem_cons, List.not_mem_nil, or_false] at hi
    rcases hi with rfl
    · exact Zbk (c2 := Zar (Zac Tryz.f7) 0) (by kernel_rfl) (by kernel_rfl) (ZhA qa qb qc qf qe qj qg qi h0 h1 h2 h3 h4 h5 h6 h7 _ _ (Nat.le_refl _))
    )), (Zlj qa qb qc qf qe qj qg qi n a).trans hn⟩
end Go.Tev.S1
namespace Go.Tev.S1
open Go.Abs Go.Proofs
end Go.Tev.S1
namespace Go.Tev.S1
open Go.Abs Go.Proofs
end Go.Tev.S1
namespace Go.Tev.S1
open Go.Abs Go.Proofs
theorem Yb8 {l : List Val} (h : ZaE l = 0) : Ydk l = ((Zak l : Int), 0) := by unfold Ydk; rw [if_pos h]
theorem dge (n : Nat) : decide ((n : Int) ≥ 0) = true := by simp
noncomputable def Ya8 (raw : List Cus) : Option Bool := open Classical in if ZhI raw then some true else none
open Classical in
theorem Zxt {raw c : List Cus} (D : Dn raw c) {i : Nat} {x : Cus} (hx : raw[i]? = some x) {R : Type} (n : Nat) (kx0 kr : Bool → Option R) (y : Bool) (k : Bool → Int → Option R) :
    Zb7 (fun _ => some true) ZjR ZpV ZuP ZwS ZgD Yeo ZqK n raw true c kx0 kr y (i : Int) k = k y ((i + 1 : Nat) : Int) := by
  have hm := List.mem_of_getElem? hx
  have hlt : i < raw.length := (List.getElem?_eq_some_iff.1 hx).1
  have hi : IntKind.i64.wrap ((i : Int) + 1) = ((i + 1 : Nat) : Int) := Za7 (by have := D.le; omega)
  have hcB : c.length ≤ B := D.okc.1
  have hg := Zbg hx
  simp only [Zb7, dlt hlt, cond_true, hg, Option.bind_some, Zuh hcB, ZwR D hx, Zqy (D.tot hm) D.okc, hi]
  by_cases hc : Znu raw x.name
  · simp only [decide_eq_true hc, cond_true]
  have hv := D.val hm hc
  have hR : YaR x.val c = Zd7 (lkC c) x.val := by
    unfold YaR
    rw [if_neg (by simpa using D.chk hm), if_neg (by simpa using D.chkc)]
  have ht := Zz8 (D.tot hm) D.okc
  rw [hR] at ht
  simp only [decide_eq_false hc, cond_false, hR, Ydi ht, Option.bind_some]
  by_cases h0 : (Zd7 (lkC c) x.val).2 = 0
  · have hk : ZaE (Zd7 (lkC c) x.val).1 = 0 := ZtN (Prod.ext rfl h0)
    simp only [Yb8 hk, h0, beq_self_eq_true, cond_true, Option.bind_some]
    by_cases hl : Zak (Zd7 (lkC c) x.val).1 ≤ 2000
    · have h5 : lkC c x.name = some (Zd7 (lkC c) x.val).1 := by
        rw [hv]; unfold Zrz
        rw [show (decide ((Zd7 (lkC c) x.val).2 = 0) && decide ((Zak (Zd7 (lkC c) x.val).1 : Int) ≤ 2000)) = true by simp [h0]; omega]
        rfl
      rcases ZjH c x.name 0 with ⟨h1, h2⟩ | ⟨j, z, h1, h2, h3⟩
      · rw [h2] at h5; cases h5
      · have h1 : ZcG c x.name 0 = (j : Int) := by simpa using h1
        have h7 : z.val = (Zd7 (lkC c) x.val).1 := by rw [h5] at h3; exact (Option.some.inj h3).symm
        have h8 : decide ((Zak (Zd7 (lkC c) x.val).1 : Int) ≤ 2000) = true := by simp; omega
        simp only [h1, dge, h8, bne_self_eq_false, Bool.not_false, Bool.and_true, cond_true, Zbg h2, Option.bind_some, h7, ZtG ht ht, ZlN, Bool.not_true, cond_false]
    · have h5 : lkC c x.name = none := by
        rw [hv]; unfold Zrz
        rw [show (decide ((Zd7 (lkC c) x.val).2 = 0) && decide ((Zak (Zd7 (lkC c) x.val).1 : Int) ≤ 2000)) = false by simp [h0]; omega]
        rfl
      have h8 : decide ((Zak (Zd7 (lkC c) x.val).1 : Int) ≤ 2000) = false := by simp; omega
      rcases ZjH c x.name 0 with ⟨h1, h2⟩ | ⟨j, z, h1, h2, h3⟩
      · have h1 : ZcG c x.name 0 = -1 := h1
        simp only [h1, h8, show decide ((-1 : Int) ≥ 0) = false from rfl, bne_self_eq_false, Bool.not_false, Bool.and_false, cond_true, cond_false, Option.bind_some]
      · rw [h5] at h3; cases h3
  · have hb : ((Zd7 (lkC c) x.val).2 == 0) = false := by simpa using h0
    have h5 : lkC c x.name = none := by
      rw [hv]; unfold Zrz
      rw [show (decide ((Zd7 (lkC c) x.val).2 = 0) && decide ((Zak (Zd7 (lkC c) x.val).1 : Int) ≤ 2000)) = false by simp [h0]]
      rfl
    rcases ZjH c x.name 0 with ⟨h1, h2⟩ | ⟨j, z, h1, h2, h3⟩
    · have h1 : ZcG c x.name 0 = -1 := h1
      simp only [h1, hb, show decide ((-1 : Int) ≥ 0) = false from rfl, bne_self_eq_false, Bool.not_false, Bool.and_false, cond_true, cond_false, Option.bind_some]
    · rw [h5] at h3; cases h3
open Classical in
theorem Ybl (raw : List Cus) (hok : ZhI raw) : Zem (fun _ => some true) ZjR ZpV ZuP ZwS ZgD Yeo ZqK (raw.length + 1) raw = some true := by
  obtain ⟨b, hb⟩ := ZrJ hok
  unfold Zem
  simp only [Option.bind_some, hb, ZxT hok]
  cases b
  case true => rfl
  simp only [Bool.not_true, cond_true, cond_false, Option.bind_some]
  cases e : ((Zkn raw).2 != 0)
  case true => rfl
  have D := YeF hok (by simpa using e)
  simp only [cond_false]
  refine (Zc5 raw (fun (_ : Unit) => false) (fun _ v => .inl ()) (fun _ => some true) (fun i b => True) ?_ (fun _ _ _ _ _ _ _ => trivial) ?_ () trivial _ (Nat.lt_succ_self _)).trans ?_
  · intro i b v k hv _ _
    exact Zxt D hv _ _ _ _ _
  · intro b k _
    simp only [Zb7, Zpk, cond_false]
  · rw [Zdl (fun (_ : Unit) _ => ())]
theorem ZxC : Zaj U (Zab C Kz) 7 ⟨true, [.ty 23], [4], Ya8⟩ :=
  Zib (kf ZeF 7 (by decide)) _ _ _ _ _ _ _ _ YbE (Zym ZeF) Ydb ZwE (Ya5 ZeF) (Zx7 ZeF) (Zzb ZeF) (Yd8 ZeF) _ fun a r h => by
    have h : Ya8 a = some r := h
    unfold Ya8 at h
    split at h
    · rename_i h3; cases h; exact ⟨_, Ybl a h3⟩
    · cases h
end Go.Tev.S1
