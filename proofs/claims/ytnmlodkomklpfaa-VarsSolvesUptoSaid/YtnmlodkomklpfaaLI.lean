/- A certified evaluator for the walked functions, and their contracts, for the laws of the variables. -/
import Derived.Test.YtnmlodkomklpfaaLH
import Derived.Test.YtnmlodkomklpfaaLG
set_option linter.unusedVariables false
set_option linter.unusedSimpArgs false
namespace Go.Tev.S1
open Go.Abs Go.Proofs
abbrev Mp := List (List UInt8 × List Val)
def Yg7 (lk : Lk) : Prop := ∀ n x, lk n = some x → Zal x ≤ V ∧ Zbg x = false
def okP (lk : Lk) (l : List Val) : Prop := Zal l ≤ B ∧ Yg7 lk ∧ ∃ n, Zfr lk l = some n ∧ n ≤ B
open Classical in
noncomputable def YgP (a : List Val × Mp) : Option (List Val) := if okP (lkM a.2) a.1 then some (ZeQ (lkM a.2) a.1) else none
theorem ZwE {l : List Val} {m : Mp} (h : okP (lkM m) l) : YgP (l, m) = some (ZeQ (lkM m) l) := if_pos h
open Classical in
noncomputable def Yf3 (a : List Val × List Cus) : Option (List Val) := if okP (lkC a.2) a.1 ∧ a.2.length ≤ B then some (ZeQ (lkC a.2) a.1) else none
theorem Zwe {l : List Val} {m : List Cus} (h : okP (lkC m) l) (h2 : m.length ≤ B) : Yf3 (l, m) = some (ZeQ (lkC m) l) := if_pos ⟨h, h2⟩
def szP (l : List Val) : Nat := if Zbg l then B + 1 + Zal l else Zal l
theorem Ybw {lk : Lk} {l : List Val} (h : okP lk l) {v : Val} (hv : v ∈ l) :
    (v.ref = false → okP lk v.l ∧ szP v.l < szP l) ∧
    (v.ref = true → ∀ x, lk (Zav v.l).1 = some x → okP lk x ∧ szP x < szP l ∧ ZeQ lk x = x) ∧
    (v.ref = true → lk (Zav v.l).1 = none → okP lk (Zav v.l).2.1 ∧ szP (Zav v.l).2.1 < szP l) := by
  have hB : B = 2 ^ 36 := rfl
  have hV : V = 2 ^ 24 := rfl
  obtain ⟨h1, h2, n, h3, h4⟩ := h
  obtain ⟨n', h5, h6⟩ := YgL h3 hv
  have hs := Zcz hv
  have hp := Ziz v.l
  have hmono : ∀ (y : List Val), Zal y < Zal l → (Zbg y = true → Zbg l = true) → szP y < szP l := by
    intro y hy hh
    unfold szP
    by_cases e : Zbg y = true
    · rw [if_pos e, if_pos (hh e)]; omega
    · rw [if_neg e]; split <;> omega
  refine ⟨fun e => ?_, fun e x hx => ?_, fun e hx => ?_⟩
  · rw [Zo5 e] at h5
    obtain ⟨a, b, ha, hb, rfl⟩ := Zgj h5
    refine ⟨⟨by omega, h2, b, hb, by omega⟩, hmono _ hs (fun hh => ZrX hv (by rw [Val.hasv_eq, hh, Bool.or_true]))⟩
  · obtain ⟨g1, g2⟩ := h2 _ _ hx
    refine ⟨⟨by omega, h2, Zal x, Zyj lk x g2, by omega⟩, ?_, YeZ lk x g2⟩
    have : Zbg l = true := ZrX hv (by rw [Val.hasv_eq, e]; rfl)
    unfold szP
    rw [if_pos this, if_neg (by rw [g2]; decide)]
    omega
  · cases e3 : (Zav v.l).2.2 with
    | false => rw [ZsL e hx e3] at h5; cases h5
    | true =>
      rw [Zsv e hx e3] at h5
      refine ⟨⟨by omega, h2, n', h5, by omega⟩, hmono _ (by omega) (fun _ => ZrX hv (by rw [Val.hasv_eq, e]; rfl))⟩
theorem Zm4 {lk : Lk} {l : List Val} {n : Nat} (h : Zfr lk l = some n) (hn : n ≤ B) {i : Nat} {v : Val} (hv : l[i]? = some v) {b : Nat} (hb : b ≤ 96) : room b ((ZeQ lk (l.take i)).length + (ZyX lk v).length) = some () := by
  have hB : B = 2 ^ 36 := rfl
  have h1 := Ygv h (i + 1)
  rw [ZaP hv, Zok, List.length_append] at h1
  exact Zej (by omega) hb
theorem YdN (m : Mp) (l : List Val) (k : Nat) (h1 : szP l < k + 1) (h2 : okP (lkM m) l) :
    ZnO (fun v => some v.ref) (below (fun a : List Val × Mp => szP a.1) k YgP) ZiA (l.length + 1) l m = some (ZeQ (lkM m) l) := by
  have hB : B = 2 ^ 36 := rfl
  have hV : V = 2 ^ 24 := rfl
  unfold ZnO
  have e0 := ZfM (lkM m)
  refine ((congrArg (fun z => ZcS _ _ z (0 : Int)) e0.symm).trans (Za3 l (fun b => ZeQ (lkM m) b) (fun b v => .inl (b ++ [v])) (fun b => some (ZeQ (lkM m) b)) (fun i b => b = l.take i) ?_ ?_ ?_ [] rfl _ (Nat.lt_succ_self _))).trans ?_
  · intro i b v k' hv hlt hb
    subst hb
    have hmem := List.mem_of_getElem? hv
    have hs := Zcz hmem
    have hm1 := Zhq hmem
    have hl := Zb3 l
    have hB2 := h2.1
    obtain ⟨g1, g2, g3⟩ := Ybw h2 hmem
    obtain ⟨n, hn, hn2⟩ := h2.2.2
    have hr := Zm4 hn hn2 hv (show 80 ≤ 96 by decide)
    have hi : IntKind.i64.wrap ((i : Int) + 1) = ((i + 1 : Nat) : Int) := Zaz (by omega)
    have bel : ∀ x, okP (lkM m) x → szP x < szP l → below (fun a : List Val × Mp => szP a.1) k YgP (x, m) = some (ZeQ (lkM m) x) := fun x hx hz => (Zby (sz := fun a : List Val × Mp => szP a.1) (show szP x < k by omega)).trans (ZwE hx)
    simp only [ZhI, ZaA hv, Option.bind_some, dlt hlt, cond_true, Val.eta, hi, Bool.cond_self]
    rw [Zok]
    cases e1 : v.ref
    · obtain ⟨g4, g5⟩ := g1 e1
      rw [ZrD e1] at hr ⊢
      simp only [Bool.not_false, cond_true, bel _ g4 g5, Option.bind_some, hr]
    · simp only [Bool.not_true, cond_false, ZgW (show v.tot ≤ B by omega), Option.bind_some]
      cases e2 : Zbd BEq.beq (Zav v.l).1 m with
      | some x =>
        have e2' : lkM m (Zav v.l).1 = some x := e2
        obtain ⟨g4, g5, g6⟩ := g2 e1 x e2'
        rw [Zyd e1 e2'] at hr ⊢
        simp only [Option.isSome_some, cond_true, ZnN, bel _ g4 g5, Option.bind_some, g6, hr]
      | none =>
        have e2' : lkM m (Zav v.l).1 = none := e2
        obtain ⟨g4, g5⟩ := g3 e1 e2'
        rw [Zxp e1 e2'] at hr ⊢
        simp only [Option.isSome_none, cond_false, bel _ g4 g5, Option.bind_some, hr]
  · intro i b v b' hv hb hs
    cases hs
    rw [ZaP hv, hb]
  · intro b k' hb
    simp only [ZhI, ZiB, cond_false]
  · rw [Zbj (fun (b : List Val) (v : Val) => b ++ [v]), Zc6]
theorem Yjm {K : Zaa} (hK : Zcf K) : Zag U (Zac C K) 63 ⟨true, [.ty 33, .ty 70], [33], YgP⟩ :=
  Zbs (U := U) (ak := [.ty 33, .ty 70]) (rts := [33]) (fun a : List Val × Mp => szP a.1) YgP fun k ih => ZpM (kf hK 63 (by decide)) _ _ _ (ZvX hK) ih (Zwt hK) _ fun a r h => by
    obtain ⟨h1, h2⟩ := Za9 h
    unfold YgP at h2
    split at h2
    · rename_i h3; cases h2; exact ⟨_, YdN a.2 a.1 k h1 h3⟩
    · cases h2
theorem YeT (m : List Cus) (l : List Val) (k : Nat) (h1 : szP l < k + 1) (h2 : okP (lkC m) l) (hc : m.length ≤ B) :
    Zfd YhT (below (fun a : List Val × List Cus => szP a.1) k Yf3) ZiA Ycl Zr9 (l.length + 1) l m = some (ZeQ (lkC m) l) := by
  have hB : B = 2 ^ 36 := rfl
  have hV : V = 2 ^ 24 := rfl
  unfold Zfd
  have e0 := ZfM (lkC m)
  refine ((congrArg (fun z => ZcS _ _ z (0 : Int)) e0.symm).trans (Za3 l (fun b => ZeQ (lkC m) b) (fun b v => .inl (b ++ [v])) (fun b => some (ZeQ (lkC m) b)) (fun i b => b = l.take i) ?_ ?_ ?_ [] rfl _ (Nat.lt_succ_self _))).trans ?_
  · intro i b v k' hv hlt hb
    subst hb
    have hmem := List.mem_of_getElem? hv
    have hs := Zcz hmem
    have hm1 := Zhq hmem
    have hl := Zb3 l
    have hB2 := h2.1
    obtain ⟨g1, g2, g3⟩ := Ybw h2 hmem
    obtain ⟨n, hn, hn2⟩ := h2.2.2
    have hr := Zm4 hn hn2 hv (show 80 ≤ 96 by decide)
    have hi : IntKind.i64.wrap ((i : Int) + 1) = ((i + 1 : Nat) : Int) := Zaz (by omega)
    have bel : ∀ x, okP (lkC m) x → szP x < szP l → below (fun a : List Val × List Cus => szP a.1) k Yf3 (x, m) = some (ZeQ (lkC m) x) := fun x hx hz => (Zby (sz := fun a : List Val × List Cus => szP a.1) (show szP x < k by omega)).trans (Zwe hx hc)
    simp only [Zde, ZaA hv, Option.bind_some, dlt hlt, cond_true, Val.eta, hi, Bool.cond_self, ZwB (show v.tot ≤ B by omega)]
    rw [Zok]
    cases e1 : v.ref
    · obtain ⟨g4, g5⟩ := g1 e1
      rw [ZrD e1] at hr ⊢
      simp only [Bool.not_false, cond_true, bel _ g4 g5, Option.bind_some, hr]
    · simp only [Bool.not_true, cond_false, ZgW (show v.tot ≤ B by omega), Zsk hc, Option.bind_some]
      rcases Zq9 m (Zav v.l).1 0 with ⟨f1, e2⟩ | ⟨j, x, f1, f2, e2⟩
      · have f1' : Zfx m (Zav v.l).1 0 = -1 := f1
        have fd : decide ((-1 : Int) ≥ 0) = false := rfl
        obtain ⟨g4, g5⟩ := g3 e1 e2
        rw [Zxp e1 e2] at hr ⊢
        rw [f1', fd]
        simp only [cond_false, Bool.not_false, cond_true, bel _ g4 g5, Option.bind_some, hr]
      · have f1' : Zfx m (Zav v.l).1 0 = (j : Int) := f1.trans (by omega)
        have fd : decide ((j : Int) ≥ 0) = true := by simp
        obtain ⟨g4, g5, g6⟩ := g2 e1 _ e2
        have g7 := g4.1
        rw [Zyd e1 e2] at hr ⊢
        rw [f1', fd]
        simp only [cond_true, Bool.not_true, cond_false, ZaA f2, Option.bind_some, ZsP g7, hr]
  · intro i b v b' hv hb hs
    cases hs
    rw [ZaP hv, hb]
  · intro b k' hb
    simp only [Zde, ZiB, cond_false]
  · rw [Zbj (fun (b : List Val) (v : Val) => b ++ [v]), Zc6]
theorem ZyZ {K : Zaa} (hK : Zcf K) : Zag U (Zac C K) 65 ⟨true, [.ty 33, .ty 22], [33], Yf3⟩ :=
  Zbs (U := U) (ak := [.ty 33, .ty 22]) (rts := [33]) (fun a : List Val × List Cus => szP a.1) Yf3 fun k ih => Zjq (kf hK 65 (by decide)) _ _ _ _ _ (ZjX hK) ih (Zwc hK) (Ycy hK) (YfM hK) _ fun a r h => by
    obtain ⟨h1, h2⟩ := Za9 h
    unfold Yf3 at h2
    split at h2
    · rename_i h3; cases h2; exact ⟨_, YeT a.2 a.1 k h1 h3.1 h3.2⟩
    · cases h2
end Go.Tev.S1
namespace Go.Tev.S1
open Go.Abs Go.Proofs
abbrev T4a : Type := (List UInt8) → Option Bool
abbrev T4b : Type := (List Cus) → Option Bool
abbrev T4c : Type := (List Val) → Option Int
abbrev T4d : Type := (List Val) → Option Bool
abbrev T4e : Type := (List Val) × Int → Option Int
abbrev P4a (K : Zaa) (t : T4a) : Prop := Zag U (Zac C K) 42 ⟨true, [.ty 9], [4], t⟩
abbrev P4b (K : Zaa) (t : T4a) : Prop := Zag U (Zac C K) 45 ⟨true, [.ty 9], [4], t⟩
abbrev P4c (K : Zaa) (t : T4b) : Prop := Zag U (Zac C K) 23 ⟨true, [.ty 22], [4], t⟩
abbrev P4d (K : Zaa) (t : T4c) : Prop := Zag U (Zac C K) 24 ⟨true, [.ty 33], [25], t⟩
abbrev P4e (K : Zaa) (t : T4d) : Prop := Zag U (Zac C K) 29 ⟨true, [.ty 33], [4], t⟩
abbrev P4f (K : Zaa) (t : T4c) : Prop := Zag U (Zac C K) 30 ⟨true, [.ty 33], [3], t⟩
abbrev P4g (K : Zaa) (t : T4b) : Prop := Zag U (Zac C K) 26 ⟨true, [.ty 22], [4], t⟩
abbrev P4h (K : Zaa) (t : T4c) : Prop := Zag U (Zac C K) 27 ⟨true, [.ty 33], [3], t⟩
abbrev P4i (K : Zaa) (t : T4d) : Prop := Zag U (Zac C K) 31 ⟨true, [.ty 33], [4], t⟩
abbrev P4j (K : Zaa) (t : T4c) : Prop := Zag U (Zac C K) 32 ⟨true, [.ty 33], [3], t⟩
abbrev P4k (K : Zaa) (t : T4d) : Prop := Zag U (Zac C K) 12 ⟨true, [.ty 33], [4], t⟩
abbrev P4l (K : Zaa) (t : T4e) : Prop := Zag U (Zac C K) 22 ⟨true, [.ty 33, .ty 3], [3], t⟩
def ZfZ (qa : T4a) {R : Type} (n : Nat) (a6 : List Cus) (a7 : Int) (kx0 : Bool → Option R) (kr : Bool → Option R) (y2 : Bool) (y3 : List UInt8) (y8 : Int) (k : Bool → List UInt8 → Int → Option R) : Option R :=
  cond (decide (y8 < a7))
  (Option.bind (Zbt a6 y8) fun x3 =>
  Option.bind (qa x3.name) fun r4 =>
  Option.bind (some (cond (!r4) true (Op.bytesLess x3.name y3 || x3.name == y3))) fun m5 =>
  cond m5
  (kr false)
  (k y2 x3.name (IntKind.i64.wrap (y8 + (1 : Int)))))
  (kx0 y2)
def ZiQ (qa : T4a) (n : Nat) (p0 : List Cus) : Option Bool :=
  Zha (ZfZ qa n p0 (p0.length : Int) (fun z1 =>
  some true) (fun z2 =>
  some z2)) n false [] (0 : Int)
abbrev Zt3 (qa : T4a) : List (Nat × TCall X) := [(42, ⟨true, [.ty 9], [4], qa⟩)]
noncomputable abbrev ZcT (qa : T4a) : Cx := ⟨C, U, Zt3 qa, [], fun _ => []⟩
theorem Zsh : okF (C.ann 23) Try.f23 1 = true := by kernel_rfl
abbrev vars_named_L0_D : LD := ⟨0, [.val 6 22, .val 7 2], [.val 2 4, .val 3 9, .val 8 2], [(0, [.val 2 4])], [.val 2 4]⟩
abbrev Zeb (qa : T4a) (n : Nat) : LG U (PX X [4]) vars_named_L0_D := fun c kx kr y k => ZfZ qa n c.1 c.2.1 (fun z0 => kx 0 (z0, ())) (fun z0 => kr (z0, ())) y.1 y.2.1 y.2.2.1 (fun z0 z1 z2 => k (z0, z1, z2, ()))
noncomputable abbrev Zea (qa : T4a) (n : Nat) : ZdW (ZcT qa) (PX X [4]) := [(0, Zca U vars_named_L0_D (Zeb qa n) n)]
theorem ZoB (qa : T4a) (n : Nat) : ∀ c kx kr y k1, evL (ZcT qa) (ann 23) (Zea qa n) 0 (Zaf (Zab Try.f23) 0) (ZbY U vars_named_L0_D kx kr k1) (encS U vars_named_L0_D.cap vars_named_L0_D.din c y) = Zeb qa n c (fun i z => kx i c z) kr y (fun y2 => k1 c y2) := by
  intro c kx kr y k1
  kernel_rfl
theorem Zvq (qa : T4a) (n : Nat) : ∀ a, fnL (ZcT qa) true 23 Try.f23 [.ty 22] [4] (Zea qa n) a = ZiQ qa n a := by
  intro a
  kernel_rfl
theorem Zkl {K : Zaa} (qa : T4a) (h0 : P4a K qa) : CallsOk (ZcT qa) (Zac C K) :=
  ⟨(Zad h0 Zap), Zao⟩
theorem Zml {K : Zaa} (qa : T4a) (h0 : P4a K qa) (n : Nat) (b0 : Base) (bn0 : b0.nr ≤ 0) : Law (ZcT qa) b0 (Zac C K) (ann 23) n (Zaf (Zab Try.f23) 0) (Zca U vars_named_L0_D (Zeb qa n) n) :=
  Za6 (x := ZcT qa) (id := 0) ok (Zkl qa h0) (sums := Zea qa n) (Zaj (show Zam 0 (Zaf (Zab Try.f23) 0) = [] by kernel_rfl)) vars_named_L0_D bn0 (Zeb qa n) (ZoB qa n)
theorem Znu {K : Zaa} (hK : ∀ args h, K 23 args h = none) (qa : T4a) (h0 : P4a K qa) (t : PX X (AK.tys [.ty 22]) → Option (PX X [4])) (h : ∀ a r, t a = some r → ∃ n, ZiQ qa n a = some r) : Zag U (Zac C K) 23 ⟨true, [.ty 22], [4], t⟩ := by
  refine Zan (x := ZcT qa) (ak := [.ty 22]) (rts := [4]) (dir := true) ok (Zkl qa h0) hK Try.func23 Zsh fun a r hr => ?_
  obtain ⟨n, hn⟩ := h a r hr
  exact ⟨n, Zea qa n, (ZaB (ids := [0]) (by kernel_rfl) (by decide) (fun i hi => by
    simp only [List.mem_cons, List.not_mem_nil, or_false] at hi
    rcases hi with rfl
    · exact Zay (c2 := Zaf (Zab Try.f23) 0) (by kernel_rfl) (by kernel_rfl) (Zml qa h0 _ _ (Nat.le_refl _))
    )), (Zvq qa n a).trans hn⟩
def Zfe (qb : T4a) {R : Type} (n : Nat) (a0 : List Cus) (kx0 : Bool → Option R) (kr : Bool → Option R) (y2 : Bool) (y3 : Int) (k : Bool → Int → Option R) : Option R :=
  cond (decide (y3 < (a0.length : Int)))
  (Option.bind (Zbt a0 y3) fun x3 =>
  Option.bind (qb x3.name) fun r4 =>
  Option.bind (cond ((!(!r4)) && (decide (y3 > (0 : Int)))) (Zbt a0 (IntKind.i64.wrap (y3 - (1 : Int)))) (some YcQ)) fun x5 =>
  Option.bind (cond ((!(!r4)) && (decide (y3 > (0 : Int)))) (Zbt a0 y3) (some YcQ)) fun x6 =>
  Option.bind (cond (!(!r4)) (some (cond (decide (y3 > (0 : Int))) (!Op.bytesLess x5.name x6.name) false)) (some (!Op.bytesLess x5.name x6.name))) fun m7 =>
  Option.bind (some (cond (!r4) true m7)) fun m8 =>
  cond m8
  (kr false)
  (k y2 (IntKind.i64.wrap (y3 + (1 : Int)))))
  (kx0 y2)
def ZhN (qb : T4a) (n : Nat) (p0 : List Cus) : Option Bool :=
  ZcS (Zfe qb n p0 (fun z1 =>
  some true) (fun z2 =>
  some z2)) n false (0 : Int)
abbrev ZsJ (qb : T4a) : List (Nat × TCall X) := [(45, ⟨true, [.ty 9], [4], qb⟩)]
noncomputable abbrev Zcj (qb : T4a) : Cx := ⟨C, U, ZsJ qb, [], fun _ => []⟩
theorem Zp4 : okF (C.ann 26) Try.f26 1 = true := by kernel_rfl
abbrev ref30_named_L0_D : LD := ⟨0, [.val 0 22], [.val 2 4, .val 3 2], [(0, [.val 2 4])], [.val 2 4]⟩
abbrev ZdM (qb : T4a) (n : Nat) : LG U (PX X [4]) ref30_named_L0_D := fun c kx kr y k => Zfe qb n c.1 (fun z0 => kx 0 (z0, ())) (fun z0 => kr (z0, ())) y.1 y.2.1 (fun z0 z1 => k (z0, z1, ()))
noncomputable abbrev ZdI (qb : T4a) (n : Nat) : ZdW (Zcj qb) (PX X [4]) := [(0, Zca U ref30_named_L0_D (ZdM qb n) n)]
theorem Znm (qb : T4a) (n : Nat) : ∀ c kx kr y k1, evL (Zcj qb) (ann 26) (ZdI qb n) 0 (Zaf (Zab Try.f26) 0) (ZbY U ref30_named_L0_D kx kr k1) (encS U ref30_named_L0_D.cap ref30_named_L0_D.din c y) = ZdM qb n c (fun i z => kx i c z) kr y (fun y2 => k1 c y2) := by
  intro c kx kr y k1
  kernel_rfl
theorem Ztb (qb : T4a) (n : Nat) : ∀ a, fnL (Zcj qb) true 26 Try.f26 [.ty 22] [4] (ZdI qb n) a = ZhN qb n a := by
  intro a
  kernel_rfl
theorem ZjF {K : Zaa} (qb : T4a) (h0 : P4b K qb) : CallsOk (Zcj qb) (Zac C K) :=
  ⟨(Zad h0 Zap), Zao⟩
theorem ZkR {K : Zaa} (qb : T4a) (h0 : P4b K qb) (n : Nat) (b0 : Base) (bn0 : b0.nr ≤ 0) : Law (Zcj qb) b0 (Zac C K) (ann 26) n (Zaf (Zab Try.f26) 0) (Zca U ref30_named_L0_D (ZdM qb n) n) :=
  Za6 (x := Zcj qb) (id := 0) ok (ZjF qb h0) (sums := ZdI qb n) (Zaj (show Zam 0 (Zaf (Zab Try.f26) 0) = [] by kernel_rfl)) ref30_named_L0_D bn0 (ZdM qb n) (Znm qb n)
theorem Zmn {K : Zaa} (hK : ∀ args h, K 26 args h = none) (qb : T4a) (h0 : P4b K qb) (t : PX X (AK.tys [.ty 22]) → Option (PX X [4])) (h : ∀ a r, t a = some r → ∃ n, ZhN qb n a = some r) : Zag U (Zac C K) 26 ⟨true, [.ty 22], [4], t⟩ := by
  refine Zan (x := Zcj qb) (ak := [.ty 22]) (rts := [4]) (dir := true) ok (ZjF qb h0) hK Try.func26 Zp4 fun a r hr => ?_
  obtain ⟨n, hn⟩ := h a r hr
  exact ⟨n, ZdI qb n, (ZaB (ids := [0]) (by kernel_rfl) (by decide) (fun i hi => by
    simp only [List.mem_cons, List.not_mem_nil, or_false] at hi
    rcases hi with rfl
    · exact Zay (c2 := Zaf (Zab Try.f26) 0) (by kernel_rfl) (by kernel_rfl) (ZkR qb h0 _ _ (Nat.le_refl _))
    )), (Ztb qb n a).trans hn⟩
def ZfL (qc : T4b) (qd : T4c) (qe : T4d) (qf : T4c) {R : Type} (n : Nat) (a13 : List Cus) (a14 : Int) (kx0 : Int → Option R) (kr : Int → Option R) (y2 : Int) (y15 : Int) (k : Int → Int → Option R) : Option R :=
  cond (decide (y15 < a14))
  (Option.bind (Zbt a13 y15) fun x5 =>
  Option.bind (qd x5.val) fun r6 =>
  Option.bind (cond (!(r6 != (0 : Int))) (qe x5.val) (some false)) fun r7 =>
  Option.bind (some (cond (r6 != (0 : Int)) true r7)) fun m8 =>
  Option.bind (cond (!m8) (qf x5.val) (some (0 : Int))) fun r9 =>
  Option.bind (some (cond m8 true (decide (r9 > (2000 : Int))))) fun m10 =>
  cond m10
  (kr (8 : Int))
  (k y2 (IntKind.i64.wrap (y15 + (1 : Int)))))
  (kx0 y2)
def ZiM (qc : T4b) (qd : T4c) (qe : T4d) (qf : T4c) (n : Nat) (p0 : List Cus) : Option Int :=
  Option.bind (cond (!(decide ((p0.length : Int) > (64 : Int)))) (qc p0) (some false)) fun r1 =>
  Option.bind (some (cond (decide ((p0.length : Int) > (64 : Int))) true (!r1))) fun m2 =>
  cond m2
  (some (8 : Int))
  (ZcS (ZfL qc qd qe qf n p0 (p0.length : Int) (fun z3 =>
  some (0 : Int)) (fun z4 =>
  some z4)) n (0 : Int) (0 : Int))
abbrev Ztu (qc : T4b) (qd : T4c) (qe : T4d) (qf : T4c) : List (Nat × TCall X) := [(23, ⟨true, [.ty 22], [4], qc⟩), (24, ⟨true, [.ty 33], [25], qd⟩), (29, ⟨true, [.ty 33], [4], qe⟩), (30, ⟨true, [.ty 33], [3], qf⟩)]
noncomputable abbrev ZcO (qc : T4b) (qd : T4c) (qe : T4d) (qf : T4c) : Cx := ⟨C, U, Ztu qc qd qe qf, [], fun _ => []⟩
theorem ZrQ : okF (C.ann 10) Try.f10 1 = true := by kernel_rfl
abbrev vars_Check_L0_D : LD := ⟨0, [.val 13 22, .val 14 2], [.val 2 2, .val 15 2], [(0, [.val 2 2])], [.val 2 25]⟩
abbrev ZeL (qc : T4b) (qd : T4c) (qe : T4d) (qf : T4c) (n : Nat) : LG U (PX X [25]) vars_Check_L0_D := fun c kx kr y k => ZfL qc qd qe qf n c.1 c.2.1 (fun z0 => kx 0 (z0, ())) (fun z0 => kr (z0, ())) y.1 y.2.1 (fun z0 z1 => k (z0, z1, ()))
noncomputable abbrev Zen (qc : T4b) (qd : T4c) (qe : T4d) (qf : T4c) (n : Nat) : ZdW (ZcO qc qd qe qf) (PX X [25]) := [(0, Zca U vars_Check_L0_D (ZeL qc qd qe qf n) n)]
theorem Zpz (qc : T4b) (qd : T4c) (qe : T4d) (qf : T4c) (n : Nat) : ∀ c kx kr y k1, evL (ZcO qc qd qe qf) (ann 10) (Zen qc qd qe qf n) 0 (Zaf (Zab Try.f10) 0) (ZbY U vars_Check_L0_D kx kr k1) (encS U vars_Check_L0_D.cap vars_Check_L0_D.din c y) = ZeL qc qd qe qf n c (fun i z => kx i c z) kr y (fun y2 => k1 c y2) := by
  intro c kx kr y k1
  kernel_rfl
theorem ZuW (qc : T4b) (qd : T4c) (qe : T4d) (qf : T4c) (n : Nat) : ∀ a, fnL (ZcO qc qd qe qf) true 10 Try.f10 [.ty 22] [25] (Zen qc qd qe qf n) a = ZiM qc qd qe qf n a := by
  intro a
  kernel_rfl
theorem Zlh {K : Zaa} (qc : T4b) (qd : T4c) (qe : T4d) (qf : T4c) (h0 : P4c K qc) (h1 : P4d K qd) (h2 : P4e K qe) (h3 : P4f K qf) : CallsOk (ZcO qc qd qe qf) (Zac C K) :=
  ⟨(Zad h0 (Zad h1 (Zad h2 (Zad h3 Zap)))), Zao⟩
theorem ZlF {K : Zaa} (qc : T4b) (qd : T4c) (qe : T4d) (qf : T4c) (h0 : P4c K qc) (h1 : P4d K qd) (h2 : P4e K qe) (h3 : P4f K qf) (n : Nat) (b0 : Base) (bn0 : b0.nr ≤ 0) : Law (ZcO qc qd qe qf) b0 (Zac C K) (ann 10) n (Zaf (Zab Try.f10) 0) (Zca U vars_Check_L0_D (ZeL qc qd qe qf n) n) :=
  Za6 (x := ZcO qc qd qe qf) (id := 0) ok (Zlh qc qd qe qf h0 h1 h2 h3) (sums := Zen qc qd qe qf n) (Zaj (show Zam 0 (Zaf (Zab Try.f10) 0) = [] by kernel_rfl)) vars_Check_L0_D bn0 (ZeL qc qd qe qf n) (Zpz qc qd qe qf n)
theorem Znt {K : Zaa} (hK : ∀ args h, K 10 args h = none) (qc : T4b) (qd : T4c) (qe : T4d) (qf : T4c) (h0 : P4c K qc) (h1 : P4d K qd) (h2 : P4e K qe) (h3 : P4f K qf) (t : PX X (AK.tys [.ty 22]) → Option (PX X [25])) (h : ∀ a r, t a = some r → ∃ n, ZiM qc qd qe qf n a = some r) : Zag U (Zac C K) 10 ⟨true, [.ty 22], [25], t⟩ := by
  refine Zan (x := ZcO qc qd qe qf) (ak := [.ty 22]) (rts := [25]) (dir := true) ok (Zlh qc qd qe qf h0 h1 h2 h3) hK Try.func10 ZrQ fun a r hr => ?_
  obtain ⟨n, hn⟩ := h a r hr
  exact ⟨n, Zen qc qd qe qf n, (ZaB (ids := [0]) (by kernel_rfl) (by decide) (fun i hi => by
    simp only [List.mem_cons, List.not_mem_nil, or_false] at hi
    rcases hi with rfl
    · exact Zay (c2 := Zaf (Zab Try.f10) 0) (by kernel_rfl) (by kernel_rfl) (ZlF qc qd qe qf h0 h1 h2 h3 _ _ (Nat.le_refl _))
    )), (ZuW qc qd qe qf n a).trans hn⟩
def Ze3 (qg : T4b) (qh : T4c) (qi : T4d) (qj : T4c) {R : Type} (n : Nat) (a0 : List Cus) (kx0 : Int → Option R) (kr : Int → Option R) (y2 : Int) (y3 : Int) (k : Int → Int → Option R) : Option R :=
  cond (decide (y3 < (a0.length : Int)))
  (Option.bind (Zbt a0 y3) fun x5 =>
  Option.bind (qh x5.val) fun r6 =>
  Option.bind (cond (!(r6 != (0 : Int))) (Zbt a0 y3) (some YcQ)) fun x7 =>
  Option.bind (cond (!(r6 != (0 : Int))) (qi x7.val) (some false)) fun r8 =>
  Option.bind (some (cond (r6 != (0 : Int)) true r8)) fun m9 =>
  Option.bind (cond (!m9) (Zbt a0 y3) (some YcQ)) fun x10 =>
  Option.bind (cond (!m9) (qj x10.val) (some (0 : Int))) fun r11 =>
  Option.bind (some (cond m9 true (decide (r11 > (2000 : Int))))) fun m12 =>
  cond m12
  (kr (8 : Int))
  (k y2 (IntKind.i64.wrap (y3 + (1 : Int)))))
  (kx0 y2)
def Zhn (qg : T4b) (qh : T4c) (qi : T4d) (qj : T4c) (n : Nat) (p0 : List Cus) : Option Int :=
  Option.bind (cond (!(decide ((p0.length : Int) > (64 : Int)))) (qg p0) (some false)) fun r1 =>
  Option.bind (some (cond (decide ((p0.length : Int) > (64 : Int))) true (!r1))) fun m2 =>
  cond m2
  (some (8 : Int))
  (ZcS (Ze3 qg qh qi qj n p0 (fun z3 =>
  some (0 : Int)) (fun z4 =>
  some z4)) n (0 : Int) (0 : Int))
abbrev Zsi (qg : T4b) (qh : T4c) (qi : T4d) (qj : T4c) : List (Nat × TCall X) := [(26, ⟨true, [.ty 22], [4], qg⟩), (27, ⟨true, [.ty 33], [3], qh⟩), (31, ⟨true, [.ty 33], [4], qi⟩), (32, ⟨true, [.ty 33], [3], qj⟩)]
noncomputable abbrev Zcp (qg : T4b) (qh : T4c) (qi : T4d) (qj : T4c) : Cx := ⟨C, U, Zsi qg qh qi qj, [], fun _ => []⟩
theorem ZpU : okF (C.ann 11) Try.f11 1 = true := by kernel_rfl
abbrev ref30_Check_L0_D : LD := ⟨0, [.val 0 22], [.val 2 2, .val 3 2], [(0, [.val 2 2])], [.val 2 3]⟩
abbrev ZdO (qg : T4b) (qh : T4c) (qi : T4d) (qj : T4c) (n : Nat) : LG U (PX X [3]) ref30_Check_L0_D := fun c kx kr y k => Ze3 qg qh qi qj n c.1 (fun z0 => kx 0 (z0, ())) (fun z0 => kr (z0, ())) y.1 y.2.1 (fun z0 z1 => k (z0, z1, ()))
noncomputable abbrev ZdC (qg : T4b) (qh : T4c) (qi : T4d) (qj : T4c) (n : Nat) : ZdW (Zcp qg qh qi qj) (PX X [3]) := [(0, Zca U ref30_Check_L0_D (ZdO qg qh qi qj n) n)]
theorem Znr (qg : T4b) (qh : T4c) (qi : T4d) (qj : T4c) (n : Nat) : ∀ c kx kr y k1, evL (Zcp qg qh qi qj) (ann 11) (ZdC qg qh qi qj n) 0 (Zaf (Zab Try.f11) 0) (ZbY U ref30_Check_L0_D kx kr k1) (encS U ref30_Check_L0_D.cap ref30_Check_L0_D.din c y) = ZdO qg qh qi qj n c (fun i z => kx i c z) kr y (fun y2 => k1 c y2) := by
  intro c kx kr y k1
  kernel_rfl
theorem Ztf (qg : T4b) (qh : T4c) (qi : T4d) (qj : T4c) (n : Nat) : ∀ a, fnL (Zcp qg qh qi qj) true 11 Try.f11 [.ty 22] [3] (ZdC qg qh qi qj n) a = Zhn qg qh qi qj n a := by
  intro a
  kernel_rfl
theorem ZjJ {K : Zaa} (qg : T4b) (qh : T4c) (qi : T4d) (qj : T4c) (h0 : P4g K qg) (h1 : P4h K qh) (h2 : P4i K qi) (h3 : P4j K qj) : CallsOk (Zcp qg qh qi qj) (Zac C K) :=
  ⟨(Zad h0 (Zad h1 (Zad h2 (Zad h3 Zap)))), Zao⟩
theorem Zkr {K : Zaa} (qg : T4b) (qh : T4c) (qi : T4d) (qj : T4c) (h0 : P4g K qg) (h1 : P4h K qh) (h2 : P4i K qi) (h3 : P4j K qj) (n : Nat) (b0 : Base) (bn0 : b0.nr ≤ 0) : Law (Zcp qg qh qi qj) b0 (Zac C K) (ann 11) n (Zaf (Zab Try.f11) 0) (Zca U ref30_Check_L0_D (ZdO qg qh qi qj n) n) :=
  Za6 (x := Zcp qg qh qi qj) (id := 0) ok (ZjJ qg qh qi qj h0 h1 h2 h3) (sums := ZdC qg qh qi qj n) (Zaj (show Zam 0 (Zaf (Zab Try.f11) 0) = [] by kernel_rfl)) ref30_Check_L0_D bn0 (ZdO qg qh qi qj n) (Znr qg qh qi qj n)
theorem ZlS {K : Zaa} (hK : ∀ args h, K 11 args h = none) (qg : T4b) (qh : T4c) (qi : T4d) (qj : T4c) (h0 : P4g K qg) (h1 : P4h K qh) (h2 : P4i K qi) (h3 : P4j K qj) (t : PX X (AK.tys [.ty 22]) → Option (PX X [3])) (h : ∀ a r, t a = some r → ∃ n, Zhn qg qh qi qj n a = some r) : Zag U (Zac C K) 11 ⟨true, [.ty 22], [3], t⟩ := by
  refine Zan (x := Zcp qg qh qi qj) (ak := [.ty 22]) (rts := [3]) (dir := true) ok (ZjJ qg qh qi qj h0 h1 h2 h3) hK Try.func11 ZpU fun a r hr => ?_
  obtain ⟨n, hn⟩ := h a r hr
  exact ⟨n, ZdC qg qh qi qj n, (ZaB (ids := [0]) (by kernel_rfl) (by decide) (fun i hi => by
    simp only [List.mem_cons, List.not_mem_nil, or_false] at hi
    rcases hi with rfl
    · exact Zay (c2 := Zaf (Zab Try.f11) 0) (by kernel_rfl) (by kernel_rfl) (Zkr qg qh qi qj h0 h1 h2 h3 _ _ (Nat.le_refl _))
    )), (Ztf qg qh qi qj n a).trans hn⟩
def Zdx (qk : T4d) (ql : T4e) {R : Type} (n : Nat) (a0 : List Cus) (kx0 : Bool → Int → Option R) (kr : Bool → Option R) (y2 : Bool) (y3 : Int) (y4 : Int) (k : Bool → Int → Int → Option R) : Option R :=
  Option.bind (some (cond (decide (y4 < (a0.length : Int))) (decide (y4 ≤ (70 : Int))) false)) fun m5 =>
  cond m5
  (Option.bind (Zbt a0 y4) fun x6 =>
  Option.bind (qk x6.val) fun r7 =>
  Option.bind (cond (!r7) (Zbt a0 y4) (some YcQ)) fun x8 =>
  Option.bind (some (cond r7 true (decide ((x8.name.length : Int) > (100 : Int))))) fun m9 =>
  cond m9
  (kr true)
  (Option.bind (Zbt a0 y4) fun x10 =>
  Option.bind (ql (x10.val, (300 : Int))) fun r11 =>
  k y2 (IntKind.i64.wrap (y3 + r11)) (IntKind.i64.wrap (y4 + (1 : Int)))))
  (kx0 y2 y3)
def Zhm (qk : T4d) (ql : T4e) (n : Nat) (p0 : List Cus) : Option Bool :=
  Zha (Zdx qk ql n p0 (fun z1 z2 =>
  Option.bind (some (cond (decide ((p0.length : Int) > (70 : Int))) true (decide (z2 > (1500 : Int))))) fun m3 =>
  some m3) (fun z4 =>
  some z4)) n false (0 : Int) (0 : Int)
abbrev ZrB (qk : T4d) (ql : T4e) : List (Nat × TCall X) := [(12, ⟨true, [.ty 33], [4], qk⟩), (22, ⟨true, [.ty 33, .ty 3], [3], ql⟩)]
noncomputable abbrev Zco (qk : T4d) (ql : T4e) : Cx := ⟨C, U, ZrB qk ql, [], fun _ => []⟩
theorem ZpT : okF (C.ann 5) Try.f5 1 = true := by kernel_rfl
abbrev ref30_Great_L0_D : LD := ⟨0, [.val 0 22], [.val 2 4, .val 3 2, .val 4 2], [(0, [.val 2 4, .val 3 2])], [.val 2 4]⟩
abbrev ZdB (qk : T4d) (ql : T4e) (n : Nat) : LG U (PX X [4]) ref30_Great_L0_D := fun c kx kr y k => Zdx qk ql n c.1 (fun z0 z1 => kx 0 (z0, z1, ())) (fun z0 => kr (z0, ())) y.1 y.2.1 y.2.2.1 (fun z0 z1 z2 => k (z0, z1, z2, ()))
noncomputable abbrev ZdP (qk : T4d) (ql : T4e) (n : Nat) : ZdW (Zco qk ql) (PX X [4]) := [(0, Zca U ref30_Great_L0_D (ZdB qk ql n) n)]
theorem Zm9 (qk : T4d) (ql : T4e) (n : Nat) : ∀ c kx kr y k1, evL (Zco qk ql) (ann 5) (ZdP qk ql n) 0 (Zaf (Zab Try.f5) 0) (ZbY U ref30_Great_L0_D kx kr k1) (encS U ref30_Great_L0_D.cap ref30_Great_L0_D.din c y) = ZdB qk ql n c (fun i z => kx i c z) kr y (fun y2 => k1 c y2) := by
  intro c kx kr y k1
  kernel_rfl
theorem ZrO (qk : T4d) (ql : T4e) (n : Nat) : ∀ a, fnL (Zco qk ql) true 5 Try.f5 [.ty 22] [4] (ZdP qk ql n) a = Zhm qk ql n a := by
  intro a
  kernel_rfl
theorem Zjs {K : Zaa} (qk : T4d) (ql : T4e) (h0 : P4k K qk) (h1 : P4l K ql) : CallsOk (Zco qk ql) (Zac C K) :=
  ⟨(Zad h0 (Zad h1 Zap)), Zao⟩
theorem Zkv {K : Zaa} (qk : T4d) (ql : T4e) (h0 : P4k K qk) (h1 : P4l K ql) (n : Nat) (b0 : Base) (bn0 : b0.nr ≤ 0) : Law (Zco qk ql) b0 (Zac C K) (ann 5) n (Zaf (Zab Try.f5) 0) (Zca U ref30_Great_L0_D (ZdB qk ql n) n) :=
  Za6 (x := Zco qk ql) (id := 0) ok (Zjs qk ql h0 h1) (sums := ZdP qk ql n) (Zaj (show Zam 0 (Zaf (Zab Try.f5) 0) = [] by kernel_rfl)) ref30_Great_L0_D bn0 (ZdB qk ql n) (Zm9 qk ql n)
theorem ZlR {K : Zaa} (hK : ∀ args h, K 5 args h = none) (qk : T4d) (ql : T4e) (h0 : P4k K qk) (h1 : P4l K ql) (t : PX X (AK.tys [.ty 22]) → Option (PX X [4])) (h : ∀ a r, t a = some r → ∃ n, Zhm qk ql n a = some r) : Zag U (Zac C K) 5 ⟨true, [.ty 22], [4], t⟩ := by
  refine Zan (x := Zco qk ql) (ak := [.ty 22]) (rts := [4]) (dir := true) ok (Zjs qk ql h0 h1) hK Try.func5 ZpT fun a r hr => ?_
  obtain ⟨n, hn⟩ := h a r hr
  exact ⟨n, ZdP qk ql n, (ZaB (ids := [0]) (by kernel_rfl) (by decide) (fun i hi => by
    simp only [List.mem_cons, List.not_mem_nil, or_false] at hi
    rcases hi with rfl
    · exact Zay (c2 := Zaf (Zab Try.f5) 0) (by kernel_rfl) (by kernel_rfl) (Zkv qk ql h0 h1 _ _ (Nat.le_refl _))
    )), (ZrO qk ql n a).trans hn⟩
end Go.Tev.S1
namespace Go.Tev
open Go.Abs
theorem ZhK (a : List UInt8) : Op.bytesLess a a = false := by
  induction a with
  | nil => rfl
  | cons x a ih => rw [Op.bytesLess, ih]; simp
theorem Zxm (a b : List UInt8) : (!(Op.bytesLess a b || a == b)) = Op.bytesLess b a := by
  induction a generalizing b with
  | nil => cases b <;> rfl
  | cons x a ih => cases b with
    | nil => rfl
    | cons y b =>
      have := ih b
      rw [Op.bytesLess, Op.bytesLess, ← this, List.cons_beq_cons]
      by_cases h1 : x = y
      · subst h1
        have : decide (x < x) = false := by simp
        rw [this]
        simp
      · have h2 : (x == y) = false := by simpa using h1
        have h3 : (y == x) = false := by simpa using fun h => h1 h.symm
        rw [h2, h3]
        simp only [Bool.false_and, Bool.or_false]
        rw [← decide_not]
        congr 1
        rw [UInt8.lt_iff_toNat_lt, UInt8.lt_iff_toNat_lt]
        have : x.toNat ≠ y.toNat := fun h => h1 (UInt8.toNat_inj.1 h)
        apply propext
        omega
theorem Zmo {a b c : List UInt8} (h1 : Op.bytesLess a b = true) (h2 : Op.bytesLess b c = true) : Op.bytesLess a c = true := by
  induction a generalizing b c with
  | nil => cases c with
    | nil => cases b <;> simp [Op.bytesLess] at h2
    | cons => rfl
  | cons x a ih => cases b with
    | nil => simp [Op.bytesLess] at h1
    | cons y b => cases c with
      | nil => simp [Op.bytesLess] at h2
      | cons z c =>
        rw [Op.bytesLess, Bool.or_eq_true, Bool.and_eq_true, decide_eq_true_iff, beq_iff_eq] at h1 h2 ⊢
        rcases h1 with h1 | ⟨h1, h1'⟩
        · rcases h2 with h2 | ⟨h2, h2'⟩
          · left; rw [UInt8.lt_iff_toNat_lt] at *; omega
          · left; rw [← h2]; exact h1
        · rcases h2 with h2 | ⟨h2, h2'⟩
          · left; rw [h1]; exact h2
          · right; exact ⟨h1.trans h2, ih h1' h2'⟩
def namL : Option (List UInt8) → List Cus → Bool
  | _, [] => true
  | p, c :: r => Za4 c.name && (match p with
    | none => true
    | some q => Op.bytesLess q c.name) && namL (some c.name) r
theorem Zva {n : List UInt8} (h : Za4 n = true) : n ≠ [] := by
  intro e; subst e; simp [Za4] at h
theorem YaW {q : List UInt8} {c : List Cus} (h : namL (some q) c = true) : ∀ x ∈ c, Op.bytesLess q x.name = true := by
  induction c generalizing q with
  | nil => intro x hx; cases hx
  | cons y c ih =>
    rw [namL, Bool.and_eq_true, Bool.and_eq_true] at h
    intro x hx
    rcases List.mem_cons.1 hx with rfl | hx
    · exact h.1.2
    · exact Zmo h.1.2 (ih h.2 x hx)
theorem ZtE {p : Option (List UInt8)} {y : Cus} {c : List Cus} (h : namL p (y :: c) = true) : (∀ x ∈ c, x.name ≠ y.name) ∧ namL (some y.name) c = true := by
  have h2 : namL (some y.name) c = true := by
    rw [namL.eq_def] at h
    simp only [Bool.and_eq_true] at h
    exact h.2
  refine ⟨fun x hx e => ?_, h2⟩
  have := YaW h2 x hx
  rw [e, ZhK] at this
  cases this
end Go.Tev
namespace Go.Tev.S1
open Go.Abs Go.Proofs
def Zlk (c : List Cus) : Option Bool := if c.length ≤ B then some (namL none c) else none
theorem ZkU {c : List Cus} (h : c.length ≤ B) : Zlk c = some (namL none c) := if_pos h
def YaY (p : Option (List UInt8)) (v : Cus) : Bool := Za4 v.name && (match p with
  | none => true
  | some q => Op.bytesLess q v.name)
theorem YcE (l : List Cus) : ∀ p, ZmL (fun (p : Option (List UInt8)) v => if YaY p v = true then .inl (some v.name) else .inr (some false)) (fun _ => some true) l p = some (namL p l) := by
  induction l with
  | nil => intro p; rw [namL.eq_def]; rfl
  | cons v l ih =>
    intro p
    simp only [ZmL]
    have e : namL p (v :: l) = (YaY p v && namL (some v.name) l) := by rw [namL.eq_def]; rfl
    rw [e]
    by_cases h : YaY p v = true
    · rw [if_pos h, h]; exact ih _
    · rw [if_neg h, (Bool.not_eq_true _).mp h]; rfl
def YfQ : Option (List UInt8) → List UInt8
  | none => []
  | some q => q
theorem ZyU (c : List Cus) (h : c.length ≤ B) : ZiQ (fun p => some (Za4 p)) (c.length + 1) c = some (namL none c) := by
  have hB : B = 2 ^ 36 := rfl
  unfold ZiQ
  refine (Zf1 c (fun (_ : Option (List UInt8)) => false) YfQ (fun p v => if YaY p v = true then .inl (some v.name) else .inr (some false)) (fun _ => some true) (fun i b => True) ?_ ?_ ?_ none trivial _ (Nat.lt_succ_self _)).trans (YcE c none)
  · intro i b v k' hv hlt hb
    have hi : IntKind.i64.wrap ((i : Int) + 1) = ((i + 1 : Nat) : Int) := Zaz (by omega)
    simp only [ZfZ, ZaA hv, Option.bind_some, dlt hlt, cond_true, hi]
    have key : (bif !Za4 v.name then true else (Op.bytesLess v.name (YfQ b) || v.name == YfQ b)) = !YaY b v := by
      unfold YaY
      cases e1 : Za4 v.name
      · rfl
      · have hne := Zva e1
        cases b with
        | none =>
          cases e3 : v.name with
          | nil => exact absurd e3 hne
          | cons x r => rfl
        | some q =>
          change (Op.bytesLess v.name q || v.name == q) = !(true && Op.bytesLess q v.name)
          rw [← Zxm v.name q, Bool.true_and, Bool.not_not]
    rw [key]
    cases YaY b v <;> rfl
  · intro i b v b' hv hb hs; trivial
  · intro b k' hb
    simp only [ZfZ, ZiB, cond_false]
theorem ZzY {K : Zaa} (hK : Zcf K) : Zag U (Zac C K) 23 ⟨true, [.ty 22], [4], Zlk⟩ :=
  Znu (kf hK 23 (by decide)) _ (ZxY hK) _ fun a r h => by
    unfold Zlk at h
    split at h
    · rename_i h3; cases h; exact ⟨_, ZyU a h3⟩
    · cases h
theorem ZsU (c : List Cus) (h : c.length ≤ B) : ZhN (fun p => some (Za4 p)) (c.length + 1) c = some (namL none c) := by
  have hB : B = 2 ^ 36 := rfl
  unfold ZhN
  refine (Za3 c (fun (_ : Option (List UInt8)) => false) (fun p v => if YaY p v = true then .inl (some v.name) else .inr (some false)) (fun _ => some true) (fun i b => b = match i with | 0 => none | j + 1 => (c[j]?).map (·.name)) ?_ ?_ ?_ none rfl _ (Nat.lt_succ_self _)).trans (YcE c none)
  · intro i b v k' hv hlt hb
    have hi : IntKind.i64.wrap ((i : Int) + 1) = ((i + 1 : Nat) : Int) := Zaz (by omega)
    simp only [Zfe, ZaA hv, Option.bind_some, dlt hlt, cond_true, hi]
    cases i with
    | zero =>
      have hb' : b = none := hb
      subst hb'
      have e2 : decide (((0 : Nat) : Int) > 0) = false := rfl
      have key : YaY none v = Za4 v.name := by unfold YaY; simp
      rw [key]
      cases Za4 v.name
      · rfl
      · simp only [e2, Bool.not_true, Bool.not_false, cond_true, cond_false, Bool.true_and, Bool.and_false, Option.bind_some]
        rfl
    | succ j =>
      have hj : j < c.length := by omega
      have hw : c[j]? = some c[j] := List.getElem?_eq_getElem hj
      have hb' : b = some c[j].name := by rw [hb]; simp [hw]
      subst hb'
      have e2 : decide (((j + 1 : Nat) : Int) > 0) = true := by simp
      have e3 : IntKind.i64.wrap (((j + 1 : Nat) : Int) - 1) = (j : Int) := by rw [Za8 (by omega) (by omega)]; omega
      have key : YaY (some c[j].name) v = (Za4 v.name && Op.bytesLess c[j].name v.name) := rfl
      rw [key]
      cases Za4 v.name
      · rfl
      · simp only [Bool.not_true, Bool.not_false, cond_true, cond_false, Bool.true_and, e2, e3, ZaA hw, ZaA hv, Option.bind_some]
        cases Op.bytesLess c[j].name v.name <;> rfl
  · intro i b v b' hv hb hs
    split at hs
    · cases hs
      simp [hv]
    · cases hs
  · intro b k' hb
    simp only [Zfe, ZiB, cond_false]
theorem Zq6 {K : Zaa} (hK : Zcf K) : Zag U (Zac C K) 26 ⟨true, [.ty 22], [4], Zlk⟩ :=
  Zmn (kf hK 26 (by decide)) _ (ZoQ hK) _ fun a r h => by
    unfold Zlk at h
    split at h
    · rename_i h3; cases h; exact ⟨_, ZsU a h3⟩
    · cases h
def ZoP (v : Cus) : Bool := (Za5 v.val != 0) || Zbg v.val || decide (Zal v.val > 2000)
def YiX : List Cus → Int
  | [] => 0
  | v :: r => if ZoP v then 8 else YiX r
def YhV (c : List Cus) : Int := if c.length > 64 ∨ namL none c = false then 8 else YiX c
def ZfI (c : List Cus) : Prop := c.length ≤ B ∧ ∀ v ∈ c, Zal v.val ≤ V
instance (a) : Decidable (ZfI a) := inferInstanceAs (Decidable (_ ∧ _))
def Yhj (c : List Cus) : Option Int := if ZfI c then some (YhV c) else none
theorem Yhx {c : List Cus} (h : ZfI c) : Yhj c = some (YhV c) := if_pos h
theorem YbF (l : List Cus) : ZmL (fun (_ : Unit) v => if ZoP v = true then .inr (some (8 : Int)) else .inl ()) (fun _ => some (0 : Int)) l () = some (YiX l) := by
  induction l with
  | nil => rfl
  | cons v l ih =>
    simp only [ZmL, YiX]
    by_cases h : ZoP v = true
    · rw [if_pos h, if_pos h]
    · rw [if_neg h, if_neg h]; exact ih
theorem Ydd (c : List Cus) (h : ZfI c) : ZiM Zlk ZhW ZwL Zgm (c.length + 1) c = some (YhV c) := by
  have hB : B = 2 ^ 36 := rfl
  have hV : V = 2 ^ 24 := rfl
  obtain ⟨hl, hm⟩ := h
  unfold ZiM YhV
  by_cases h1 : c.length > 64
  · have : decide ((c.length : Int) > 64) = true := by simp; omega
    rw [this, if_pos (.inl h1)]; rfl
  · have e : decide ((c.length : Int) > 64) = false := by simp; omega
    simp only [e, Bool.not_false, cond_true, cond_false, ZkU hl, Option.bind_some]
    cases h2 : namL none c
    · rw [if_pos (.inr rfl)]; rfl
    · rw [if_neg (by simp; omega)]
      simp only [Bool.not_true, cond_false]
      refine (Za3 c (fun (_ : Unit) => (0 : Int)) (fun _ v => if ZoP v = true then .inr (some (8 : Int)) else .inl ()) (fun _ => some (0 : Int)) (fun i b => True) ?_ ?_ ?_ () trivial _ (Nat.lt_succ_self _)).trans (YbF c)
      · intro i b v k' hv hlt hb
        have hvm := hm v (List.mem_of_getElem? hv)
        have hi : IntKind.i64.wrap ((i : Int) + 1) = ((i + 1 : Nat) : Int) := Zaz (by omega)
        have hd : decide ((Zal v.val : Int) > 2000) = decide (Zal v.val > 2000) := by simp; omega
        simp only [ZfL, ZaA hv, Option.bind_some, dlt hlt, cond_true, hi, Zgf (show Zal v.val ≤ B by omega), ZlG (show Zal v.val ≤ B by omega), Zgs (show Zal v.val ≤ B by omega)]
        unfold ZoP
        cases e1 : (Za5 v.val != 0) <;> cases e2 : Zbg v.val <;> cases e3 : decide (Zal v.val > 2000) <;> rw [e3] at hd <;> first | rfl | simp [hd]
      · intro i b v b' hv hb hs; trivial
      · intro b k' hb
        simp only [ZfL, ZiB, cond_false]
theorem YhN {K : Zaa} (hK : Zcf K) : Zag U (Zac C K) 10 ⟨true, [.ty 22], [25], Yhj⟩ :=
  Znt (kf hK 10 (by decide)) _ _ _ _ (ZzY hK) (Zj0 (kf hK 24 (by decide)) (kf hK 43 (by decide)) (kf hK 67 (by decide))) (Yh0 hK) (Ybc hK) _ fun a r h => by
    unfold Yhj at h
    split at h
    · rename_i h3; cases h; exact ⟨_, Ydd a h3⟩
    · cases h
theorem Zv4 (c : List Cus) (h : ZfI c) : Zhn Zlk ZhW ZwL Zgm (c.length + 1) c = some (YhV c) := by
  have hB : B = 2 ^ 36 := rfl
  have hV : V = 2 ^ 24 := rfl
  obtain ⟨hl, hm⟩ := h
  unfold Zhn YhV
  by_cases h1 : c.length > 64
  · have : decide ((c.length : Int) > 64) = true := by simp; omega
    rw [this, if_pos (.inl h1)]; rfl
  · have e : decide ((c.length : Int) > 64) = false := by simp; omega
    simp only [e, Bool.not_false, cond_true, cond_false, ZkU hl, Option.bind_some]
    cases h2 : namL none c
    · rw [if_pos (.inr rfl)]; rfl
    · rw [if_neg (by simp; omega)]
      simp only [Bool.not_true, cond_false]
      refine (Za3 c (fun (_ : Unit) => (0 : Int)) (fun _ v => if ZoP v = true then .inr (some (8 : Int)) else .inl ()) (fun _ => some (0 : Int)) (fun i b => True) ?_ ?_ ?_ () trivial _ (Nat.lt_succ_self _)).trans (YbF c)
      · intro i b v k' hv hlt hb
        have hvm := hm v (List.mem_of_getElem? hv)
        have hi : IntKind.i64.wrap ((i : Int) + 1) = ((i + 1 : Nat) : Int) := Zaz (by omega)
        have hd : decide ((Zal v.val : Int) > 2000) = decide (Zal v.val > 2000) := by simp; omega
        simp only [Ze3, ZaA hv, Option.bind_some, dlt hlt, cond_true, hi, Zgf (show Zal v.val ≤ B by omega)]
        unfold ZoP
        cases e1 : (Za5 v.val != 0)
        · simp only [Bool.not_false, cond_true, cond_false, Option.bind_some, ZlG (show Zal v.val ≤ B by omega)]
          cases e2 : Zbg v.val
          · simp only [Bool.not_false, cond_true, cond_false, Option.bind_some, Zgs (show Zal v.val ≤ B by omega), hd]
            cases decide (Zal v.val > 2000) <;> rfl
          · rfl
        · rfl
      · intro i b v b' hv hb hs; trivial
      · intro b k' hb
        simp only [Ze3, ZiB, cond_false]
theorem Yeg {K : Zaa} (hK : Zcf K) : Zag U (Zac C K) 11 ⟨true, [.ty 22], [3], Yhj⟩ :=
  ZlS (kf hK 11 (by decide)) _ _ _ _ (Zq6 hK) (Zmk (kf hK 27 (by decide)) (kf hK 33 (by decide)) (kf hK 46 (by decide)) (kf hK 47 (by decide)) (kf hK 54 (by decide))) (Zx7 hK) (YbS (kf hK 32 (by decide))) _ fun a r h => by
    unfold Yhj at h
    split at h
    · rename_i h3; cases h; exact ⟨_, Zv4 a h3⟩
    · cases h
end Go.Tev.S1
namespace Go.Tev.S1
open Go.Abs Go.Proofs
def Ze7 (lk : Lk) (l : List Val) : List Val × Int := match Zfr lk l with
  | none => ([], 6)
  | some n => if 2000 < n ∧ Zbg l = true then ([], 28) else if Za5 (ZeQ lk l) = 0 then (ZeQ lk l, 0) else ([], Za5 (ZeQ lk l))
def okR (lk : Lk) (l : List Val) : Prop := Zal l ≤ B ∧ Yg7 lk
open Classical in
noncomputable def Zti (a : List Val × Mp) : Option (List Val × Int) := if okR (lkM a.2) a.1 ∧ ∀ p ∈ a.2, Zal p.2 ≤ V then some (Ze7 (lkM a.2) a.1) else none
theorem ZwY {l : List Val} {m : Mp} (h : okR (lkM m) l) (h2 : ∀ p ∈ m, Zal p.2 ≤ V) : Zti (l, m) = some (Ze7 (lkM m) l) := if_pos ⟨h, h2⟩
theorem ZyA {lk : Lk} {l : List Val} (h : okR lk l) {n : Nat} (hn : Zfr lk l = some n) (h2 : ¬ (2000 < n ∧ Zbg l = true)) : okP lk l ∧ Zal (ZeQ lk l) ≤ B := by
  have hB : B = 2 ^ 36 := rfl
  have : n ≤ B := by
    by_cases h3 : 2000 < n
    · cases e : Zbg l with
      | true => exact absurd ⟨h3, e⟩ h2
      | false =>
        rw [Zyj lk l e] at hn
        cases hn
        exact h.1
    · omega
  exact ⟨⟨h.1, h.2, n, hn, this⟩, by rw [Ybv lk l n hn]; exact this⟩
theorem ZtN (m : Mp) (l : List Val) (h : okR (lkM m) l) (hm : ∀ p ∈ m, Zal p.2 ≤ V) : Zgv Yfx ZwL YgP ZhW 0 l m = some (Ze7 (lkM m) l) := by
  unfold Zgv Ze7
  rw [Zwf h.1 hm]
  cases e : Zfr (lkM m) l with
  | none =>
    rw [Zlf e]; rfl
  | some n =>
    rw [Zfv e]
    have e1 : decide ((n : Int) < 0) = false := by simp
    simp only [Option.bind_some, e1, cond_false, ZlG h.1]
    by_cases h2 : 2000 < n ∧ Zbg l = true
    · have e2 : decide ((n : Int) > 2000) = true := by simp; omega
      rw [if_pos h2]
      simp only [e2, h2.2, cond_true, Option.bind_some]
    · obtain ⟨g1, g2⟩ := ZyA h e h2
      have e2 : (bif decide ((n : Int) > 2000) then Zbg l else false) = false := by
        by_cases h3 : 2000 < n
        · have : Zbg l = false := by
            cases e : Zbg l with
            | true => exact absurd ⟨h3, e⟩ h2
            | false => rfl
          rw [this]; simp
        · have : decide ((n : Int) > 2000) = false := by simp; omega
          rw [this]; rfl
      rw [if_neg h2]
      have e3 : ∀ (X : Option Bool), (Option.bind (bif decide ((n : Int) > 2000) then some (Zbg l) else some false) fun r2 => (some (bif decide ((n : Int) > 2000) then r2 else false))) = some false := by
        intro X
        rw [← e2]
        cases decide ((n : Int) > 2000) <;> rfl
      cases e4 : decide ((n : Int) > 2000)
      · simp only [cond_false, Option.bind_some, ZwE g1, Zgf g2]
        by_cases h5 : Za5 (ZeQ (lkM m) l) = 0
        · have : (Za5 (ZeQ (lkM m) l) != 0) = false := by simpa using h5
          rw [this, if_pos h5]; rfl
        · have : (Za5 (ZeQ (lkM m) l) != 0) = true := by simpa using h5
          rw [this, if_neg h5]; rfl
      · have e5 : Zbg l = false := by rw [e4] at e2; exact e2
        simp only [cond_true, e5, cond_false, Option.bind_some, ZwE g1, Zgf g2]
        by_cases h5 : Za5 (ZeQ (lkM m) l) = 0
        · have : (Za5 (ZeQ (lkM m) l) != 0) = false := by simpa using h5
          rw [this, if_pos h5]; rfl
        · have : (Za5 (ZeQ (lkM m) l) != 0) = true := by simpa using h5
          rw [this, if_neg h5]; rfl
theorem YbR {K : Zaa} (hK : Zcf K) : Zag U (Zac C K) 39 ⟨true, [.ty 33, .ty 70], [33, 25], Zti⟩ :=
  ZkS (kf hK 39 (by decide)) _ _ _ _ (YaZ hK) (Yh0 hK) (Yjm hK) (Zj0 (kf hK 24 (by decide)) (kf hK 43 (by decide)) (kf hK 67 (by decide))) _ fun a r h => by
    unfold Zti at h
    split at h
    · rename_i h3; cases h; exact ⟨0, ZtN a.2 a.1 h3.1 h3.2⟩
    · cases h
open Classical in
noncomputable def Zrv (a : List Val × List Cus) : Option (List Val × Int) := if okR (lkC a.2) a.1 ∧ ZfI a.2 then some (Ze7 (lkC a.2) a.1) else none
theorem YdS {l : List Val} {m : List Cus} (h : okR (lkC m) l) (h2 : ZfI m) : Zrv (l, m) = some (Ze7 (lkC m) l) := if_pos ⟨h, h2⟩
theorem YeL (m : List Cus) (l : List Val) (h : okR (lkC m) l) (hm : ZfI m) : Zli ZtW ZwL Yf3 ZhW 0 l m = some (Ze7 (lkC m) l) := by
  unfold Zli Ze7
  rw [Zrm h.1 hm.1 hm.2]
  cases e : Zfr (lkC m) l with
  | none =>
    rw [Zkw e]; rfl
  | some n =>
    rw [Zrs e]
    simp only [Option.bind_some, Bool.not_true, cond_false, ZlG h.1]
    by_cases h2 : 2000 < n ∧ Zbg l = true
    · have e2 : decide ((n : Int) > 2000) = true := by simp; omega
      rw [if_pos h2]
      simp only [e2, h2.2, cond_true, Option.bind_some]
    · obtain ⟨g1, g2⟩ := ZyA h e h2
      rw [if_neg h2]
      cases e4 : decide ((n : Int) > 2000)
      · simp only [cond_false, Option.bind_some, Zwe g1 hm.1, Zgf g2]
        by_cases h5 : Za5 (ZeQ (lkC m) l) = 0
        · have : (Za5 (ZeQ (lkC m) l) != 0) = false := by simpa using h5
          rw [this, if_pos h5]; rfl
        · have : (Za5 (ZeQ (lkC m) l) != 0) = true := by simpa using h5
          rw [this, if_neg h5]; rfl
      · have e5 : Zbg l = false := by
          have h3 : 2000 < n := by have := of_decide_eq_true e4; omega
          cases e : Zbg l with
          | true => exact absurd ⟨h3, e⟩ h2
          | false => rfl
        simp only [cond_true, e5, cond_false, Option.bind_some, Zwe g1 hm.1, Zgf g2]
        by_cases h5 : Za5 (ZeQ (lkC m) l) = 0
        · have : (Za5 (ZeQ (lkC m) l) != 0) = false := by simpa using h5
          rw [this, if_pos h5]; rfl
        · have : (Za5 (ZeQ (lkC m) l) != 0) = true := by simpa using h5
          rw [this, if_neg h5]; rfl
theorem Yje {K : Zaa} (hK : Zcf K) : Zag U (Zac C K) 41 ⟨true, [.ty 33, .ty 22], [33, 3], Zrv⟩ :=
  Zop (kf hK 41 (by decide)) _ _ _ _ (Zy6 hK) (Zx7 hK) (ZyZ hK) (Zmk (kf hK 27 (by decide)) (kf hK 33 (by decide)) (kf hK 46 (by decide)) (kf hK 47 (by decide)) (kf hK 54 (by decide))) _ fun a r h => by
    unfold Zrv at h
    split at h
    · rename_i h3; cases h; exact ⟨0, YeL a.2 a.1 h3.1 h3.2⟩
    · cases h
end Go.Tev.S1
namespace Go.Tev
open Go.Abs
mutual
def Val.uses : Val → List (List UInt8)
  | .mk t l => (if (t.k == 2 && (ZeP t.t == [118, 97, 114])) && ((Zav l).1 != []) then [(Zav l).1] else []) ++ ZbS l
def ZbS : List Val → List (List UInt8)
  | [] => []
  | v :: r => v.uses ++ ZbS r
end
theorem Val.uses_eq (v : Val) : v.uses = (if v.ref && ((Zav v.l).1 != []) then [(Zav v.l).1] else []) ++ ZbS v.l := by cases v; rfl
theorem ZmJ (a b : List Val) : ZbS (a ++ b) = ZbS a ++ ZbS b := by
  induction a with
  | nil => rfl
  | cons v a ih => simp only [List.cons_append, ZbS, ih, List.append_assoc]
theorem YiB {α : Type} (c : Bool) (n : α) : (if c = true then [n] else []).length ≤ 1 := by cases c <;> simp
mutual
theorem Yek : ∀ v : Val, v.uses.length ≤ v.tot
  | .mk t l => by
    have := Zim l
    rw [Val.uses_eq, Val.tot_eq]
    simp only [Val.l, Val.tok, List.length_append]
    exact Nat.le_trans (Nat.add_le_add_right (YiB _ _) _) (by omega)
theorem Zim : ∀ l : List Val, (ZbS l).length ≤ Zal l
  | [] => Nat.le_refl _
  | v :: r => by
    have h1 := Yek v
    have h2 := Zim r
    simp only [ZbS, Zal, List.length_append]; omega
end
abbrev Bm := List (List UInt8 × Bool)
def ZhY (h : Bm) (l : List Val) : Bm := (ZbS l).foldl (fun h n => ZzV BEq.beq n true h) h
theorem YaD (h : Bm) (l : List Val) (v : Val) : ZhY h (l ++ [v]) = (v.uses).foldl (fun h n => ZzV BEq.beq n true h) (ZhY h l) := by
  unfold ZhY
  rw [ZmJ, List.foldl_append]
  simp [ZbS]
end Go.Tev
namespace Go.Tev.S1
open Go.Abs Go.Proofs
def Zzf (l : List Val) : Option (List (List UInt8)) := if Zal l ≤ B then some (ZbS l) else none
theorem ZyC {l : List Val} (h : Zal l ≤ B) : Zzf l = some (ZbS l) := if_pos h
theorem Ycn (l : List Val) (k : Nat) (h1 : Zal l < k + 1) (h2 : Zal l ≤ B) : Zjc YhT ZiA (below Zal k Zzf) (l.length + 1) l = some (ZbS l) := by
  have hB : B = 2 ^ 36 := rfl
  unfold Zjc
  refine (Za3 l (fun b => ZbS b) (fun b v => .inl (b ++ [v])) (fun b => some (ZbS b)) (fun i b => b = l.take i) ?_ ?_ ?_ [] rfl _ (Nat.lt_succ_self _)).trans ?_
  · intro i b v k' hv hlt hb
    subst hb
    have hmem := List.mem_of_getElem? hv
    have hs := Zcz hmem
    have hm1 := Zhq hmem
    have hl := Zb3 l
    have hle := Zcs l i
    have hn := Zim (l.take i)
    have hn2 := Zim v.l
    have hi : IntKind.i64.wrap ((i : Int) + 1) = ((i + 1 : Nat) : Int) := Zaz (by omega)
    have hbel : below Zal k Zzf v.l = some (ZbS v.l) := (Zby (show Zal v.l < k by omega)).trans (ZyC (by omega))
    have r1 : room 16 ((ZbS (l.take i)).length + [(Zav v.l).1].length) = some () := Zej (by simp; omega) (by decide)
    have r2 : room 16 ((ZbS (l.take i) ++ [(Zav v.l).1]).length + (ZbS v.l).length) = some () := Zej (by simp; omega) (by decide)
    have r3 : room 16 ((ZbS (l.take i)).length + (ZbS v.l).length) = some () := Zej (by omega) (by decide)
    simp only [ZfP, ZaA hv, Option.bind_some, dlt hlt, cond_true, Val.eta, hi, hbel, ZwB (show v.tot ≤ B by omega), ZmJ, ZbS, List.append_nil, Val.uses_eq]
    cases e1 : v.ref
    · simp only [cond_false, Bool.false_and, Option.bind_some, r3, Bool.false_eq_true, if_false, List.nil_append]
    · simp only [cond_true, Bool.true_and, Option.bind_some, ZgW (show v.tot ≤ B by omega)]
      cases e2 : ((Zav v.l).1 != [])
      · simp only [cond_false, Option.bind_some, r3, Bool.false_eq_true, if_false, List.nil_append]
      · simp only [cond_true, Option.bind_some, r1, r2, if_true, List.append_assoc]
  · intro i b v b' hv hb hs
    cases hs
    rw [ZaP hv, hb]
  · intro b k' hb
    simp only [ZfP, ZiB, cond_false]
  · rw [Zbj (fun (b : List Val) (v : Val) => b ++ [v]), Zc6]
theorem YiO {K : Zaa} (hK : Zcf K) : Zag U (Zac C K) 38 ⟨true, [.ty 33], [40], Zzf⟩ :=
  Zbs (U := U) (ak := [.ty 33]) (rts := [40]) Zal Zzf fun k ih => Znk (kf hK 38 (by decide)) _ _ _ (ZjX hK) (Zwc hK) ih _ fun a r h => by
    obtain ⟨h1, h2⟩ := Za9 h
    unfold Zzf at h2
    split at h2
    · rename_i h3; cases h2; exact ⟨_, Ycn a k h1 h3⟩
    · cases h2
def YgD (l : List Val) (cs : Bm × Unit) : Option (Unit × (Bm × Unit)) := if Zal l ≤ B then some ((), (ZhY cs.1 l, ())) else none
theorem Yav {l : List Val} {h : Bm} (h1 : Zal l ≤ B) : YgD l (h, ()) = some ((), (ZhY h l, ())) := if_pos h1
theorem YeY (l : List Val) (h : Bm) (k : Nat) (h1 : Zal l < k + 1) (h2 : Zal l ≤ B) : ZgC (fun v => some v.ref) ZiA (fun a cs => if Zal a < k then YgD a cs else none) (l.length + 1) l h = some ((), (ZhY h l, ())) := by
  have hB : B = 2 ^ 36 := rfl
  unfold ZgC
  refine (ZhE l (fun b => ZhY h b) (fun b v => .inl (b ++ [v])) (fun b => some ((), (ZhY h b, ()))) (fun i b => b = l.take i) ?_ ?_ ?_ [] rfl _ (Nat.lt_succ_self _)).trans ?_
  · intro i b v k' hv hlt hb
    subst hb
    have hmem := List.mem_of_getElem? hv
    have hs := Zcz hmem
    have hm1 := Zhq hmem
    have hl := Zb3 l
    have hi : IntKind.i64.wrap ((i : Int) + 1) = ((i + 1 : Nat) : Int) := Zaz (by omega)
    have hbel : ∀ g : Bm, (if Zal v.l < k then YgD v.l (g, ()) else none) = some ((), (ZhY g v.l, ())) := fun g => (if_pos (by omega)).trans (Yav (by omega))
    simp only [ZeB, ZaA hv, Option.bind_some, dlt hlt, cond_true, Val.eta, hi, Bool.cond_self, hbel, YaD, Val.uses_eq, List.foldl_append]
    cases e1 : v.ref
    · simp only [cond_false, Bool.false_and, Bool.false_eq_true, if_false, List.foldl_nil]; rfl
    · simp only [cond_true, Bool.true_and, Option.bind_some, ZgW (show v.tot ≤ B by omega)]
      cases e2 : ((Zav v.l).1 != [])
      · simp only [cond_false, Bool.false_eq_true, if_false, List.foldl_nil]; rfl
      · simp only [cond_true, if_true, List.foldl_cons, List.foldl_nil]; rfl
  · intro i b v b' hv hb hs
    cases hs
    rw [ZaP hv, hb]
  · intro b k' hb
    simp only [ZeB, ZiB, cond_false]
  · rw [Zbj (fun (b : List Val) (v : Val) => b ++ [v]), Zc6]
theorem Ycz {K : Zaa} (hK : Zcf K) : Zft U (Zac C K) 34 ⟨[.ty 33, .ref (.map 9 4)], [], YgD⟩ :=
  Zzc (U := U) (ak := [.ty 33, .ref (.map 9 4)]) (rts := []) Zal YgD fun k ih => ZlB (kf hK 34 (by decide)) _ _ _ (ZvX hK) (Zwt hK) ih _ fun a cs r h => by
    by_cases h1 : Zal a < k + 1
    · have h2 : YgD a cs = some r := (if_pos h1).symm.trans h
      unfold YgD at h2
      by_cases h3 : Zal a ≤ B
      · rw [if_pos h3] at h2; cases h2; exact ⟨_, YeY a cs.1 k h1 h3⟩
      · rw [if_neg h3] at h2; cases h2
    · have h2 : none = some r := (if_neg h1).symm.trans h
      cases h2
noncomputable def Zpp (c : List Cus) : Option Bool := if ZfI c then Zhm ZtD ZpF (c.length + 2) c else none
theorem Ydw {K : Zaa} (hK : Zcf K) : Zag U (Zac C K) 5 ⟨true, [.ty 22], [4], Zpp⟩ :=
  ZlR (kf hK 5 (by decide)) _ _ (YfU hK) (Yfu hK) _ fun a r h => by
    unfold Zpp at h
    split at h
    · exact ⟨_, h⟩
    · cases h
theorem Zw2 {c : List Cus} (h : ZfI c) : ∃ b, Zpp c = some b := by
  have hB : B = 2 ^ 36 := rfl
  have hV : V = 2 ^ 24 := rfl
  unfold Zpp
  rw [if_pos h]
  unfold Zhm Zha
  have main : ∀ (r : List Cus) (i : Nat) (acc : Int) (fuel : Nat), c.drop i = r → i ≤ c.length → r.length + 1 < fuel → ∃ b, Zhv (fun y k_1 => Zdx ZtD ZpF (c.length + 2) c (fun z1 z2 =>
      Option.bind (some (bif decide ((c.length : Int) > 70) then true else decide (z2 > 1500))) fun m3 => some m3) (fun z4 => some z4) y.1 y.2.1 y.2.2.1 fun a0 a1 a2 => k_1 (a0, a1, a2, ())) fuel (false, acc, (i : Int), ()) = some b := by
    intro r
    induction r with
    | nil =>
      intro i acc fuel hr hi hf
      obtain ⟨n, rfl⟩ : ∃ n, fuel = n + 1 := ⟨fuel - 1, by omega⟩
      have : i = c.length := by
        have := congrArg List.length hr
        simp at this; omega
      subst this
      simp only [Zhv, Zdx, ZiB, cond_false, Option.bind_some]
      exact ⟨_, rfl⟩
    | cons v r ih =>
      intro i acc fuel hr hi hf
      obtain ⟨n, rfl⟩ : ∃ n, fuel = n + 1 := ⟨fuel - 1, by omega⟩
      have hv : c[i]? = some v := by
        have := congrArg (fun x => x[0]?) hr
        simpa using this
      have hlt : i < c.length := (List.getElem?_eq_some_iff.1 hv).1
      have hr' : c.drop (i + 1) = r := by rw [← List.drop_drop, hr]; rfl
      have hvm := h.2 v (List.mem_of_getElem? hv)
      have hl := h.1
      have hi2 : IntKind.i64.wrap ((i : Int) + 1) = ((i + 1 : Nat) : Int) := Zaz (by omega)
      simp only [Zhv, Zdx, dlt hlt, cond_true, Option.bind_some, ZaA hv, Ycs (show Zal v.val ≤ B by omega), ZrN (show Zal v.val ≤ B by omega), hi2]
      cases decide ((i : Int) ≤ 70)
      · exact ⟨_, rfl⟩
      · simp only [cond_true]
        cases Ya0 v.val
        · simp only [Bool.not_false, cond_true, cond_false, Option.bind_some]
          cases decide ((v.name.length : Int) > 100)
          · exact ih (i + 1) _ n hr' (by omega) (by simp at hf; omega)
          · exact ⟨_, rfl⟩
        · exact ⟨_, rfl⟩
  exact main c 0 0 (c.length + 2) rfl (Nat.zero_le _) (by omega)
end Go.Tev.S1
namespace Go.Tev
open Go.Abs
end Go.Tev
namespace Go.Tev.S1
open Go.Abs Go.Proofs
end Go.Tev.S1
