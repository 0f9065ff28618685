/- A certified evaluator for the walked functions, and their contracts, for the laws of the variables. -/
import Derived.Test.YtnmlodkomklpfaaGreatLK
import Derived.Test.YtnmlodkomklpfaaGreatLG
import Derived.Test.YtnmlodkomklpfaaGreatLH
import Derived.Test.YtnmlodkomklpfaaGreatLI
set_option linter.unusedVariables false
set_option linter.unusedSimpArgs false
namespace Go.Tev.S1
open Go.Abs Go.Proofs
theorem Zr4 {α : Type} {l : List α} {i : Nat} {y : α} (h : y ∈ l.take i ++ l.drop (i + 1)) : y ∈ l := by
  rcases List.mem_append.1 h with h | h
  · exact List.mem_of_mem_take h
  · exact List.mem_of_mem_drop h
theorem ZkR {α : Type} (x : α) (l : List α) (i : Nat) : (x :: l).take (i + 1) ++ (x :: l).drop (i + 2) = x :: (l.take i ++ l.drop (i + 1)) := rfl
theorem Zoq {α : Type} : ∀ (l : List α) (i : Nat), (l.take i ++ l.drop (i + 1)).Sublist l
  | [], i => by simp
  | x :: l, 0 => List.sublist_cons_self x l
  | x :: l, i + 1 => (Zoq l i).cons_cons x
theorem ZxE {α : Type} : ∀ {l : List α} {i : Nat} {x y : α}, l[i]? = some x → y ∈ l → y = x ∨ y ∈ l.take i ++ l.drop (i + 1)
  | [], i, x, y, h, _ => by simp at h
  | z :: l, 0, x, y, h, hy => by
    rw [List.getElem?_cons_zero] at h; cases h
    rcases List.mem_cons.1 hy with h | h
    · exact .inl h
    · exact .inr h
  | z :: l, i + 1, x, y, h, hy => by
    rw [List.getElem?_cons_succ] at h
    rw [ZkR]
    rcases List.mem_cons.1 hy with h1 | h1
    · exact .inr (by rw [h1]; exact List.mem_cons_self)
    · exact (ZxE h h1).imp id (List.mem_cons_of_mem _)
theorem Yd2 {l : List Cus} : ∀ {i : Nat} {x : Cus}, (l.map Cus.name).Nodup → l[i]? = some x → ∀ y ∈ l.take i ++ l.drop (i + 1), y.name ≠ x.name := by
  induction l with
  | nil => intro i x _ h; simp at h
  | cons z l ih =>
    intro i x hn h y hy
    rw [List.map_cons, List.nodup_cons] at hn
    rcases i with _ | i
    · rw [List.getElem?_cons_zero] at h; cases h
      exact fun e => hn.1 (List.mem_map.2 ⟨y, hy, e⟩)
    · rw [List.getElem?_cons_succ] at h
      rw [ZkR] at hy
      rcases List.mem_cons.1 hy with rfl | hy
      · exact fun e => hn.1 (List.mem_map.2 ⟨x, List.mem_of_getElem? h, e.symm⟩)
      · exact ih hn.2 h y hy
theorem ZvU : ∀ {l : List Cus} {i : Nat} {x : Cus}, (l.map Cus.name).Nodup → l[i]? = some x → ∀ n, lkC (l.take i ++ l.drop (i + 1)) n = if n = x.name then none else lkC l n
  | [], i, x, _, h, n => by simp at h
  | z :: l, 0, x, hn, h, n => by
    rw [List.getElem?_cons_zero] at h; cases h
    rw [List.map_cons, List.nodup_cons] at hn
    show lkC l n = _
    by_cases e : n = z.name
    · subst e
      rw [if_pos rfl]
      cases hl : lkC l z.name with
      | none => rfl
      | some v =>
        obtain ⟨y, hy, e⟩ := ZiG hl
        exact absurd (List.mem_map.2 ⟨y, hy, e⟩) hn.1
    · rw [if_neg e, lkC, if_neg (by simpa using fun h => e h.symm)]
  | z :: l, i + 1, x, hn, h, n => by
    rw [List.getElem?_cons_succ] at h
    rw [List.map_cons, List.nodup_cons] at hn
    have ih := ZvU hn.2 h n
    have hzx : z.name ≠ x.name := fun e => hn.1 (List.mem_map.2 ⟨x, List.mem_of_getElem? h, e.symm⟩)
    rw [ZkR, lkC, lkC, ih]
    cases e : (z.name == n) with
    | true =>
      have e' : z.name = n := by simpa using e
      simp only [if_true]
      rw [if_neg (fun h => hzx (e'.trans h))]
    | false => simp only [Bool.false_eq_true, if_false]
theorem ZtD : ∀ {p : Option (List UInt8)} {l : List Cus} (i : Nat), namL p l = true → namL p (l.take i ++ l.drop (i + 1)) = true
  | p, [], i, h => by simpa using h
  | p, z :: l, 0, h => by
    rw [namL.eq_def] at h
    simp only [Bool.and_eq_true] at h
    refine Zpn (fun q0 hq => ?_) h.2
    subst hq
    exact h.1.2
  | p, z :: l, i + 1, h => by
    rw [ZkR]
    rw [namL.eq_def] at h ⊢
    simp only [Bool.and_eq_true] at h ⊢
    exact ⟨h.1, ZtD i h.2⟩
theorem Zw3 : ∀ {l : List Cus}, (∀ x ∈ l, Zba x.val = 0) → Zrm l = 0
  | [], _ => rfl
  | v :: l, h => by rw [Zrm, if_pos (h v (by simp))]; exact Zw3 fun x hx => h x (by simp [hx])
theorem Dn.less {raw c : List Cus} (D : Dn raw c) (i : Nat) : Dn (raw.take i ++ raw.drop (i + 1)) (Zd9 (raw.take i ++ raw.drop (i + 1))).1 ∧ (Zd9 (raw.take i ++ raw.drop (i + 1))).2 = 0 := by
  have hok : Zjh (raw.take i ++ raw.drop (i + 1)) := ⟨Nat.le_trans (Zoq raw i).length_le D.ok.1, fun y hy => D.ok.2 y (Zr4 hy)⟩
  have h0 : (Zd9 (raw.take i ++ raw.drop (i + 1))).2 = 0 := by
    unfold Zd9
    rw [if_neg (by have := (Zoq raw i).length_le; have := D.le; omega), if_neg (by rw [ZtD i D.nam]; simp), if_pos (Zw3 fun y hy => D.chk (Zr4 hy))]
  exact ⟨Ydq hok h0, h0⟩
theorem Dn.same_less {raw c : List Cus} (D : Dn raw c) {i : Nat} {x : Cus} (hx : raw[i]? = some x) (hno : ∀ y ∈ raw.take i ++ raw.drop (i + 1), x.name ∉ ZaX y.val) (n : List UInt8) : lkC (Zd9 (raw.take i ++ raw.drop (i + 1))).1 n = if n = x.name then none else lkC c n := by
  obtain ⟨D', _⟩ := D.less i
  generalize hless : raw.take i ++ raw.drop (i + 1) = less at D' hno ⊢
  have hsub : ∀ y ∈ less, y ∈ raw := fun y hy => Zr4 (by rw [hless]; exact hy)
  have hnm : ∀ y ∈ less, y.name ≠ x.name := fun y hy => Yd2 D.nd hx y (by rw [hless]; exact hy)
  have hcov : ∀ y ∈ raw, y = x ∨ y ∈ less := fun y hy => by rw [← hless]; exact ZxE hx hy
  have up : ∀ {a b : List UInt8}, Edge (ZaS less) a b → Edge (ZaS raw) a b := by
    intro a b h
    have ha : a ∈ (ZaS less).map Prod.fst := mget_iff.1 (by obtain ⟨u, h1, _⟩ := h; rw [h1]; rfl)
    obtain ⟨y, hy, rfl⟩ := List.mem_map.1 (show a ∈ less.map Cus.name by simpa [ZaS] using ha)
    obtain ⟨h1, h2⟩ := (Zfe D'.nd hy).1 h
    obtain ⟨z, hz, rfl⟩ := List.mem_map.1 h2
    exact (Zfe D.nd (hsub y hy)).2 ⟨h1, List.mem_map.2 ⟨z, hsub z hz, rfl⟩⟩
  have down : ∀ {a b : List UInt8}, Edge (ZaS raw) a b → a ≠ x.name → Edge (ZaS less) a b ∧ b ≠ x.name := by
    intro a b h ha
    have ha' : a ∈ (ZaS raw).map Prod.fst := mget_iff.1 (by obtain ⟨u, h1, _⟩ := h; rw [h1]; rfl)
    obtain ⟨y, hy, rfl⟩ := List.mem_map.1 (show a ∈ raw.map Cus.name by simpa [ZaS] using ha')
    have hyl : y ∈ less := (hcov y hy).resolve_left fun e => ha (by rw [e])
    obtain ⟨h1, h2⟩ := (Zfe D.nd hy).1 h
    have hb : b ≠ x.name := fun e => hno y hyl (e ▸ h1)
    obtain ⟨z, hz, rfl⟩ := List.mem_map.1 h2
    have hzl : z ∈ less := (hcov z hz).resolve_left fun e => hb (by rw [e])
    exact ⟨(Zfe D'.nd hyl).2 ⟨h1, List.mem_map.2 ⟨z, hzl, rfl⟩⟩, hb⟩
  have pup : ∀ {a b : List UInt8}, Path (ZaS less) a b → Path (ZaS raw) a b := by
    intro a b h
    induction h with
    | one h => exact .one (up h)
    | step h _ ih => exact .step (up h) ih
  have pdn : ∀ {a b : List UInt8}, Path (ZaS raw) a b → a ≠ x.name → Path (ZaS less) a b := by
    intro a b h
    induction h with
    | one h => exact fun ha => .one (down h ha).1
    | step h _ ih => exact fun ha => .step (down h ha).1 (ih (down h ha).2)
  have S : Sol less (fun n => if n = x.name then none else lkC c n) := by
    refine ⟨fun n hn => ?_, fun n hn => ?_, fun y hy hc => ?_⟩
    · by_cases e : n = x.name
      · simp only [if_pos e]
      · simp only [if_neg e]
        cases hl : lkC c n with
        | none => rfl
        | some v =>
          obtain ⟨z, hz, rfl⟩ := ZiG hl
          obtain ⟨⟨y, hy, e2⟩, _⟩ := D.mem hz
          have hyl : y ∈ less := (hcov y hy).resolve_left fun h => e (by rw [← e2, h])
          exact absurd (List.mem_map.2 ⟨y, hyl, e2⟩) hn
    · by_cases e : n = x.name
      · simp only [if_pos e]
      · simp only [if_neg e]
        exact D.loop (pup hn)
    · have hne := hnm y hy
      simp only [if_neg hne]
      rw [D.val (hsub y hy) (fun h => hc (pdn h hne))]
      refine Zht ⟨?_, fun n hn => ?_⟩
      · have : lkC c [] = none := by
          rw [D.lk]; exact D.sol.out [] (Zs0 D.nam)
        simp only [this, ite_self]
      · have : n ≠ x.name := fun e => hno y hy (e ▸ hn)
        simp only [if_neg this]
  have := Zte D'.nd (Zs0 D'.nam) D'.sol S
  rw [D'.lk, this]
theorem Dn.srt {raw c : List Cus} (D : Dn raw c) : Srt c := ZoJ (p := none) (by rw [D.eq]; exact ZsF D.nam)
theorem Zxn {raw c : List Cus} (D : Dn raw c) {i : Nat} {x : Cus} (hx : raw[i]? = some x) (hno : ∀ y ∈ raw.take i ++ raw.drop (i + 1), x.name ∉ ZaX y.val) :
    (lkC c x.name = none → c = (Zd9 (raw.take i ++ raw.drop (i + 1))).1) ∧ ∀ (j : Nat) (z : Cus), c[j]? = some z → z.name = x.name → c.take j ++ c.drop (j + 1) = (Zd9 (raw.take i ++ raw.drop (i + 1))).1 := by
  obtain ⟨D', _⟩ := D.less i
  have h := D.same_less hx hno
  constructor
  · intro hn
    refine Zsp D.srt D'.srt (funext fun n => ?_)
    rw [h n]
    by_cases e : n = x.name
    · rw [if_pos e, e, hn]
    · rw [if_neg e]
  · intro j z hz hn
    refine Zsp ((List.Pairwise.sublist (Zoq c j) D.srt)) D'.srt (funext fun n => ?_)
    rw [h n, ZvU (ZiU D.srt) hz n, hn]
end Go.Tev.S1
namespace Go.Tev.S1
open Go.Abs Go.Proofs
end Go.Tev.S1
namespace Go.Tev.S1
open Go.Abs Go.Proofs
end Go.Tev.S1
namespace Go.Tev.S1
open Go.Abs Go.Proofs
end Go.Tev.S1
namespace Go.Tev.S1
open Go.Abs Go.Proofs
theorem dge (n : Nat) : decide ((n : Int) ≥ 0) = true := by simp
end Go.Tev.S1
namespace Go.Tev.S1
open Go.Abs Go.Proofs
abbrev T9a : Type := Unit → Option Bool
abbrev T9b : Type := (List Cus) → Option Bool
abbrev T9c : Type := (List Cus) → Option ((List Cus) × Int)
abbrev T9d : Type := (List Cus) × (List UInt8) → Option Int
abbrev T9e : Type := (List Cus) × (List Cus) → Option Bool
abbrev T9f : Type := (List Val) → Option ((List (List UInt8)) × Int)
abbrev P9a (K : Zaa) (t : T9a) : Prop := Zap U (Zab C K) 8 ⟨true, [], [4], t⟩
abbrev P9b (K : Zaa) (t : T9b) : Prop := Zap U (Zab C K) 10 ⟨true, [.ty 23], [4], t⟩
abbrev P9c (K : Zaa) (t : T9c) : Prop := Zap U (Zab C K) 16 ⟨true, [.ty 23], [23, 28], t⟩
abbrev P9d (K : Zaa) (t : T9d) : Prop := Zap U (Zab C K) 17 ⟨true, [.ty 23, .ty 9], [3], t⟩
abbrev P9e (K : Zaa) (t : T9e) : Prop := Zap U (Zab C K) 18 ⟨true, [.ty 23, .ty 23], [4], t⟩
abbrev P9f (K : Zaa) (t : T9f) : Prop := Zap U (Zab C K) 13 ⟨true, [.ty 22], [31, 28], t⟩
def Zbw (qa : T9a) (qb : T9b) (qc : T9c) (qd : T9d) (qe : T9e) (qf : T9f) {R : Type} (n : Nat) (a0 : List Cus) (a1 : Int) (a5 : Bool) (a6 : List Cus) (a8 : List Cus) (a9 : List Cus) (a11 : Int) (a62 : Bool) (a12 : List (List UInt8)) (a13 : Int) (kx2 : Bool → Int → Option R) (kr : Bool → Option R) (y4 : Bool) (y14 : Int) (k : Bool → Int → Option R) : Option R :=
  cond (decide (y14 < (a12.length : Int)))
  (Option.bind (Zeu a12 y14) fun x28 =>
  Option.bind (Zeu a0 a1) fun x29 =>
  cond (x28 == x29.name)
  (kr a5)
  (k y4 (IntKind.i64.wrap (y14 + (1 : Int)))))
  (kx2 y4 y14)
def Zbx (qa : T9a) (qb : T9b) (qc : T9c) (qd : T9d) (qe : T9e) (qf : T9f) {R : Type} (n : Nat) (a0 : List Cus) (a1 : Int) (a5 : Bool) (a6 : List Cus) (a8 : List Cus) (a9 : List Cus) (kx0 : Bool → Option R) (kr : Bool → Option R) (y4 : Bool) (y11 : Int) (k : Bool → Int → Option R) : Option R :=
  cond (decide (y11 < (a8.length : Int)))
  (Option.bind (Zeu a8 y11) fun x23 =>
  Option.bind (qf x23.val) fun r24 =>
  Zff (Zbw qa qb qc qd qe qf n a0 a1 a5 a6 a8 a9 y11 (decide (y11 < (a8.length : Int))) r24.1 r24.2 (fun z25 z26 =>
  cond (r24.2 != (0 : Int))
  (kr false)
  (k z25 (IntKind.i64.wrap (y11 + (1 : Int))))) (fun z27 =>
  kr z27)) n y4 (0 : Int))
  (kx0 y4)
def ZcS (qa : T9a) (qb : T9b) (qc : T9c) (qd : T9d) (qe : T9e) (qf : T9f) (n : Nat) (p0 : List Cus) (p1 : Int) : Option Bool :=
  Option.bind (qa ()) fun r1 =>
  Option.bind (qb p0) fun r2 =>
  Option.bind (some (cond r2 true (decide (p1 < (0 : Int))))) fun m3 =>
  Option.bind (some (cond m3 true (decide (p1 ≥ (p0.length : Int))))) fun m4 =>
  Option.bind (some (cond m4 true (!r1))) fun m5 =>
  cond m5
  (some r1)
  (Option.bind (qc p0) fun r6 =>
  cond (r6.2 != (0 : Int))
  (some r1)
  (Option.bind (Zmh p0 (0 : Int) p1) fun s7 =>
  Option.bind (Option.bind (room 40 (([] : List Cus).length + s7.length)) (fun _ => some (([] : List Cus) ++ s7))) fun o8 =>
  Option.bind (Zmh p0 (IntKind.i64.wrap (p1 + (1 : Int))) (p0.length : Int)) fun s9 =>
  Option.bind (Option.bind (room 40 (o8.length + s9.length)) (fun _ => some (o8 ++ s9))) fun o10 =>
  Option.bind (qc o10) fun r11 =>
  cond (r11.2 != (0 : Int))
  (some false)
  (Zff (Zbx qa qb qc qd qe qf n p0 p1 r1 r6.1 o10 r11.1 (fun z12 =>
  Option.bind (Zeu p0 p1) fun x13 =>
  Option.bind (qd (r6.1, x13.name)) fun r14 =>
  Option.bind (cond (decide (r14 ≥ (0 : Int))) (Zmh r6.1 (0 : Int) r14) (some [])) fun s15 =>
  Option.bind (cond (decide (r14 ≥ (0 : Int))) (Option.bind (room 40 (([] : List Cus).length + s15.length)) (fun _ => some (([] : List Cus) ++ s15))) (some ([] : List Cus))) fun o16 =>
  Option.bind (cond (decide (r14 ≥ (0 : Int))) (Zmh r6.1 (IntKind.i64.wrap (r14 + (1 : Int))) (r6.1.length : Int)) (some [])) fun s17 =>
  Option.bind (cond (decide (r14 ≥ (0 : Int))) (Option.bind (room 40 (o16.length + s17.length)) (fun _ => some (o16 ++ s17))) (some o16)) fun o18 =>
  Option.bind (some (cond (decide (r14 ≥ (0 : Int))) o18 r6.1)) fun m19 =>
  Option.bind (cond r1 (qe (m19, r11.1)) (some false)) fun r20 =>
  Option.bind (some (cond r1 r20 false)) fun m21 =>
  some m21) (fun z22 =>
  some z22)) n false (0 : Int))))
abbrev ZiL (qa : T9a) (qb : T9b) (qc : T9c) (qd : T9d) (qe : T9e) (qf : T9f) : List (Nat × TCall X) := [(8, ⟨true, [], [4], qa⟩), (10, ⟨true, [.ty 23], [4], qb⟩), (16, ⟨true, [.ty 23], [23, 28], qc⟩), (17, ⟨true, [.ty 23, .ty 9], [3], qd⟩), (18, ⟨true, [.ty 23, .ty 23], [4], qe⟩), (13, ⟨true, [.ty 22], [31, 28], qf⟩)]
noncomputable abbrev ZaD (qa : T9a) (qb : T9b) (qc : T9c) (qd : T9d) (qe : T9e) (qf : T9f) : Cx := ⟨C, U, ZiL qa qb qc qd qe qf, [], fun _ => []⟩
theorem Zia : okF (C.ann 4) Tryz.f4 2 = true := by kernel_rfl
abbrev law30_VarsNeeded_L2_D : LD := ⟨0, [.val 0 23, .val 1 2, .val 5 4, .val 6 23, .val 8 23, .val 9 23, .val 11 2, .val 62 4, .val 12 31, .val 13 2], [.val 4 4, .val 14 2], [(2, [.val 4 4, .val 14 2])], [.val 4 4]⟩
abbrev ZbM (qa : T9a) (qb : T9b) (qc : T9c) (qd : T9d) (qe : T9e) (qf : T9f) (n : Nat) : LG U (PX X [4]) law30_VarsNeeded_L2_D := fun c kx kr y k => Zbw qa qb qc qd qe qf n c.1 c.2.1 c.2.2.1 c.2.2.2.1 c.2.2.2.2.1 c.2.2.2.2.2.1 c.2.2.2.2.2.2.1 c.2.2.2.2.2.2.2.1 c.2.2.2.2.2.2.2.2.1 c.2.2.2.2.2.2.2.2.2.1 (fun z0 z1 => kx 2 (z0, z1, ())) (fun z0 => kr (z0, ())) y.1 y.2.1 (fun z0 z1 => k (z0, z1, ()))
abbrev law30_VarsNeeded_L0_D : LD := ⟨0, [.val 0 23, .val 1 2, .val 5 4, .val 6 23, .val 8 23, .val 9 23], [.val 4 4, .val 11 2], [(0, [.val 4 4])], [.val 4 4]⟩
abbrev ZbL (qa : T9a) (qb : T9b) (qc : T9c) (qd : T9d) (qe : T9e) (qf : T9f) (n : Nat) : LG U (PX X [4]) law30_VarsNeeded_L0_D := fun c kx kr y k => Zbx qa qb qc qd qe qf n c.1 c.2.1 c.2.2.1 c.2.2.2.1 c.2.2.2.2.1 c.2.2.2.2.2.1 (fun z0 => kx 0 (z0, ())) (fun z0 => kr (z0, ())) y.1 y.2.1 (fun z0 z1 => k (z0, z1, ()))
noncomputable abbrev ZaZ (qa : T9a) (qb : T9b) (qc : T9c) (qd : T9d) (qe : T9e) (qf : T9f) (n : Nat) : Zfm (ZaD qa qb qc qd qe qf) (PX X [4]) := [(2, Zfl U law30_VarsNeeded_L2_D (ZbM qa qb qc qd qe qf n) n), (0, Zfl U law30_VarsNeeded_L0_D (ZbL qa qb qc qd qe qf n) n)]
theorem Zgy (qa : T9a) (qb : T9b) (qc : T9c) (qd : T9d) (qe : T9e) (qf : T9f) (n : Nat) : ∀ c kx kr y k1, evL (ZaD qa qb qc qd qe qf) (ann 4) (ZaZ qa qb qc qd qe qf n) 2 (Zao (Zac Tryz.f4) 2) (ZeL U law30_VarsNeeded_L2_D kx kr k1) (encS U law30_VarsNeeded_L2_D.cap law30_VarsNeeded_L2_D.din c y) = ZbM qa qb qc qd qe qf n c (fun i z => kx i c z) kr y (fun y2 => k1 c y2) := by
  intro c kx kr y k1
  kernel_rfl
theorem ZgD (qa : T9a) (qb : T9b) (qc : T9c) (qd : T9d) (qe : T9e) (qf : T9f) (n : Nat) : ∀ c kx kr y k1, evL (ZaD qa qb qc qd qe qf) (ann 4) (ZaZ qa qb qc qd qe qf n) 0 (Zao (Zac Tryz.f4) 0) (ZeL U law30_VarsNeeded_L0_D kx kr k1) (encS U law30_VarsNeeded_L0_D.cap law30_VarsNeeded_L0_D.din c y) = ZbL qa qb qc qd qe qf n c (fun i z => kx i c z) kr y (fun y2 => k1 c y2) := by
  intro c kx kr y k1
  kernel_rfl
theorem Ziv (qa : T9a) (qb : T9b) (qc : T9c) (qd : T9d) (qe : T9e) (qf : T9f) (n : Nat) : ∀ a, fnL (ZaD qa qb qc qd qe qf) true 4 Tryz.f4 [.ty 23, .ty 3] [4] (ZaZ qa qb qc qd qe qf n) a = ZcS qa qb qc qd qe qf n a.1 a.2 := by
  intro a
  kernel_rfl
theorem Zc6 {K : Zaa} (qa : T9a) (qb : T9b) (qc : T9c) (qd : T9d) (qe : T9e) (qf : T9f) (h0 : P9a K qa) (h1 : P9b K qb) (h2 : P9c K qc) (h3 : P9d K qd) (h4 : P9e K qe) (h5 : P9f K qf) : CallsOk (ZaD qa qb qc qd qe qf) (Zab C K) :=
  ⟨(Zah h0 (Zah h1 (Zah h2 (Zah h3 (Zah h4 (Zah h5 ZaF)))))), ZaG⟩
theorem Zdz {K : Zaa} (qa : T9a) (qb : T9b) (qc : T9c) (qd : T9d) (qe : T9e) (qf : T9f) (h0 : P9a K qa) (h1 : P9b K qb) (h2 : P9c K qc) (h3 : P9d K qd) (h4 : P9e K qe) (h5 : P9f K qf) (n : Nat) (b0 : Base) (bn0 : b0.nr ≤ 0) : Law (ZaD qa qb qc qd qe qf) b0 (Zab C K) (ann 4) n (Zao (Zac Tryz.f4) 2) (Zfl U law30_VarsNeeded_L2_D (ZbM qa qb qc qd qe qf n) n) :=
  Zdt (x := ZaD qa qb qc qd qe qf) (id := 2) ok (Zc6 qa qb qc qd qe qf h0 h1 h2 h3 h4 h5) (sums := ZaZ qa qb qc qd qe qf n) (Zau (show Zat 2 (Zao (Zac Tryz.f4) 2) = [] by kernel_rfl)) law30_VarsNeeded_L2_D bn0 (ZbM qa qb qc qd qe qf n) (Zgy qa qb qc qd qe qf n)
theorem ZfZ {K : Zaa} (qa : T9a) (qb : T9b) (qc : T9c) (qd : T9d) (qe : T9e) (qf : T9f) (h0 : P9a K qa) (h1 : P9b K qb) (h2 : P9c K qc) (h3 : P9d K qd) (h4 : P9e K qe) (h5 : P9f K qf) (n : Nat) (b0 : Base) (bn0 : b0.nr ≤ 0) : Law (ZaD qa qb qc qd qe qf) b0 (Zab C K) (ann 4) n (Zao (Zac Tryz.f4) 0) (Zfl U law30_VarsNeeded_L0_D (ZbL qa qb qc qd qe qf n) n) :=
  Zdt (x := ZaD qa qb qc qd qe qf) (id := 0) ok (Zc6 qa qb qc qd qe qf h0 h1 h2 h3 h4 h5) (sums := ZaZ qa qb qc qd qe qf n) (Zbq (ids := [2]) (by kernel_rfl) (by decide) (fun i hi => by
    simp only [List.mem_cons, List.not_mem_nil, or_false] at hi
    rcases hi with rfl
    · exact Zbg (c2 := Zao (Zac Tryz.f4) 2) (by kernel_rfl) (by kernel_rfl) (Zdz qa qb qc qd qe qf h0 h1 h2 h3 h4 h5 n b0 bn0)
    )) law30_VarsNeeded_L0_D bn0 (ZbL qa qb qc qd qe qf n) (ZgD qa qb qc qd qe qf n)
theorem Zgt {K : Zaa} (hK : ∀ args h, K 4 args h = none) (qa : T9a) (qb : T9b) (qc : T9c) (qd : T9d) (qe : T9e) (qf : T9f) (h0 : P9a K qa) (h1 : P9b K qb) (h2 : P9c K qc) (h3 : P9d K qd) (h4 : P9e K qe) (h5 : P9f K qf) (t : PX X (AK.tys [.ty 23, .ty 3]) → Option (PX X [4])) (h : ∀ a r, t a = some r → ∃ n, ZcS qa qb qc qd qe qf n a.1 a.2 = some r) : Zap U (Zab C K) 4 ⟨true, [.ty 23, .ty 3], [4], t⟩ := by
  refine Zax (x := ZaD qa qb qc qd qe qf) (ak := [.ty 23, .ty 3]) (rts := [4]) (dir := true) ok (Zc6 qa qb qc qd qe qf h0 h1 h2 h3 h4 h5) hK Tryz.func4 Zia fun a r hr => ?_
  obtain ⟨n, hn⟩ := h a r hr
  exact ⟨n, ZaZ qa qb qc qd qe qf n, (Zbq (ids := [0, 2]) (by kernel_rfl) (by decide) (fun i hi => by
    simp only [List.mem_cons, List.not_mem_nil, or_false] at hi
    rcases hi with rfl | rfl
    · exact Zbg (c2 := Zao (Zac Tryz.f4) 0) (by kernel_rfl) (by kernel_rfl) (ZfZ qa qb qc qd qe qf h0 h1 h2 h3 h4 h5 _ _ (Nat.le_refl _))
    · exact Zbg (c2 := Zao (Zac Tryz.f4) 2) (by kernel_rfl) (by kernel_rfl) (Zdz qa qb qc qd qe qf h0 h1 h2 h3 h4 h5 _ _ (Nat.le_refl _))
    )), (Ziv qa qb qc qd qe qf n a).trans hn⟩
end Go.Tev.S1
namespace Go.Tev.S1
open Go.Abs Go.Proofs
theorem Zth {α : Type} {l : List α} {i : Nat} (h : i ≤ l.length) : Zmh l (0 : Int) (i : Int) = some (l.take i) := by
  unfold Zmh
  rw [if_pos (by omega)]
  simp
theorem ZsW {α : Type} {l : List α} {i : Nat} (h : i ≤ l.length) : Zmh l (i : Int) (l.length : Int) = some (l.drop i) := by
  unfold Zmh
  rw [if_pos (by omega)]
  simp
theorem ZxC {raw less c d : List Cus} {i : Nat} {x : Cus} (hx : raw[i]? = some x) (us : List (List UInt8)) (hl : us.length < 2 ^ 62) (z : Nat) (b0 : Bool) (e : Int) {R : Type} (n : Nat) (hn : us.length < n) (kx : Bool → Int → Option R) (kr : Bool → Option R) (y : Bool) :
    Zff (Zbw (fun _ => some true) ZhZ Znn Zvi ZlY Zj3 n raw (i : Int) true c less d (z : Int) b0 us e kx kr) n y (0 : Int) = if x.name ∈ us then kr true else kx y (us.length : Int) := by
  refine (Zcy us (fun (_ : Unit) => y) (fun _ u => if u = x.name then .inr (kr true) else .inl ()) (fun _ => kx y (us.length : Int)) (fun i b => True) ?_ (fun _ _ _ _ _ _ _ => trivial) ?_ () trivial _ hn).trans ?_
  · intro k b u K hu hlt _
    have hi : IntKind.i64.wrap ((k : Int) + 1) = ((k + 1 : Nat) : Int) := Za1 (by omega)
    simp only [Zbw, dlt hlt, cond_true, Zbh hu, Zbh hx, Option.bind_some, hi]
    by_cases h : u = x.name
    · rw [if_pos h, h]; simp
    · rw [if_neg h, show (u == x.name) = false by simpa using h]; rfl
  · intro b K _
    simp only [Zbw, Zpc, cond_false]
  · have : ∀ l : List (List UInt8), Zjg (fun (_ : Unit) (u : List UInt8) => if u = x.name then (.inr (kr true) : Unit ⊕ Option R) else .inl ()) (fun _ => kx y (us.length : Int)) l () = if x.name ∈ l then kr true else kx y (us.length : Int) := by
      intro l
      induction l with
      | nil => simp [Zjg]
      | cons u l ih =>
        simp only [Zjg]
        by_cases h : u = x.name
        · rw [if_pos h, if_pos (by simp [h])]
        · rw [if_neg h]
          simp only [ih, List.mem_cons]
          by_cases h2 : x.name ∈ l
          · rw [if_pos h2, if_pos (.inr h2)]
          · rw [if_neg h2, if_neg (by rintro (h3 | h3); exact h h3.symm; exact h2 h3)]
    exact this us
theorem ZzA {l : List Val} (h : Zba l = 0) : Zsi l = (Zde (ZaX l), 0) := by unfold Zsi; rw [if_neg (by simpa using h)]
theorem Yes {raw c : List Cus} (D : Dn raw c) {y : Cus} (hy : y ∈ raw) : (Zde (ZaX y.val)).length ≤ B := Nat.le_trans (ZpP _) (Nat.le_trans (Zg0 _) (D.tot hy))
theorem ZuQ (raw : List Cus) (p1 : Int) (hok : Zjh raw) (n : Nat) (hn : B < n) : ZcS (fun _ => some true) ZhZ Znn Zvi ZlY Zj3 n raw p1 = some true := by
  obtain ⟨b, hb⟩ := Zr0 hok
  unfold ZcS
  simp only [Option.bind_some, hb]
  cases b
  case true => rfl
  simp only [cond_false, Option.bind_some, Bool.not_true]
  cases e1 : decide (p1 < 0)
  case true => rfl
  cases e2 : decide (p1 ≥ (raw.length : Int))
  case true => rfl
  simp only [cond_false, Option.bind_some]
  have h1 : ¬ (p1 < 0) := by simpa using e1
  have h2 : ¬ (p1 ≥ (raw.length : Int)) := by simpa using e2
  obtain ⟨i, rfl⟩ := Int.eq_ofNat_of_zero_le (show 0 ≤ p1 by omega)
  have hi : i < raw.length := by omega
  simp only [Zqb hok, Option.bind_some]
  cases e : ((Zd9 raw).2 != 0)
  case true => rfl
  have D := Ydq hok (by simpa using e)
  generalize hc : (Zd9 raw).1 = c at D
  have hx := List.getElem?_eq_getElem hi
  generalize raw[i] = x at hx
  have hw : IntKind.i64.wrap ((i : Int) + 1) = ((i + 1 : Nat) : Int) := Za1 (by have := D.le; omega)
  obtain ⟨D', h0⟩ := D.less i
  have rm1 : room 40 (([] : List Cus).length + (raw.take i).length) = some () := ZlQ (by have := D.le; simp; omega) (by decide)
  have rm2 : room 40 ((raw.take i).length + (raw.drop (i + 1)).length) = some () := ZlQ (by have := D.le; simp; omega) (by decide)
  simp only [cond_false, Zth (show i ≤ raw.length by omega), hw, ZsW (show i + 1 ≤ raw.length by omega), Option.bind_some, rm1, List.nil_append, rm2, Zqb D'.ok, h0, show ((0 : Int) != 0) = false from rfl]
  have nd := Zxn D hx
  generalize hd : (Zd9 (raw.take i ++ raw.drop (i + 1))).1 = d at D' nd
  generalize hless : raw.take i ++ raw.drop (i + 1) = less at D' nd
  have hlB : less.length < n := Nat.lt_of_le_of_lt D'.ok.1 hn
  have key : ∀ kx : Bool → Option Bool, ((∀ y ∈ less, x.name ∉ ZaX y.val) → kx false = some true) → Zff (Zbx (fun _ => some true) ZhZ Znn Zvi ZlY Zj3 n raw (i : Int) true c less d kx (fun z => some z)) n false (0 : Int) = some true := by
    intro kx hkx
    refine (Zcy less (fun (_ : Unit) => false) (fun _ v => if x.name ∈ Zde (ZaX v.val) then .inr (some true) else .inl ()) (fun _ => kx false) (fun i b => True) ?_ (fun _ _ _ _ _ _ _ => trivial) ?_ () trivial _ hlB).trans ?_
    · intro k b v K hv hlt _
      have hm := List.mem_of_getElem? hv
      have hw2 : IntKind.i64.wrap ((k : Int) + 1) = ((k + 1 : Nat) : Int) := Za1 (by have := D'.le; omega)
      have hub := Yes D' hm
      simp only [Zbx, dlt hlt, cond_true, Zbh hv, Option.bind_some, ZqG (D'.tot hm), ZzA (D'.chk hm)]
      rw [ZxC hx (Zde (ZaX v.val)) (Nat.lt_of_le_of_lt hub (by decide)) k _ _ _ (Nat.lt_of_le_of_lt hub hn)]
      by_cases h : x.name ∈ Zde (ZaX v.val)
      · rw [if_pos h, if_pos h]
      · rw [if_neg h, if_neg h]
        simp only [show ((0 : Int) != 0) = false from rfl, cond_false, hw2]
    · intro b K _
      simp only [Zbx, Zpc, cond_false]
    · by_cases hu : ∃ v ∈ less, x.name ∈ Zde (ZaX v.val)
      · have : ∀ (l : List Cus) (kx : Unit → Option Bool), (∃ v ∈ l, x.name ∈ Zde (ZaX v.val)) → Zjg (fun (_ : Unit) (v : Cus) => if x.name ∈ Zde (ZaX v.val) then (.inr (some true) : Unit ⊕ Option Bool) else .inl ()) kx l () = some true := by
          intro l kx
          induction l with
          | nil => intro ⟨v, hv, _⟩; cases hv
          | cons v l ih =>
            intro ⟨w, hw, hw2⟩
            simp only [Zjg]
            by_cases h : x.name ∈ Zde (ZaX v.val)
            · rw [if_pos h]
            · rw [if_neg h]
              rcases List.mem_cons.1 hw with rfl | hw
              · exact absurd hw2 h
              · exact ih ⟨w, hw, hw2⟩
        exact this _ _ hu
      · have : ∀ (l : List Cus) (kx : Unit → Option Bool), (∀ v ∈ l, x.name ∉ Zde (ZaX v.val)) → Zjg (fun (_ : Unit) (v : Cus) => if x.name ∈ Zde (ZaX v.val) then (.inr (some true) : Unit ⊕ Option Bool) else .inl ()) kx l () = kx () := by
          intro l kx
          induction l with
          | nil => intro _; rfl
          | cons v l ih =>
            intro h
            simp only [Zjg]
            rw [if_neg (h v (by simp))]
            exact ih fun w hw => h w (by simp [hw])
        rw [this _ _ (fun v hv h => hu ⟨v, hv, h⟩)]
        exact hkx fun y hy h => hu ⟨y, hy, ((ZhB _).2 _).2 h⟩
  refine key _ fun hno => ?_
  obtain ⟨n1, n2⟩ := nd hno
  have hcl : c.length ≤ 64 := by rw [D.eq]; exact Nat.le_trans (Zov _ _) D.le
  simp only [Zbh hx, Option.bind_some, Ztf D.okc.1, cond_true]
  rcases Zk4 c x.name with h | ⟨j, h, hj⟩
  · rw [h]
    have hn : lkC c x.name = none := by
      rcases Zuv c x.name 0 with ⟨_, h2⟩ | ⟨j, z, h1, _⟩
      · exact h2
      · have h1' : Zc7 c x.name 0 = ((0 + j : Nat) : Int) := h1
        rw [h] at h1'; omega
    rw [show decide ((-1 : Int) ≥ 0) = false from rfl]
    simp only [cond_false, Option.bind_some, n1 hn, ZpW D'.okc]
  · rw [h]
    obtain ⟨z, hz, hzn⟩ := (ZgO (ZiU D.srt) x.name j).1 h
    have hw3 : IntKind.i64.wrap ((j : Int) + 1) = ((j + 1 : Nat) : Int) := Za1 (by omega)
    have rm3 : room 40 (([] : List Cus).length + (c.take j).length) = some () := ZlQ (by simp; omega) (by decide)
    have rm4 : room 40 ((c.take j).length + (c.drop (j + 1)).length) = some () := ZlQ (by simp; omega) (by decide)
    simp only [dge, cond_true, Zth (show j ≤ c.length by omega), Option.bind_some, rm3, List.nil_append, hw3, ZsW (show j + 1 ≤ c.length by omega), rm4, n2 j z hz hzn, ZpW D'.okc]
open Classical in
noncomputable def Ybi (a : List Cus × Int) : Option Bool := if Zjh a.1 then some true else none
theorem Zpz : Zap U (Zab C Kz) 4 ⟨true, [.ty 23, .ty 3], [4], Ybi⟩ :=
  Zgt (kf Zfg 4 (by decide)) _ _ _ _ _ _ YbS (ZyC Zfg) Ycv (Yax Zfg) (Ycr Zfg) (Zm0 Zfg YaV) _ fun a r h => by
    have h : Ybi a = some r := h
    unfold Ybi at h
    split at h
    · rename_i h3; cases h; exact ⟨_, ZuQ a.1 a.2 h3 (B + 1) (Nat.lt_succ_self _)⟩
    · cases h
end Go.Tev.S1
