/- A certified evaluator for the walked functions, and their contracts, for the laws of the variables. -/
import Derived.Test.YtnmlodkomklpfaaGreatLH
set_option linter.unusedVariables false
set_option linter.unusedSimpArgs false
namespace Go.Tev
open Go.Abs
mutual
def Val.uses : Val → List (List UInt8)
  | .mk t l => (if (t.k == 2 && (ZdJ t.t == [118, 97, 114])) && ((Zax l).1 != []) then [(Zax l).1] else []) ++ Zb2 l
def Zb2 : List Val → List (List UInt8)
  | [] => []
  | v :: r => v.uses ++ Zb2 r
end
theorem Val.uses_eq (v : Val) : v.uses = (if v.ref && ((Zax v.l).1 != []) then [(Zax v.l).1] else []) ++ Zb2 v.l := by cases v; rfl
theorem ZrS (a b : List Val) : Zb2 (a ++ b) = Zb2 a ++ Zb2 b := by
  induction a with
  | nil => rfl
  | cons v a ih => simp only [List.cons_append, Zb2, ih, List.append_assoc]
theorem Ydp {α : Type} (c : Bool) (n : α) : (if c = true then [n] else []).length ≤ 1 := by cases c <;> simp
mutual
theorem ZzR : ∀ v : Val, v.uses.length ≤ v.tot
  | .mk t l => by
    have := Zlw l
    rw [Val.uses_eq, Val.tot_eq]
    simp only [Val.l, Val.tok, List.length_append]
    exact Nat.le_trans (Nat.add_le_add_right (Ydp _ _) _) (by omega)
theorem Zlw : ∀ l : List Val, (Zb2 l).length ≤ Zah l
  | [] => Nat.le_refl _
  | v :: r => by
    have h1 := ZzR v
    have h2 := Zlw r
    simp only [Zb2, Zah, List.length_append]; omega
end
abbrev Bm := List (List UInt8 × Bool)
def Zen (h : Bm) (l : List Val) : Bm := (Zb2 l).foldl (fun h n => ZgB BEq.beq n true h) h
theorem Zw2 (h : Bm) (l : List Val) (v : Val) : Zen h (l ++ [v]) = (v.uses).foldl (fun h n => ZgB BEq.beq n true h) (Zen h l) := by
  unfold Zen
  rw [ZrS, List.foldl_append]
  simp [Zb2]
end Go.Tev
namespace Go.Tev.S1
open Go.Abs Go.Proofs
def YbY (l : List Val) (cs : Bm × Unit) : Option (Unit × (Bm × Unit)) := if Zah l ≤ B then some ((), (Zen cs.1 l, ())) else none
theorem ZsW {l : List Val} {h : Bm} (h1 : Zah l ≤ B) : YbY l (h, ()) = some ((), (Zen h l, ())) := if_pos h1
theorem Zzr (l : List Val) (h : Bm) (k : Nat) (h1 : Zah l < k + 1) (h2 : Zah l ≤ B) : Zff (fun v => some v.ref) Zn8 (fun a cs => if Zah a < k then YbY a cs else none) (l.length + 1) l h = some ((), (Zen h l, ())) := by
  have hB : B = 2 ^ 36 := rfl
  unfold Zff
  refine (Zf1 l (fun b => Zen h b) (fun b v => .inl (b ++ [v])) (fun b => some ((), (Zen h b, ()))) (fun i b => b = l.take i) ?_ ?_ ?_ [] rfl _ (Nat.lt_succ_self _)).trans ?_
  · intro i b v k' hv hlt hb
    subst hb
    have hmem := List.mem_of_getElem? hv
    have hs := Zc9 hmem
    have hm1 := ZjK hmem
    have hl := Zdd l
    have hi : IntKind.i64.wrap ((i : Int) + 1) = ((i + 1 : Nat) : Int) := Za6 (by omega)
    have hbel : ∀ g : Bm, (if Zah v.l < k then YbY v.l (g, ()) else none) = some ((), (Zen g v.l, ())) := fun g => (if_pos (by omega)).trans (ZsW (by omega))
    simp only [Zdw, ZaS hv, Option.bind_some, dlt hlt, cond_true, Val.eta, hi, Bool.cond_self, hbel, Zw2, Val.uses_eq, List.foldl_append]
    cases e1 : v.ref
    · simp only [cond_false, Bool.false_and, Bool.false_eq_true, if_false, List.foldl_nil]; rfl
    · simp only [cond_true, Bool.true_and, Option.bind_some, ZlI (show v.tot ≤ B by omega)]
      cases e2 : ((Zax v.l).1 != [])
      · simp only [cond_false, Bool.false_eq_true, if_false, List.foldl_nil]; rfl
      · simp only [cond_true, if_true, List.foldl_cons, List.foldl_nil]; rfl
  · intro i b v b' hv hb hs
    cases hs
    rw [Za3 hv, hb]
  · intro b k' hb
    simp only [Zdw, ZnJ, cond_false]
  · rw [Zck (fun (b : List Val) (v : Val) => b ++ [v]), ZeJ]
theorem Zri {K : Zaa} (hK : Zcp K) : Zeh U (Zab C K) 36 ⟨[.ty 22, .ref (.map 9 4)], [], YbY⟩ :=
  ZuY (U := U) (ak := [.ty 22, .ref (.map 9 4)]) (rts := []) Zah YbY fun k ih => Zi2 (kf hK 36 (by decide)) _ _ _ (ZsO hK) (Zs1 hK) ih _ fun a cs r h => by
    by_cases h1 : Zah a < k + 1
    · have h2 : YbY a cs = some r := (if_pos h1).symm.trans h
      unfold YbY at h2
      by_cases h3 : Zah a ≤ B
      · rw [if_pos h3] at h2; cases h2; exact ⟨_, Zzr a cs.1 k h1 h3⟩
      · rw [if_neg h3] at h2; cases h2
    · have h2 : none = some r := (if_neg h1).symm.trans h
      cases h2
noncomputable def Zl8 (c : List Cus) : Option Bool := if ZkO c then Zgh ZnS Znr (c.length + 2) c else none
theorem Zzv {K : Zaa} (hK : Zcp K) : Zag U (Zab C K) 10 ⟨true, [.ty 23], [4], Zl8⟩ :=
  ZjS (kf hK 10 (by decide)) _ _ (Zwa hK) (YaN hK) _ fun a r h => by
    unfold Zl8 at h
    split at h
    · exact ⟨_, h⟩
    · cases h
theorem ZlV {c : List Cus} (h : ZkO c) : ∃ b, Zl8 c = some b := by
  have hB : B = 2 ^ 36 := rfl
  have hV : V = 2 ^ 24 := rfl
  unfold Zl8
  rw [if_pos h]
  unfold Zgh ZqF
  have main : ∀ (r : List Cus) (i : Nat) (acc : Int) (fuel : Nat), c.drop i = r → i ≤ c.length → r.length + 1 < fuel → ∃ b, Zgy (fun y k_1 => ZcM ZnS Znr (c.length + 2) c (fun z1 z2 =>
      Option.bind (some (bif decide ((c.length : Int) > 70) then true else decide (z2 > 1500))) fun m3 => some m3) (fun z4 => some z4) y.1 y.2.1 y.2.2.1 fun a0 a1 a2 => k_1 (a0, a1, a2, ())) fuel (false, acc, (i : Int), ()) = some b := by
    intro r
    induction r with
    | nil =>
      intro i acc fuel hr hi hf
      obtain ⟨n, rfl⟩ : ∃ n, fuel = n + 1 := ⟨fuel - 1, by omega⟩
      have : i = c.length := by
        have := congrArg List.length hr
        simp at this; omega
      subst this
      simp only [Zgy, ZcM, ZnJ, cond_false, Option.bind_some]
      exact ⟨_, rfl⟩
    | cons v r ih =>
      intro i acc fuel hr hi hf
      obtain ⟨n, rfl⟩ : ∃ n, fuel = n + 1 := ⟨fuel - 1, by omega⟩
      have hv : c[i]? = some v := by
        have := congrArg (fun x => x[0]?) hr
        simpa using this
      have hlt : i < c.length := (List.getElem?_eq_some_iff.1 hv).1
      have hr' : c.drop (i + 1) = r := by rw [← List.drop_drop, hr]; rfl
      have hvm := h.2 v (List.mem_of_getElem? hv)
      have hl := h.1
      have hi2 : IntKind.i64.wrap ((i : Int) + 1) = ((i + 1 : Nat) : Int) := Za6 (by omega)
      simp only [Zgy, ZcM, dlt hlt, cond_true, Option.bind_some, ZaS hv, ZqL (show Zah v.val ≤ B by omega), Zo6 (show Zah v.val ≤ B by omega), hi2]
      cases decide ((i : Int) ≤ 70)
      · exact ⟨_, rfl⟩
      · simp only [cond_true]
        cases ZuS v.val
        · simp only [Bool.not_false, cond_true, cond_false, Option.bind_some]
          cases decide ((v.name.length : Int) > 100)
          · exact ih (i + 1) _ n hr' (by omega) (by simp at hf; omega)
          · exact ⟨_, rfl⟩
        · exact ⟨_, rfl⟩
  exact main c 0 0 (c.length + 2) rfl (Nat.zero_le _) (by omega)
end Go.Tev.S1
namespace Go.Tev
open Go.Abs
def ZxN (x : List UInt8) : List (List UInt8) → List (List UInt8)
  | [] => [x]
  | y :: r => if Op.bytesLess y x then y :: ZxN x r else if y == x then y :: r else x :: y :: r
def ZqW (l : List (List UInt8)) : List (List UInt8) := l.foldl (fun o x => ZxN x o) []
end Go.Tev
namespace Go.Tev.S1
open Go.Abs Go.Proofs
end Go.Tev.S1
