/- A certified evaluator for the walked functions, and their contracts, for the laws of the variables. -/
import Derived.Test.YtnmlodkomklpfaaGreatLL
set_option linter.unusedVariables false
set_option linter.unusedSimpArgs false
namespace Go.Tev.S1
open Go.Abs Go.Proofs
mutual
def ZqT : DV → DV → Bool
  | .bool a, .bool b => a == b
  | .int k a, .int m b => decide (k = m) && a == b
  | .str a, .str b => a == b
  | .slc a, .slc b => ZrJ a b
  | .agg a, .agg b => ZrJ a b
  | _, _ => false
def ZrJ : List DV → List DV → Bool
  | [], [] => true
  | a :: l, b :: m => ZqT a b && ZrJ l m
  | _, _ => false
end
mutual
theorem Zri : ∀ a b, ZqT a b = true → a = b
  | .bool a, .bool b, h => by simp only [ZqT, beq_iff_eq] at h; rw [h]
  | .int k a, .int m b, h => by simp only [ZqT, Bool.and_eq_true, beq_iff_eq, decide_eq_true_eq] at h; rw [h.1, h.2]
  | .str a, .str b, h => by simp only [ZqT, beq_iff_eq] at h; rw [h]
  | .slc a, .slc b, h => by simp only [ZqT] at h; rw [Zow a b h]
  | .agg a, .agg b, h => by simp only [ZqT] at h; rw [Zow a b h]
  | .bool _, .int .., h | .bool _, .str _, h | .bool _, .slc _, h | .bool _, .agg _, h | .bool _, .nilp, h | .bool _, .nilm, h | .bool _, .nilf, h | .bool _, .nili, h | .bool _, .fmap _, h | .bool _, .fn .., h | .bool _, .tup _, h | .bool _, .iface .., h => by simp [ZqT] at h
  | .int .., .bool _, h | .int .., .str _, h | .int .., .slc _, h | .int .., .agg _, h | .int .., .nilp, h | .int .., .nilm, h | .int .., .nilf, h | .int .., .nili, h | .int .., .fmap _, h | .int .., .fn .., h | .int .., .tup _, h | .int .., .iface .., h => by simp [ZqT] at h
  | .str _, .bool _, h | .str _, .int .., h | .str _, .slc _, h | .str _, .agg _, h | .str _, .nilp, h | .str _, .nilm, h | .str _, .nilf, h | .str _, .nili, h | .str _, .fmap _, h | .str _, .fn .., h | .str _, .tup _, h | .str _, .iface .., h => by simp [ZqT] at h
  | .slc _, .bool _, h | .slc _, .int .., h | .slc _, .str _, h | .slc _, .agg _, h | .slc _, .nilp, h | .slc _, .nilm, h | .slc _, .nilf, h | .slc _, .nili, h | .slc _, .fmap _, h | .slc _, .fn .., h | .slc _, .tup _, h | .slc _, .iface .., h => by simp [ZqT] at h
  | .agg _, .bool _, h | .agg _, .int .., h | .agg _, .slc _, h | .agg _, .str _, h | .agg _, .nilp, h | .agg _, .nilm, h | .agg _, .nilf, h | .agg _, .nili, h | .agg _, .fmap _, h | .agg _, .fn .., h | .agg _, .tup _, h | .agg _, .iface .., h => by simp [ZqT] at h
  | .nilp, _, h | .nilm, _, h | .nilf, _, h | .nili, _, h | .fmap _, _, h | .fn .., _, h | .tup _, _, h | .iface .., _, h => by simp [ZqT] at h
theorem Zow : ∀ a b, ZrJ a b = true → a = b
  | [], [], _ => rfl
  | a :: l, b :: m, h => by
    simp only [ZrJ, Bool.and_eq_true] at h
    rw [Zri a b h.1, Zow l m h.2]
  | [], _ :: _, h => by simp [ZrJ] at h
  | _ :: _, [], h => by simp [ZrJ] at h
end
def tA (k : Int) (t : List UInt8) (l : List Val) : Val := .mk ⟨k, t, 0, [], false⟩ l
def nA (n : Int) : Val := .mk ⟨10, [], n, [], true⟩ []
def cA (n : UInt8) (l : List Val) : Cus := ⟨[45, 45, n], l⟩
def rawA : List Cus := [cA 97 [tA 2 [118, 97, 114] [tA 1 [45, 45, 98] []]], cA 98 [nA 2000], cA 99 [tA 2 [118, 97, 114] [tA 1 [45, 45, 99] [], tA 18 [] [], tA 13 [] [], nA 1000]]]
def outA : List Cus := [cA 97 [nA 2000], cA 98 [nA 2000]]
def lkA : Lk := fun n => if n = [45, 45, 97] ∨ n = [45, 45, 98] then some [nA 2000] else none
theorem Zk3 : (rawA.map Cus.name).Nodup := by decide
theorem usA : ∀ x ∈ rawA, Zbt x.val = if x.name = [45, 45, 97] then [[45, 45, 98]] else if x.name = [45, 45, 98] then [] else [[45, 45, 99]] := by
  intro x hx
  simp only [rawA, List.mem_cons, List.not_mem_nil, or_false] at hx
  rcases hx with rfl | rfl | rfl <;> rfl
theorem Ye2 : ∀ x ∈ rawA, x.name ≠ [45, 45, 99] → ZoL lkA x = some [nA 2000] := by
  have h1 : ZeH lkA [nA 2000] = some 1 := by
    simp [ZeH, nA, Val.ref, Val.tok, Val.l, Zji]
  have h2 : Zei lkA [nA 2000] = [nA 2000] := by
    simp [Zei, nA, Val.ref, Val.tok, Val.l]
  have h0 : Ze8 [118, 97, 114] = [118, 97, 114] := by decide
  have h5 : (ZaA [tA 1 [45, 45, 98] []]).1 = [45, 45, 98] := by rfl
  have h6 : lkA [45, 45, 98] = some [nA 2000] := by rfl
  have h3 : ZeH lkA [tA 2 [118, 97, 114] [tA 1 [45, 45, 98] []]] = some 1 := by
    rw [ZbG, Zb7, Zns (x := [nA 2000]) rfl (h5 ▸ h6)]; rfl
  have h4 : Zei lkA [tA 2 [118, 97, 114] [tA 1 [45, 45, 98] []]] = [nA 2000] := by
    rw [Zei, Zei, if_pos (by rfl), show (ZaA (tA 2 [118, 97, 114] [tA 1 [45, 45, 98] []]).l).1 = [45, 45, 98] from h5, h6]; rfl
  have hc : Za0 [nA 2000] = 0 := by decide
  intro x hx hn
  simp only [rawA, List.mem_cons, List.not_mem_nil, or_false] at hx
  rcases hx with rfl | rfl | rfl
  · simp only [ZoL, cA, ZfG, h3, h4, hc, if_true]; rw [if_neg (by omega)]; rfl
  · simp only [ZoL, cA, ZfG, h1, h2, hc, if_true]; rw [if_neg (by omega)]; rfl
  · exact absurd rfl hn
theorem YeK {a b : List UInt8} (h : Edge (Zbq rawA) a b) : ∃ x ∈ rawA, x.name = a ∧ b ∈ Zbt x.val := by
  obtain ⟨u, h1, h2, h3⟩ := h
  have : a ∈ (Zbq rawA).map Prod.fst := mget_iff.1 (by rw [h1]; rfl)
  have : a ∈ rawA.map Cus.name := by simpa [Zbq] using this
  obtain ⟨x, hx, rfl⟩ := List.mem_map.1 this
  exact ⟨x, hx, rfl, ((ZhP Zk3 hx).1 ⟨u, h1, h2, h3⟩).1⟩
theorem edA {a b : List UInt8} (h : Edge (Zbq rawA) a b) : a = [45, 45, 97] ∧ b = [45, 45, 98] ∨ a = [45, 45, 99] ∧ b = [45, 45, 99] := by
  obtain ⟨x, hx, rfl, hb⟩ := YeK h
  rw [usA x hx] at hb
  simp only [rawA, List.mem_cons, List.not_mem_nil, or_false] at hx
  rcases hx with rfl | rfl | rfl
  · left; simpa [cA] using hb
  · simp [cA] at hb
  · right; simpa [cA] using hb
theorem Yem {a b : List UInt8} (h : Path (Zbq rawA) a b) : a = [45, 45, 97] ∧ b = [45, 45, 98] ∨ a = [45, 45, 99] ∧ b = [45, 45, 99] := by
  induction h with
  | one h => exact edA h
  | step h t ih =>
    rcases edA h with ⟨rfl, rfl⟩ | ⟨rfl, rfl⟩
    · rcases ih with ⟨h, _⟩ | ⟨h, _⟩ <;> simp at h
    · rcases ih with ⟨h, _⟩ | ⟨_, h⟩
      · simp at h
      · exact .inr ⟨rfl, h⟩
theorem solA : Sol rawA lkA where
  out n hn := by
    unfold lkA
    rw [if_neg]
    rintro (rfl | rfl) <;> exact hn (by decide)
  loop n hn := by
    unfold lkA
    rw [if_neg]
    rintro (rfl | rfl) <;> rcases Yem hn with ⟨h1, h2⟩ | ⟨h1, h2⟩ <;> first | (simp at h1; done) | (simp at h2; done)
  val x hx hn := by
    by_cases h3 : x.name = [45, 45, 99]
    · have hm : x.name ∈ Zbt x.val := by
        rw [usA x hx, h3]
        decide
      exact absurd (.one ((ZhP Zk3 hx).2 ⟨hm, List.mem_map.2 ⟨x, hx, rfl⟩⟩)) hn
    · rw [Ye2 x hx h3]
      simp only [rawA, List.mem_cons, List.not_mem_nil, or_false] at hx
      rcases hx with rfl | rfl | rfl
      · rfl
      · rfl
      · exact absurd rfl h3
theorem Yb8 : Zfr rawA (Zcy rawA) = outA := by
  have h : lkM (Zcy rawA) = lkA := Zs8 Zk3 (by decide) (Zja Zk3 (by decide)) solA
  unfold Zfr
  have e : ∀ n, Zbu BEq.beq n (Zcy rawA) = lkA n := fun n => by rw [← h]; rfl
  simp only [e]
  rfl
def K8 : Zaa := fun f args h => bif Nat.beq f 43 then (match args, h with
  | [.d v], [] => bif ZqT v (d44 rawA) then some (.d (.slc (outA.map Cus.enc)), []) else none
  | _, _ => none) else none
theorem YeN : Zba Tryz.prog K8 := by
  intro f args h r h' he
  unfold K8 at he
  cases hb : Nat.beq f 43 with
  | false => rw [hb] at he; cases he
  | true =>
    rw [hb, cond_true] at he
    have := Nat.eq_of_beq_eq_true hb
    subst this
    split at he
    · rename_i v
      cases hv : ZqT v (d44 rawA) with
      | false => rw [hv] at he; cases he
      | true =>
        rw [hv, cond_true] at he
        have := Zri _ _ hv
        subst this
        cases he
        rw [← Yb8]
        exact Zqd rawA Zk3 ⟨by decide, by decide⟩
    · cases he
set_option maxRecDepth 100000 in
theorem al8 : Zbf C K8 80 8 [] [] = some (.d (.bool true), []) := by kernel_rfl
noncomputable def K2 (K : Zaa) : Zaa := fun f args h => bif Nat.beq f 8 then (match args, h with
  | [], [] => some (.d (.bool true), [])
  | _, _ => none) else K f args h
theorem YdZ {K : Zaa} (hK : Zba Tryz.prog K) : Zba Tryz.prog (K2 K) := by
  intro f args h r h' he
  unfold K2 at he
  cases hb : Nat.beq f 8 with
  | false => rw [hb] at he; exact hK _ _ _ _ _ he
  | true =>
    rw [hb, cond_true] at he
    have := Nat.eq_of_beq_eq_true hb
    subst this
    split at he
    · cases he
      exact ZfV noCount mixed YeN 80 _ _ _ _ _ al8
    · cases he
theorem YaM {K : Zaa} (hK : Zde K) : Zde (K2 K) := by
  intro f args h hf
  unfold K2
  rw [show Nat.beq f 8 = false from beq_ne.2 fun e => hf (by subst e; decide)]
  exact hK f args h hf
theorem YaQ {K : Zaa} (hK : ZgH K) : ZgH (K2 K) := fun args h r he => hK args h r he
theorem Ybq {K : Zaa} : ZaC U (Zac C (K2 K)) 8 ⟨true, [], [4], fun _ => some true⟩ := by
  intro vs a r ds g hp hd hs hr
  have hp : Zvq U [] vs = some a := hp
  cases vs with
  | cons v vs => simp [Zvq, ZeG] at hp
  | nil =>
    simp only [dvL, Option.some.injEq] at hd
    subst hd
    have hr : U.inj 4 = some g := hr
    have hs : some true = some r := hs
    refine ⟨_, ok.inj _ _ r hr, ?_⟩
    unfold Zcz
    have : Zac C (K2 K) 8 [] [] = some (.d (.bool true), []) := Zh6 rfl
    cases hs
    simp only [List.map_nil, this]
    rfl
end Go.Tev.S1
