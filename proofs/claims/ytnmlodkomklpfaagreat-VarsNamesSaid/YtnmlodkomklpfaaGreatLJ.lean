/- A certified evaluator for the walked functions, and their contracts, for the laws of the variables. -/
import Derived.Test.YtnmlodkomklpfaaGreatLF
import Derived.Maps.Own
import Derived.Sort.KeysCollected
import Derived.Laws.AppendOwn
import Derived.Below
import Derived.Test.YtnmlodkomklpfaaGreatLI
import Derived.Test.YtnmlodkomklpfaaGreatLG
set_option linter.unusedVariables false
set_option linter.unusedSimpArgs false
namespace Go.Abs
open Go.Proofs (encStr)
open Go.RowKit (Below)
def Ze4 : List (DV × AV) → Option (List (List UInt8))
  | [] => some []
  | (.str k, .d (.bool _)) :: r => (Ze4 r).map (k :: ·)
  | _ => none
theorem ZjM : ∀ {es : List (DV × AV)} {ks : List (List UInt8)}, Ze4 es = some ks → ks.length = es.length ∧ ∀ (j : Nat) e, es[j]? = some e → ∃ k b, e = (.str k, .d (.bool b)) ∧ ks[j]? = some k
  | [], ks, h => by
    simp only [Ze4, Option.some.injEq] at h
    subst h
    exact ⟨rfl, fun j e h => by simp at h⟩
  | x :: r, ks, h => by
    obtain ⟨a, b⟩ := x
    unfold Ze4 at h
    split at h
    · cases ‹_ :: _ = []›
    · rename_i k b' r' he
      cases he
      cases hr : Ze4 r with
      | none => rw [hr] at h; cases h
      | some l =>
        rw [hr] at h
        cases h
        obtain ⟨h1, h2⟩ := ZjM hr
        refine ⟨by simp [h1], fun j e hj => ?_⟩
        cases j with
        | zero => simp only [List.getElem?_cons_zero, Option.some.injEq] at hj; subst hj; exact ⟨k, b', rfl, rfl⟩
        | succ j => exact h2 j e (by simpa using hj)
    · cases h
def ZfM (ks : List (List UInt8)) : List (List UInt8) := ks.mergeSort leB
def Zwb (ks : List (List UInt8)) : Prop := ks.Nodup ∧ ks.length ≤ 2 ^ 40 ∧ ∀ k ∈ ks, k.length ≤ 2 ^ 40
noncomputable instance (ks : List (List UInt8)) : Decidable (Zwb ks) := Classical.propDecidable _
noncomputable def Zt0 (it : FuncId) (args : List AV) (h : List AObj) : Option (AV × List AObj) := match args with
  | [.fn f [.ptr v 0]] => bif Nat.beq f it then (match h[v]? with
    | some (.var [.mp id]) => (match h[id]? with
      | some (.map es) => (match Ze4 es with
        | some ks => if Zwb ks then some (.d (.slc ((ZfM ks).map .str)), h) else none
        | none => none)
      | _ => none)
    | _ => none) else none
  | _ => none
def Zm2 (P : Program) (so it : FuncId) (kt : TypeId) : Prop := ∀ (bm b nn : Nat) (D0 : DataW Unit) (R : Value → Option (DataW Unit × List MemPlace)) (w : World), bm < w.heap.size → w.cell? ⟨bm, 0, none⟩ = some (.map (some b)) → w.ownsMap P kt R b nn D0 →
  Maps.size D0 ≤ maxLen → Maps.size D0 * 16 ≤ 140737488355328 →
  Calls P so #[.func (.func it) #[] #[.pointer (some ⟨bm, 0, none⟩)]] w fun e w' => ∃ (v : Value) (ss : List (List UInt8)), e = .returned v ∧ ss.Perm (strKeys D0) ∧
    w'.ownsRow w.heap.size kt 1 v ss.length ((ss.mergeSort (fun x y => decide (x ≤ y))).map encStr) ∧ (v = .slice none 0 0 ↔ ss = []) ∧ Below w.heap.size w w'
theorem Zxm {P : Program} {w : World} {own : Own} {h : List AObj} {v : Value} {id : Nat} {cs : List AV} (H : HRel P w own h) (r : ARep P w own h v (.ptr id 0)) (hi : h[id]? = some (.var cs)) :
    ∃ b c T fr, v = .pointer (some ⟨b, 0, none⟩) ∧ own b = some (.obj id, 0) ∧ w.heap[b]? = some (.cells c T fr) ∧ Zf3 c fr ∧ c.size = cs.length ∧ ∀ (j : Nat) a, cs[j]? = some a → ∃ v, c[j]? = some v ∧ v.oneCell' = true ∧ ARep P w own h v a := by
  cases r with
  | ptr _ _ _ hid hl hv =>
    obtain ⟨b, h1, h2⟩ := hl cs hi
    obtain ⟨b', h3, c, T, fr, h4, h5, h6, h7⟩ := H.obj id _ hi
    have : b' = b := H.uniq _ _ _ _ _ h3 h1 (by simp)
    subst this
    exact ⟨b', c, T, fr, h2, h1, h4, h5, h6, h7⟩
theorem YbN {P : Program} {w : World} {own : Own} {h : List AObj} {v : Value} {id : Nat} {es : List (DV × AV)} (H : HRel P w own h) (r : ARep P w own h v (.mp id)) (hi : h[id]? = some (.map es)) :
    ∃ b m clock, v = .map (some b) ∧ own b = some (.obj id, 0) ∧ w.heap[b]? = some (.map m clock) ∧ ZgF m clock ∧ m.size = es.length ∧ ∀ (j : Nat) e x, m[j]? = some e → es[j]? = some x → Rep w own e.key x.1 ∧ ARep P w own h e.val x.2 := by
  cases r with
  | mp _ _ hid hl hv =>
    obtain ⟨b, h1, h2⟩ := hl es hi
    obtain ⟨b', h3, m, cl, h4, h5, h6, h7⟩ := H.obj id _ hi
    have : b' = b := H.uniq _ _ _ _ _ h3 h1 (by simp)
    subst this
    exact ⟨b', m, cl, h2, h1, h4, h5, h6, h7⟩
theorem Zrq {w w' : World} (hb : Below w.heap.size w w') : Grow w w' := ⟨hb.os, hb.tape, hb.output, hb.size, hb.block⟩
theorem Zzq {P : Program} {so it kt vt : Nat} (hfn : ∃ fn, P.funcs[so]? = some fn ∧ fn.body.isSome = true) (hk : P.underlying kt = some .string) (hv : P.underlying vt = some .bool) (hS : Zm2 P so it kt)
    {args : List AV} {h : List AObj} {r : AV} {h' : List AObj} (he : Zt0 it args h = some (r, h')) : Has P so args h r h' := by
  unfold Zt0 at he
  split at he
  · rename_i f v
    cases hb : Nat.beq f it with
    | false => rw [hb] at he; cases he
    | true =>
      rw [hb] at he
      have hf : f = it := Nat.eq_of_beq_eq_true hb
      subst hf
      simp only [cond_true] at he
      split at he
      · rename_i id hv1
        split at he
        · rename_i es hv2
          split at he
          · rename_i ks hks
            split at he
            · rename_i hok
              simp only [Option.some.injEq, Prod.mk.injEq] at he
              obtain ⟨rfl, rfl⟩ := he
              refine ⟨hfn, fun w own vs H hO hsz hargs => ?_⟩
              obtain ⟨v0, rfl⟩ : ∃ v0, vs = #[v0] := by
                obtain ⟨l⟩ := vs
                match l, hsz with
                | [x], _ => exact ⟨x, rfl⟩
              have h0 := hargs 0 v0 _ rfl rfl
              cases h0 with
              | fn _ cs _ hl hh =>
                obtain ⟨c0, rfl⟩ : ∃ c0, cs = #[c0] := by
                  obtain ⟨l⟩ := cs
                  match l, hl with
                  | [x], _ => exact ⟨x, rfl⟩
                have hc0 := hh 0 c0 _ rfl rfl
                obtain ⟨b, c, T, fr, rfl, hob, hhb, hnf, hcs, hcell⟩ := Zxm H hc0 hv1
                obtain ⟨u, hu1, hu2, hu3⟩ := hcell 0 _ rfl
                obtain ⟨mb, m, cl, rfl, hom, hhm, hst, hms, hent⟩ := YbN H hu3 hv2
                obtain ⟨hlen, hget⟩ := ZjM hks
                obtain ⟨hnd, hbd, hbk⟩ := hok
                have hkey : ∀ (j : Nat) e, m[j]? = some e → ∃ k x, e.key = encStr k ∧ e.val = .bool x ∧ ks[j]? = some k ∧ k.length ≤ 2 ^ 40 := by
                  intro j e hj
                  have hj2 : j < es.length := by rw [← hms]; exact (Array.getElem?_eq_some_iff.1 hj).1
                  obtain ⟨k, x, hx, hkj⟩ := hget j _ (List.getElem?_eq_getElem hj2)
                  obtain ⟨r1, r2⟩ := hent j e _ hj (List.getElem?_eq_getElem hj2)
                  rw [hx] at r1 r2
                  simp only at r1 r2
                  refine ⟨k, x, ?_, ?_, hkj, hbk k (List.mem_of_getElem? hkj)⟩
                  · generalize e.key = ky at r1
                    cases r1 with
                    | str s => simp [encStr]
                  · generalize e.val = vl at r2
                    cases r2 with
                    | d _ _ r3 => cases r3; rfl
                have hmax : maxLen = 2 ^ 63 - 1 := rfl
                have hrd : ∀ (j : Nat) e, m[j]? = some e → ∃ k x, ks[j]? = some k ∧ WideElems.rd (H := Unit) P kt (plainElem P vt) e = some (.string k, .lit (.bool x)) ∧ e.key = encStr k := by
                  intro j e hj
                  obtain ⟨k, x, h1, h2, h3, h4⟩ := hkey j e hj
                  refine ⟨k, x, h3, ?_, h1⟩
                  unfold WideElems.rd
                  rw [h1, h2]
                  have hko : keyOf P kt (encStr k) = some (.string k) := by
                    unfold keyOf
                    simp only [hk, mapKey, encStr]
                    rw [if_pos (by simp [ByteArray.size]; omega)]
                  rw [hko]
                  simp only [Option.bind_some, plainElem_bool hv, Option.map_some]
                have hkeys : m.toList.map (fun x => x.key) = ks.map encStr := by
                  apply List.ext_getElem?
                  intro j
                  rw [List.getElem?_map, List.getElem?_map, Array.getElem?_toList]
                  cases hj : m[j]? with
                  | none =>
                    have : es.length ≤ j := by
                      rw [← hms]
                      exact Array.getElem?_eq_none_iff.1 hj
                    rw [List.getElem?_eq_none (by omega)]; rfl
                  | some e =>
                    obtain ⟨k, x, h1, _, h3⟩ := hrd j e hj
                    rw [h1]
                    simp [h3]
                have hfit : WideElems.Fit (H := Unit) P kt (plainElem P vt) m cl := by
                  refine ⟨by omega, ⟨hst.1, hst.2, ?_⟩, fun e he => ?_⟩
                  · rw [hkeys]
                    exact List.pairwise_map.2 (hnd.imp fun h e => h (encStr_inj e))
                  · obtain ⟨j, hj, rfl⟩ := List.mem_iff_getElem.1 he
                    obtain ⟨k, x, _, h2, _⟩ := hrd j m.toList[j] (by rw [← Array.getElem?_toList]; exact List.getElem?_eq_getElem hj)
                    exact ⟨_, h2⟩
                have hrg : m.toList.map (fun e => strOf (WideElems.rg (H := Unit) P kt (plainElem P vt) e).1) = ks := by
                  apply List.ext_getElem?
                  intro j
                  rw [List.getElem?_map, Array.getElem?_toList]
                  cases hj : m[j]? with
                  | none =>
                    have : es.length ≤ j := by
                      rw [← hms]
                      exact Array.getElem?_eq_none_iff.1 hj
                    rw [List.getElem?_eq_none (by omega)]; rfl
                  | some e =>
                    obtain ⟨k, x, h1, h2, h3⟩ := hrd j e hj
                    rw [h1]
                    simp [WideElems.rg, h2, strOf]
                have hperm := WideShapes.sorted_perm (m.toList.map (WideElems.rg (H := Unit) P kt (plainElem P vt)))
                have hsize : Maps.size (DataW.map (H := Unit) ((m.toList.map (WideElems.rg P kt (plainElem P vt))).foldr DataW.insert [])) = es.length := by
                  show List.length _ = _
                  rw [hperm.length_eq]
                  simp [hms]
                have hstr : (strKeys (DataW.map (H := Unit) ((m.toList.map (WideElems.rg P kt (plainElem P vt))).foldr DataW.insert []))).Perm ks := by
                  show List.Perm (List.map _ _) _
                  refine (hperm.map _).trans ?_
                  rw [List.map_map]
                  exact List.Perm.of_eq hrg
                have hlb : b < w.heap.size := H.lt b _ hob
                refine (hS b mb es.length _ _ w hlb (by
                  have : w.cell? ⟨b, 0, none⟩ = c[0]? := by simp [World.cell?, hhb]
                  rw [this, hu1]) ⟨m, cl, hhm, hfit, by omega, rfl⟩ (by rw [hsize]; omega) (by rw [hsize]; omega)).mono ?_
                rintro e w' ⟨v, ss, rfl, hss, hrow, hnil, hbel⟩
                have hg := Zrq hbel
                have hsort : ss.mergeSort (fun x y => decide (x ≤ y)) = ZfM ks := mergeSort_of_perm (hss.trans hstr)
                refine ⟨v, own, rfl, hO, H.grow hg, .d _ _ ?_, hg.frm own, hg.extA own _⟩
                rw [hsort] at hrow
                have hsl : (ZfM ks).length = ss.length := by
                  rw [← hsort]; exact List.length_mergeSort ss
                obtain ⟨hr0, hr1⟩ := hrow
                rcases hr1 with ⟨rfl, hz⟩ | ⟨g, cap, cur, rfl, hge, hgb, hn, hcap, hcur, htake⟩
                · have : ZfM ks = [] := List.eq_nil_of_length_eq_zero (by omega)
                  rw [this]
                  exact .slc0 none 0
                · have hown : own g = none := by
                    cases ho : own g with
                    | none => rfl
                    | some x => have := H.lt g x ho; omega
                  have hel : ((ZfM ks).map DV.str).length = ss.length := by simp [hsl]
                  rw [show ss.length = ((ZfM ks).map DV.str).length from hel.symm]
                  have hcells : ∀ i, i < ss.length → cur[i]? = ((ZfM ks).map encStr)[i]? := by
                    intro i hi
                    rw [← htake, List.getElem?_take, if_pos (by omega), Array.getElem?_toList]
                  have hgc : ∀ i, i < ss.length → ∃ k, (ZfM ks)[i]? = some k ∧ w'.cell? ⟨g, 0 + i, none⟩ = some (encStr k) := by
                    intro i hi
                    have hi2 : i < (ZfM ks).length := by omega
                    refine ⟨_, List.getElem?_eq_getElem hi2, ?_⟩
                    have : w'.cell? ⟨g, 0 + i, none⟩ = cur[i]? := by simp [World.cell?, hgb]
                    rw [this, hcells i hi, List.getElem?_map, List.getElem?_eq_getElem hi2]; rfl
                  refine .slc g 0 cap 1 _ (fun i => ((ZfM ks)[i]?.map encStr).getD .nilFunc) (by rw [hel]; exact hn) (fun e he => ?_) (fun i hi => ?_) (fun i hi => ?_) (fun i hi => ?_) (fun i d hd => ?_)
                  · obtain ⟨k, _, rfl⟩ := List.mem_map.1 he; rfl
                  · obtain ⟨k, h1, h2⟩ := hgc i (by rw [hel] at hi; omega)
                    rw [h2, h1]; rfl
                  · intro x f hx; rw [hown] at hx; cases hx
                  · obtain ⟨k, h1, h2⟩ := hgc i (by rw [hel] at hi; omega)
                    rw [h1]; rfl
                  · have hflat : ((ZfM ks).map DV.str).flatMap DV.cells = (ZfM ks).map DV.str := by
                      generalize ZfM ks = l
                      induction l with
                      | nil => rfl
                      | cons k l ih => simp only [List.map_cons, List.flatMap_cons, ih]; rfl
                    rw [hflat, List.getElem?_map] at hd
                    cases hk2 : (ZfM ks)[i]? with
                    | none => rw [hk2] at hd; cases hd
                    | some k =>
                      rw [hk2] at hd
                      cases hd
                      simp only [Option.map_some, Option.getD_some]
                      have := Rep.str (w := w') (own := own) ⟨k.toArray⟩
                      simpa [encStr] using this
            · cases he
          · cases he
        · cases he
      · cases he
  · cases he
end Go.Abs
namespace Go.Tev
open Go.Abs
theorem YbM (a b : List UInt8) : Op.bytesLess a b = true ↔ a < b := by
  induction a generalizing b with
  | nil => cases b with
    | nil => simp [Op.bytesLess]
    | cons y b => simp [Op.bytesLess]
  | cons x a ih => cases b with
    | nil => simp [Op.bytesLess]
    | cons y b =>
      rw [Op.bytesLess, List.cons_lt_cons_iff, Bool.or_eq_true, Bool.and_eq_true, decide_eq_true_iff, beq_iff_eq, ih b]
def strict (l : List (List UInt8)) : Prop := l.Pairwise fun a b => Op.bytesLess a b = true
theorem Zng (x y : List UInt8) : ∀ l, y ∈ ZrK x l ↔ y = x ∨ y ∈ l
  | [] => by simp [ZrK]
  | z :: r => by
    have ih := Zng x y r
    unfold ZrK
    split
    · rw [List.mem_cons, ih, List.mem_cons]
      constructor
      · rintro (h | h | h) <;> simp [h]
      · rintro (h | h | h) <;> simp [h]
    · split
      · rename_i h1 h2
        rw [beq_iff_eq] at h2
        subst h2
        simp
      · simp
theorem ZrR {a b : List UInt8} (h1 : ¬ Op.bytesLess a b = true) (h2 : ¬ (a == b) = true) : Op.bytesLess b a = true := by
  have := Ztd a b
  rw [Bool.not_eq_true] at h1 h2
  rw [h1, h2] at this
  simpa using this.symm
theorem Zl3 (x : List UInt8) : ∀ l, strict l → strict (ZrK x l)
  | [], h => by simp [ZrK, strict]
  | z :: r, h => by
    obtain ⟨h1, h2⟩ := List.pairwise_cons.1 h
    have ih := Zl3 x r h2
    unfold ZrK
    split
    · rename_i hz
      refine List.pairwise_cons.2 ⟨fun y hy => ?_, ih⟩
      rcases (Zng x y r).1 hy with rfl | hy
      · exact hz
      · exact h1 y hy
    · split
      · exact h
      · rename_i a b
        have hx := ZrR a b
        exact List.pairwise_cons.2 ⟨fun y hy => by
          rcases List.mem_cons.1 hy with rfl | hy
          · exact hx
          · exact Zm5 hx (h1 y hy), h⟩
theorem Zjm (l : List (List UInt8)) : strict (Zf6 l) ∧ ∀ y, y ∈ Zf6 l ↔ y ∈ l := by
  have : ∀ (l o : List (List UInt8)), strict o → strict (l.foldl (fun o x => ZrK x o) o) ∧ ∀ y, y ∈ l.foldl (fun o x => ZrK x o) o ↔ y ∈ o ∨ y ∈ l := by
    intro l
    induction l with
    | nil => intro o ho; exact ⟨ho, fun y => by simp⟩
    | cons x l ih =>
      intro o ho
      obtain ⟨h1, h2⟩ := ih (ZrK x o) (Zl3 x o ho)
      refine ⟨h1, fun y => ?_⟩
      rw [List.foldl_cons, h2 y, Zng, List.mem_cons]
      constructor
      · rintro ((h | h) | h) <;> simp [h]
      · rintro (h | h | h) <;> simp [h]
  obtain ⟨h1, h2⟩ := this l [] List.Pairwise.nil
  exact ⟨h1, fun y => by have := h2 y; simpa [Zf6] using this⟩
theorem Zpk {l : List (List UInt8)} (h : strict l) : l.Nodup := h.imp fun {a b} hl e => by
  subst e; rw [ZhX] at hl; cases hl
theorem ZrL {ks us : List (List UInt8)} (h1 : ks.Nodup) (h2 : ∀ y, y ∈ ks ↔ y ∈ us) : ZfM ks = Zf6 us := by
  obtain ⟨s1, s2⟩ := Zjm us
  have hp : ks.Perm (Zf6 us) := (List.perm_ext_iff_of_nodup h1 (Zpk s1)).2 fun y => by rw [h2 y, s2 y]
  have hle : ∀ {a b : List UInt8}, Op.bytesLess a b = true → leB a b = true := fun {a b} h => by
    simp only [leB, decide_eq_true_eq]
    exact List.le_of_lt ((YbM a b).1 h)
  have tr : ∀ a b c : List UInt8, leB a b = true → leB b c = true → leB a c = true := fun a b c h1 h2 => by simp only [leB, decide_eq_true_eq] at *; exact List.le_trans h1 h2
  have to : ∀ a b : List UInt8, (leB a b || leB b a) = true := fun a b => by simp only [leB, Bool.or_eq_true, decide_eq_true_eq]; exact List.le_total a b
  refine List.Perm.eq_of_pairwise (le := fun a b => leB a b = true) (fun a b _ _ h1 h2 => ?_) (List.pairwise_mergeSort tr to ks) (s1.imp hle) ((List.mergeSort_perm ks leB).trans hp)
  simp only [leB, decide_eq_true_eq] at h1 h2
  exact List.le_antisymm h1 h2
def Zcf (h : Bm) : List (List UInt8) := h.map Prod.fst
theorem Zor (n : List UInt8) (y : List UInt8) : ∀ h : Bm, y ∈ Zcf (Zgu BEq.beq n true h) ↔ y = n ∨ y ∈ Zcf h
  | [] => by simp [Zgu, Zcf]
  | (k, v) :: r => by
    have ih := Zor n y r
    simp only [Zgu]
    cases e : (n == k)
    · simp only [cond_false, Zcf, List.map_cons, List.mem_cons] at ih ⊢
      rw [ih]
      constructor
      · rintro (h | h | h) <;> simp [h]
      · rintro (h | h | h) <;> simp [h]
    · rw [beq_iff_eq] at e
      subst e
      simp only [cond_true, Zcf, List.map_cons, List.mem_cons]
      simp
theorem ZmV (n : List UInt8) : ∀ h : Bm, (Zcf h).Nodup → (Zcf (Zgu BEq.beq n true h)).Nodup
  | [], _ => by simp [Zgu, Zcf]
  | (k, v) :: r, hn => by
    simp only [Zcf, List.map_cons, List.nodup_cons] at hn
    simp only [Zgu]
    cases e : (n == k)
    · simp only [cond_false, Zcf, List.map_cons, List.nodup_cons]
      refine ⟨fun hm => ?_, ZmV n r hn.2⟩
      rcases (Zor n k r).1 hm with h | h
      · subst h; simp at e
      · exact hn.1 h
    · rw [beq_iff_eq] at e
      subst e
      simp only [cond_true, Zcf, List.map_cons, List.nodup_cons]
      exact hn
theorem Ztm (n : List UInt8) : ∀ h : Bm, (Zgu BEq.beq n true h).length ≤ h.length + 1
  | [] => by simp [Zgu]
  | (k, v) :: r => by
    have := Ztm n r
    simp only [Zgu]
    cases (n == k) <;> simp <;> omega
theorem ZvM (l : List (List UInt8)) : ∀ h : Bm, (Zcf h).Nodup → (Zcf (l.foldl (fun h n => Zgu BEq.beq n true h) h)).Nodup ∧ (∀ y, y ∈ Zcf (l.foldl (fun h n => Zgu BEq.beq n true h) h) ↔ y ∈ Zcf h ∨ y ∈ l) ∧
    (l.foldl (fun h n => Zgu BEq.beq n true h) h).length ≤ h.length + l.length := by
  induction l with
  | nil => intro h hn; exact ⟨hn, fun y => by simp, by simp⟩
  | cons x l ih =>
    intro h hn
    obtain ⟨h1, h2, h3⟩ := ih _ (ZmV x h hn)
    have h4 := Ztm x h
    refine ⟨h1, fun y => ?_, by simp only [List.foldl_cons, List.length_cons]; omega⟩
    rw [List.foldl_cons, h2 y, Zor, List.mem_cons]
    constructor
    · rintro ((h | h) | h) <;> simp [h]
    · rintro (h | h | h) <;> simp [h]
theorem Zpi (l : List Val) : (ZaA l).1 = [] ∨ Zco (ZaA l).1 = true := by
  unfold ZaA
  split
  · exact .inl rfl
  · split
    · rename_i h
      split
      · exact .inr h.2
      · split
        · exact .inr h.2
        · exact .inl rfl
    · exact .inl rfl
theorem ZuK {n : List UInt8} (h : Zco n = true) : n.length ≤ 64 := by
  unfold Zco at h
  simp only [Bool.and_eq_true, decide_eq_true_iff] at h
  omega
mutual
theorem Zrw : ∀ (v : Val), ∀ n ∈ v.uses, Zco n = true
  | .mk t l, n, hn => by
    simp only [Val.uses, List.mem_append] at hn
    rcases hn with hn | hn
    · split at hn
      · rename_i h
        rw [List.mem_singleton] at hn
        subst hn
        rw [Bool.and_eq_true] at h
        rcases Zpi l with h2 | h2
        · have := h.2
          rw [h2] at this
          simp at this
        · exact h2
      · simp at hn
    · exact ZgG l n hn
theorem ZgG : ∀ (l : List Val), ∀ n ∈ Zbt l, Zco n = true
  | [], n, hn => by simp [Zbt] at hn
  | v :: r, n, hn => by
    simp only [Zbt, List.mem_append] at hn
    rcases hn with hn | hn
    · exact Zrw v n hn
    · exact ZgG r n hn
end
theorem ZlW (l : List Val) : (Zcf (Zeo [] l)).Nodup ∧ (∀ y, y ∈ Zcf (Zeo [] l) ↔ y ∈ Zbt l) ∧ (Zeo [] l).length ≤ Zaz l := by
  obtain ⟨h1, h2, h3⟩ := ZvM (Zbt l) [] (by simp [Zcf])
  refine ⟨h1, fun y => (h2 y).trans ⟨fun h => h.resolve_left (by simp [Zcf]), .inr⟩, ?_⟩
  have := ZiA l
  have h3' : (Zeo [] l).length ≤ 0 + (Zbt l).length := h3
  omega
theorem ZuI (l : List Val) : ZfM (Zcf (Zeo [] l)) = Zf6 (Zbt l) := ZrL (ZlW l).1 (ZlW l).2.1
theorem Zt3 {l : List Val} (h : Zaz l ≤ B) : Zwb (Zcf (Zeo [] l)) := by
  have hB : B = 2 ^ 36 := rfl
  obtain ⟨h1, h2, h3⟩ := ZlW l
  refine ⟨h1, by simp only [Zcf, List.length_map]; omega, fun k hk => ?_⟩
  have := ZuK (ZgG l k ((h2 k).1 hk))
  omega
end Go.Tev
namespace Go.Tev.S1
open Go.Abs Go.Proofs
def Zq7 (l : List Val) : List (List UInt8) × Int := if Za0 l ≠ 0 then ([], Za0 l) else (Zf6 (Zbt l), 0)
def ZpG (l : List Val) : Option (List (List UInt8) × Int) := if Zaz l ≤ B then some (Zq7 l) else none
theorem Zqk {l : List Val} (h : Zaz l ≤ B) : ZpG l = some (Zq7 l) := if_pos h
end Go.Tev.S1
namespace Go.Tev.S1
open Go.Abs Go.Proofs
def ZgH (K : Zaa) : Prop := ∀ args h r, Zt0 59 args h = some r → K 37 args h = some r
theorem ok16 : okF (C.ann 13) Tryz.f13 1 = true := by kernel_rfl
theorem ok36 : okF (C.ann 38) Tryz.f38 1 = true := by kernel_rfl
theorem m61 : C.isMap 62 = true := by kernel_rfl
section
attribute [local simp] List.getElem?_cons_zero Option.bind_some Zgw ZbR Zbp ZaW ZbC Za8 ZaM ZcG ZbB Za7 Zbz Zby ZcH ZbA Za9 ZaK ZcB Zau Zaw Zeh ZaQ Zbs Zbm Zbx Zbn has opx opd opA opD XV.flat XV.copy oD oA Zab ins ZeT Zcg St.put St.putOwn St.lose St.loseEnv unal Zem Zep ZfC dUn Zdk Zag ZaV ZaX ZaF Zal ZaZ Za1 ZaU Zd2 ZaG AV.cells AV.cellOk AV.single DV.cellOk Zgs Zgt Zgx DV.cells Zak Zb1 Zah ZaS Zam ZaL ZeB Zaq ZcF mapO AV.toD Zai ZaO ZbO optD ZaT ZaE Zca Zae ZaP Zay Za5 Zao Zbl ZbF ZaI St.trim Out.st
theorem c36 {K : Zaa} (hK : Zde K) (id : Nat) (h : List AObj) : Zac C K 38 [.mp id] h = some (.fn 59 [.ptr h.length 0], h ++ [.var [.mp id]]) := by
  refine ZtE 0 (kf hK 38 (by decide) _ _) Tryz.func38 ok36 ?_
  unfold Zad Tryz.f38
  simp only [Option.getD_some, Zgo]
  simp [-getElem?_pos, A38, AV.toD, ZuO]
theorem Zzl {call : Zaa} (d : DV) (e : Int) (h' : List AObj) (ks : List DV)
    (h24 : Zcz call true 33 [d] = some (.int .i64 e)) (h34 : call 36 [.d d, .mp 0] [.map []] = some (.d (.tup []), h'))
    (h36 : call 38 [.mp 0] h' = some (.fn 59 [.ptr h'.length 0], h' ++ [.var [.mp 0]])) (h35 : call 37 [.fn 59 [.ptr h'.length 0]] (h' ++ [.var [.mp 0]]) = some (.d (.slc ks), h' ++ [.var [.mp 0]])) :
    ∃ hh, ZbR C Tryz.f13 (evQ C call (ann 13) 0 (Zad Tryz.f13) ⟨Zgo 0 [.d d], [], []⟩) = some (.d (.tup [if e ≠ 0 then .slc [] else .slc ks, .int .i64 (if e ≠ 0 then e else 0)]), hh) := by
  unfold Zad Tryz.f13
  simp only [Option.getD_some, Zgo]
  by_cases h1 : e = 0
  · subst h1
    refine ⟨h' ++ [.var [.mp 0]], ?_⟩
    simp [-getElem?_pos, A13, h24, m61, Zh1, AV.toD, h34, h36, h35]
  · refine ⟨[], ?_⟩
    have h2 : (e != 0) = true := by simpa using h1
    simp [-getElem?_pos, A13, h24, h1, h2]
end
theorem ZjZ : ∀ es : Bm, Ze4 (es.map fun p => (DV.str p.1, AV.d (DV.bool p.2))) = some (Zcf es)
  | [] => rfl
  | (k, b) :: r => by
    have := ZjZ r
    simp only [List.map_cons, Ze4, this, Option.map_some, Zcf]
theorem ZmW {K : Zaa} (hK : Zde K) (hS : ZgH K) : ZaC U (Zac C K) 13 ⟨true, [.ty 22], [31, 28], ZpG⟩ := by
  intro vs a r ds g hp hd ht hg
  obtain ⟨a, rfl⟩ : ∃ b : List Val, b = a := ⟨a, rfl⟩
  have hg0 : ZuN U [31, 28] = some (show PX X [31, 28] → TV U.X from fun y => TV.tup [.l (X := X) 9 (show List (List UInt8) from y.1), .i .i64 y.2]) := rfl
  have hg1 : ZuN U [31, 28] = some g := hg
  rw [hg0] at hg1
  have hg2 := Option.some.inj hg1
  subst hg2
  clear hg hg0 hg1
  have ht' : ZpG a = some r := ht
  clear ht
  unfold ZpG at ht'
  by_cases hb : Zaz a ≤ B
  case neg => rw [if_neg hb] at ht'; cases ht'
  rw [if_pos hb] at ht'
  cases ht'
  have hp : Zvq U [.ty 22] vs = some a := hp
  obtain ⟨v, rfl⟩ : ∃ v, vs = [v] := by
    rcases vs with _ | ⟨v, _ | ⟨w, vs⟩⟩
    · cases hp
    · exact ⟨v, rfl⟩
    · cases hp
  have hv : prj 22 v = some a := hp
  have hdv : v.dv U = some (.slc (a.map Val.enc)) := ok.prj 22 v a hv
  have hds : ds = [.slc (a.map Val.enc)] := by
    simp only [dvL, hdv, Option.some.injEq] at hd
    exact hd.symm
  subst hds
  have h24 : Zcz (Zac C K) true 33 [.slc (a.map Val.enc)] = some (.int .i64 (Za0 a)) := by
    obtain ⟨d, h1, h2⟩ := ZeN (K := K) (kf hK 33 (by decide)) (kf hK 52 (by decide)) (kf hK 66 (by decide)) [v] a (Za0 a) [.slc (a.map Val.enc)] (fun y => .i .i64 y) hp hd (ZfB hb) rfl
    cases h1
    exact ZgO h2
  obtain ⟨d, h', h1, h2, h3, h4, h5⟩ := Zpt (K := K) hK [v] a [.slc (a.map Val.enc)] [0] [.d (.slc (a.map Val.enc)), .mp 0] ([], ()) [.map []] ((), (Zeo [] a, ())) (fun _ => .tup []) hp hd rfl (by simp) ⟨⟨_, rfl, rfl⟩, trivial⟩ (Zrm hb) rfl
  cases h1
  obtain ⟨⟨ao, h6, h7⟩, _⟩ := h3
  have h7 : ao = .map ((Zeo [] a).map fun p => (DV.str p.1, AV.d (DV.bool p.2))) := h7
  subst h7
  have hlen : 0 < h'.length := (List.getElem?_eq_some_iff.1 h6).1
  have h35 : Zac C K 37 [.fn 59 [.ptr h'.length 0]] (h' ++ [.var [.mp 0]]) = some (.d (.slc ((ZfM (Zcf (Zeo [] a))).map .str)), h' ++ [.var [.mp 0]]) := by
    refine Zh6 (hS _ _ _ ?_)
    unfold Zt0
    have g1 : (h' ++ [AObj.var [.mp 0]])[h'.length]? = some (.var [.mp 0]) := by simp
    have g2 : (h' ++ [AObj.var [.mp 0]])[0]? = some (.map ((Zeo [] a).map fun p => (DV.str p.1, AV.d (DV.bool p.2)))) := by rw [List.getElem?_append_left hlen, h6]
    simp only [g1, g2, ZjZ, if_pos (Zt3 hb)]
    rfl
  obtain ⟨hh, hr⟩ := Zzl (call := Zac C K) (.slc (a.map Val.enc)) (Za0 a) h' ((ZfM (Zcf (Zeo [] a))).map .str) h24 h2 (c36 hK 0 h') h35
  refine ⟨_, rfl, ?_⟩
  unfold Zcz
  have hq := ZtE (C := C) (K := K) (f := 13) (fn := Tryz.f13) (args := [.d (.slc (a.map Val.enc))]) (h := []) 0 (kf hK 13 (by decide) _ _) Tryz.func13 ok16 hr
  have hq' : Zac C K 13 (List.map AV.d [.slc (a.map Val.enc)]) [] = _ := hq
  rw [hq']
  simp only [Zq7]
  by_cases h8 : Za0 a = 0
  · have hcs : ZfM (Zcf (Zeo [] a)) = Zf6 (Zbt a) := ZuI a
    rw [hcs, h8]; rfl
  · rw [if_pos h8, if_pos h8, if_pos h8]; rfl
end Go.Tev.S1
namespace Go.Abs
theorem A43 : (ann 43).nt = 118 ∧ (ann 43).keep = [0, 2, 3, 4, 5, 6, 7, 9, 11, 12, 13, 14, 16, 17, 18, 19, 21, 22, 23, 30, 32, 36, 39, 40, 41, 42, 53, 60, 62, 71, 72, 89, 95, 96, 97, 98, 108] ∧ (ann 43).take = [19] ∧ (ann 43).heapy = [] ∧ (ann 43).frz = [25, 28, 58, 80, 87] ∧ (ann 43).lend = [80] := ⟨rfl, rfl, rfl, rfl, rfl, rfl⟩
theorem A62 : (ann 62).nt = 52 ∧ (ann 62).keep = [0, 2, 3, 5, 6, 8, 9, 10, 12, 13, 14, 15, 31, 32, 33, 34] ∧ (ann 62).take = [] ∧ (ann 62).heapy = [3, 9, 10] ∧ (ann 62).frz = [28, 42] ∧ (ann 62).lend = [] := ⟨rfl, rfl, rfl, rfl, rfl, rfl⟩
theorem A73 : (ann 73).nt = 29 ∧ (ann 73).keep = [0, 1, 2, 3, 5, 9, 11, 23] ∧ (ann 73).take = [] ∧ (ann 73).heapy = [] ∧ (ann 73).frz = [28] ∧ (ann 73).lend = [] := ⟨rfl, rfl, rfl, rfl, rfl, rfl⟩
def sq1 : Code → Code
  | .seq a _ => a
  | c => c
def sq2 : Code → Code
  | .seq _ b => b
  | c => c
def cn1 : Code → Code
  | .cond _ a _ => a
  | c => c
def inn : Code → Code
  | .block _ c => c
  | .loop c => c
  | .scope c => c
  | c => c
def ops : Code → Array Oper
  | .region _ o _ => o
  | _ => #[]
def opsL (c : Code) : List Oper := (ops c).toList
def op0 (l : List Oper) : Oper := l.headD ⟨none, .move (.const .nilFunc), 0, "", #[], none⟩
def opZ (l : List Oper) : Oper := l.getLastD ⟨none, .move (.const .nilFunc), 0, "", #[], none⟩
end Go.Abs
namespace Go.Tev.S1
open Go.Abs Go.Proofs
noncomputable abbrev B68 : Code := Zad Tryz.f73
noncomputable abbrev ZoC : Code := sq1 B68
noncomputable abbrev L68 : Code := inn (inn (sq2 B68))
noncomputable abbrev Znu : Code := sq1 L68
noncomputable abbrev K68 : Code := inn (sq2 (sq2 L68))
noncomputable abbrev Zop : Code := sq1 K68
noncomputable abbrev Zzy : Code := sq1 (sq2 K68)
noncomputable abbrev Zzw : Code := sq1 (cn1 (sq2 (sq2 K68)))
noncomputable abbrev Znx : Code := sq2 (cn1 (sq2 (sq2 K68)))
theorem Ycu : Tryz.f73.body = some (.seq (.region 0 (ops ZoC) false) (.block 0 (.loop (.seq (.region 1 (ops Znu) false) (.seq (.cond (.tmp 11) .skip (.exit 0)) (.block 1 (.seq (.region 2 (ops Zop) false) (.seq (.region 3 (ops Zzy) false) (.cond (.tmp 23) (.seq (.region 4 (ops Zzw) false) (.region 5 (ops Znx) false)) .skip))))))))) := by kernel_rfl
theorem YeQ : (ops ZoC).toList = (opsL ZoC).take 3 ++ [opZ (opsL ZoC)] := by kernel_rfl
theorem YfN : (ops Znu).toList = op0 (opsL Znu) :: (opsL Znu).drop 1 := by kernel_rfl
theorem Yfq : (ops Zop).toList = op0 (opsL Zop) :: (opsL Zop).drop 1 := by kernel_rfl
theorem Ye3 : (ops Znx).toList = (opsL Znx).take 2 ++ [opZ (opsL Znx)] := by kernel_rfl
end Go.Tev.S1
namespace Go.Tev.S1
open Go.Abs Go.Proofs
abbrev Nd := List (List UInt8 × Bm)
def ZfD (u : Bm) : List (DV × DV) := u.map fun p => (.str p.1, .bool p.2)
def Znp (G : Nd) : List (DV × AV) := G.map fun p => (.str p.1, .d (.fmap (ZfD p.2)))
def Zrn (S : List (List UInt8)) : List (DV × AV) := S.map fun n => (.str n, .d (.bool true))
theorem Zfi (a : List UInt8) : ∀ G : Nd, Zgb (.str a) (Znp G) = some ((Zbu BEq.beq a G).map fun u => .d (.fmap (ZfD u)))
  | [] => rfl
  | (k, u) :: r => by
    have ih := Zfi a r
    simp only [Znp, List.map_cons, Zgb, ZdT, Zbu] at ih ⊢
    cases (a == k)
    · simpa using ih
    · rfl
theorem Zfu (a : List UInt8) : ∀ S, Zgb (.str a) (Zrn S) = some (if a ∈ S then some (.d (.bool true)) else none)
  | [] => rfl
  | k :: r => by
    have ih := Zfu a r
    simp only [Zrn, List.map_cons, Zgb, ZdT] at ih ⊢
    by_cases h : a = k
    · subst h; simp
    · have : (a == k) = false := by simpa using h
      rw [this]
      simp only [ih, List.mem_cons, h, false_or]
theorem Zpc (a : List UInt8) : ∀ S, a ∉ S → ZqW (.str a) (.d (.bool true)) (Zrn S) = some (Zrn (S ++ [a]))
  | [], _ => rfl
  | k :: r, h => by
    have ih := Zpc a r (fun hm => h (List.mem_cons_of_mem _ hm))
    simp only [Zrn, List.map_cons, List.cons_append, ZqW, ZdT] at ih ⊢
    have : (a == k) = false := by rw [beq_eq_false_iff_ne]; intro e; exact h (by rw [e]; exact List.mem_cons_self)
    rw [this]
    simp only [ih, Option.map_some]
def H68 (G : Nd) (out : List (DV × AV)) (S : List (List UInt8)) : List AObj := [.map (Znp G), .var [.mp 0], .map out, .map (Zrn S), .var [.mp 3], .var [.fn 73 [.ptr 1 0, .ptr 4 0, .ptr 5 0]]]
def YcN (name : List UInt8) : List AV := [.d (.str name), .ptr 1 0, .ptr 4 0, .ptr 5 0]
theorem k98 (a : List UInt8) : C.keyOk 107 (.str a) = true := by
  have h : C.P.underlying 107 = some (.map 9 62) := by kernel_rfl
  have h2 : C.P.underlying 9 = some .string := by kernel_rfl
  simp only [Ctx.keyOk, h, h2]
theorem k61 (a : List UInt8) : C.keyOk 62 (.str a) = true := by
  have h : C.P.underlying 62 = some (.map 9 4) := by kernel_rfl
  have h2 : C.P.underlying 9 = some .string := by kernel_rfl
  simp only [Ctx.keyOk, h, h2]
theorem z98 : C.mapZero 107 = some .nilm := by kernel_rfl
theorem z61 : C.mapZero 62 = some (.bool false) := by kernel_rfl
theorem Yc3 : C.isAgg 107 = some false := by kernel_rfl
theorem YcL : C.isAgg 62 = some false := by kernel_rfl
theorem ag99 : C.isAgg 108 = some false := by kernel_rfl
theorem m98 : C.isMap 107 = true := by kernel_rfl
section
attribute [local simp] List.getElem?_cons_zero Option.bind_some Zgw ZbR Zbp ZaW ZbC Za8 ZaM ZcG ZbB Za7 Zbz Zby ZcH ZbA Za9 ZaK ZcB Zau Zaw Zeh ZaQ Zbs Zbm Zbx Zbn has opx opd opA opD XV.flat XV.copy oD oA Zab ins ZeT Zcg St.put St.putOwn St.lose St.loseEnv unal Zem Zep ZfC dUn Zdk Zag ZaV ZaX ZaF Zal ZaZ Za1 ZaU Zd2 ZaG AV.cells AV.cellOk AV.single DV.cellOk Zgs Zgt Zgx DV.cells Zak Zb1 Zah ZaS Zam ZaL ZeB Zaq ZcF mapO AV.toD Zai ZaO ZbO optD ZaT ZaE Zca Zae ZaP Zay Za5 Zao Zbl ZbF ZaI St.trim Out.st
theorem YbD {call : Zaa} {all : List Oper} (G : Nd) (out : List (DV × AV)) (S : List (List UInt8)) (name : List UInt8) (u : Bm) (hu : Zbu BEq.beq name G = some u) :
    Zan C call (ann 73) all ((opsL ZoC).take 3) ⟨Zgo 0 (YcN name), [], H68 G out S⟩ = some ⟨Zgo 0 (YcN name), [(8, .a (.d (.fmap (ZfD u)))), (7, .a (.d (.str name))), (6, .a (.mp 0))], H68 G out S⟩ := by
  unfold opsL Go.Abs.ops ZoC B68 Zad Tryz.f73 YcN H68
  simp only [Option.getD_some, sq1, Zgo]
  simp [-getElem?_pos, A73, Zan, ZbP, Zfi, hu, k98, z98, Yc3, Option.bind_some]
theorem Yaz : C.isMap 62 = true := by kernel_rfl
theorem YfG : C.P.underlying 62 = some (.map 9 4) := by kernel_rfl
theorem o68_0 : (opZ (opsL ZoC)).op = .range 62 (.tmp 8) ∧ (opZ (opsL ZoC)).guard = none ∧ (opZ (opsL ZoC)).dst = some 9 := by
  refine ⟨?_, ?_, ?_⟩ <;> kernel_rfl
theorem o68_1 : (op0 (opsL Znu)).op = .next (.tmp 9) false ∧ (op0 (opsL Znu)).guard = none ∧ (op0 (opsL Znu)).dst = some 10 := by
  refine ⟨?_, ?_, ?_⟩ <;> kernel_rfl
theorem o68_2 : (op0 (opsL Zop)).op = .entry (.tmp 9) ∧ (op0 (opsL Zop)).guard = none ∧ (op0 (opsL Zop)).dst = some 12 := by
  refine ⟨?_, ?_, ?_⟩ <;> kernel_rfl
def e68 (name : List UInt8) (p : Value) : List (Nat × SV) := [(0, .val (.d (.str name))), (1, .val (.ptr 1 0)), (2, .val (.ptr 4 0)), (3, .val (.ptr 5 0)), (9, .val (.raw p))]
theorem Zwq {call : Zaa} {all : List Oper} (name : List UInt8) (p : Value) (h : List AObj) (b : Bool) (vs : List DV) :
    Zan C call (ann 73) all ((opsL Znu).drop 1) ⟨e68 name p, [(10, .a (.d (.tup (.bool b :: vs))))], h⟩ = some ⟨e68 name p ++ [(11, .val (.d (.bool b)))], [(10, .a (.d (.tup (.bool b :: vs))))], h⟩ := by
  unfold opsL Go.Abs.ops Znu L68 B68 Zad Tryz.f73 e68
  simp only [Option.getD_some, sq1, sq2, inn]
  simp [-getElem?_pos, A73, Zan]
theorem YaE {call : Zaa} {all : List Oper} (name : List UInt8) (p : Value) (h : List AObj) (k v : DV) :
    Zan C call (ann 73) all ((opsL Zop).drop 1) ⟨e68 name p ++ [(11, .val (.d (.bool true)))], [(12, .a (.d (.tup [k, v])))], h⟩ = some ⟨e68 name p ++ [(11, .val (.d (.bool true))), (5, .val (.d k))], [(13, .a (.d k)), (12, .a (.d (.tup [k, v])))], h⟩ := by
  unfold opsL Go.Abs.ops Zop K68 L68 B68 Zad Tryz.f73 e68
  simp only [Option.getD_some, sq1, sq2, inn]
  simp [-getElem?_pos, A73, Zan]
theorem Ya5 {call : Zaa} (G : Nd) (out : List (DV × AV)) (S : List (List UInt8)) (name nx : List UInt8) (p : Value) :
    evQ C call (ann 73) 0 (.region 3 (ops Zzy) false) ⟨e68 name p ++ [(11, .val (.d (.bool true))), (5, .val (.d (.str nx)))], [], H68 G out S⟩ = some (.norm ⟨e68 name p ++ [(11, .val (.d (.bool true))), (5, .val (.d (.str nx))), (23, .val (.d (.bool ((Zbu BEq.beq nx G).isSome && !decide (nx ∈ S)))))], [], H68 G out S⟩) := by
  unfold Go.Abs.ops Zzy K68 L68 B68 Zad Tryz.f73 e68 H68
  simp only [Option.getD_some, sq1, sq2, inn]
  cases hm : Zbu BEq.beq nx G with
  | none => simp [-getElem?_pos, A73, Zan, ZbP, Zfi, hm, k98, z98, k61, z61, Yc3, YcL, m98, Zem, Zep, Yaz]
  | some u =>
    by_cases hs : nx ∈ S
    · simp [-getElem?_pos, A73, Zan, ZbP, Zfi, Zfu, hm, hs, k98, z98, k61, z61, Yc3, YcL, m98, Zem, Zep, Yaz]
    · simp [-getElem?_pos, A73, Zan, ZbP, Zfi, Zfu, hm, hs, k98, z98, k61, z61, Yc3, YcL, m98, Zem, Zep, Yaz]
theorem YaX {call : Zaa} (G : Nd) (out : List (DV × AV)) (S : List (List UInt8)) {nx : List UInt8} (hs : nx ∉ S) (env : List (Nat × SV)) (h2 : Zab env 2 = some (.val (.ptr 4 0))) (h5 : Zab env 5 = some (.val (.d (.str nx)))) :
    evQ C call (ann 73) 0 (.region 4 (ops Zzw) false) ⟨env, [], H68 G out S⟩ = some (.norm ⟨env, [], H68 G out (S ++ [nx])⟩) := by
  unfold Go.Abs.ops Zzw K68 L68 B68 Zad Tryz.f73 H68
  simp only [Option.getD_some, sq1, sq2, inn, cn1]
  simp [-getElem?_pos, A73, Zan, h2, h5, Zpc nx S hs, k61, z61, YcL]
theorem YaV {call : Zaa} {all : List Oper} (G : Nd) (out : List (DV × AV)) (S : List (List UInt8)) (nx : List UInt8) (env : List (Nat × SV)) (h3 : Zab env 3 = some (.val (.ptr 5 0))) (h5 : Zab env 5 = some (.val (.d (.str nx)))) :
    Zan C call (ann 73) all ((opsL Znx).take 2) ⟨env, [], H68 G out S⟩ = some ⟨env, [(27, .a (.d (.str nx))), (26, .a (.fn 73 [.ptr 1 0, .ptr 4 0, .ptr 5 0]))], H68 G out S⟩ := by
  unfold opsL Go.Abs.ops Znx K68 L68 B68 Zad Tryz.f73 H68
  simp only [Option.getD_some, sq1, sq2, inn, cn1]
  simp [-getElem?_pos, A73, Zan, h3, h5, ag99]
end
end Go.Tev.S1
namespace Go.Tev.S1
open Go.Abs Go.Proofs
theorem ZqX (t : Tok) : Tok.eqb t t = true := by
  cases t
  simp [Tok.eqb]
mutual
theorem Zzz : ∀ v : Val, v.eqb v = true
  | .mk t l => by
    simp only [Val.eqb, ZqX, Zla l, Bool.and_self]
theorem Zla : ∀ l : List Val, Zus l l = true
  | [] => rfl
  | v :: r => by simp only [Zus, Zzz v, Zla r, Bool.and_self]
end
end Go.Tev.S1
