/- A certified evaluator for the walked functions, and their contracts, for VarsReplaces. -/
import Derived.Test.YtnmlodkomklpfaaLE
import Derived.Maps.Own
import Derived.Sort.KeysCollected
import Derived.Laws.AppendOwn
import Derived.Below
import Derived.Test.YtnmlodkomklpfaaLI
set_option linter.unusedVariables false
set_option linter.unusedSimpArgs false
namespace Go.Abs
open Go.Proofs (encStr)
open Go.RowKit (Below)
/-! slices.Sorted(maps.Keys(m)), as an entry of the table of outside contracts -/
def keyBools : List (DV × AV) → Option (List (List UInt8))
  | [] => some []
  | (.str k, .d (.bool _)) :: r => (keyBools r).map (k :: ·)
  | _ => none
theorem keyBools_get : ∀ {es : List (DV × AV)} {ks : List (List UInt8)}, keyBools es = some ks → ks.length = es.length ∧ ∀ (j : Nat) e, es[j]? = some e → ∃ k b, e = (.str k, .d (.bool b)) ∧ ks[j]? = some k
  | [], ks, h => by
    simp only [keyBools, Option.some.injEq] at h
    subst h
    exact ⟨rfl, fun j e h => by simp at h⟩
  | x :: r, ks, h => by
    obtain ⟨a, b⟩ := x
    unfold keyBools at h
    split at h
    · cases ‹_ :: _ = []›
    · rename_i k b' r' he
      cases he
      cases hr : keyBools r with
      | none => rw [hr] at h; cases h
      | some l =>
        rw [hr] at h
        cases h
        obtain ⟨h1, h2⟩ := keyBools_get hr
        refine ⟨by simp [h1], fun j e hj => ?_⟩
        cases j with
        | zero => simp only [List.getElem?_cons_zero, Option.some.injEq] at hj; subst hj; exact ⟨k, b', rfl, rfl⟩
        | succ j => exact h2 j e (by simpa using hj)
    · cases h
def sortK (ks : List (List UInt8)) : List (List UInt8) := ks.mergeSort leB
def okKeys (ks : List (List UInt8)) : Prop := ks.Nodup ∧ ks.length ≤ 2 ^ 40 ∧ ∀ k ∈ ks, k.length ≤ 2 ^ 40
noncomputable instance (ks : List (List UInt8)) : Decidable (okKeys ks) := Classical.propDecidable _
/-- what slices.Sorted answers at an iterator over a map's keys -/
noncomputable def keysT (it : FuncId) (args : List AV) (h : List AObj) : Option (AV × List AObj) := match args with
  | [.fn f [.ptr v 0]] => bif Nat.beq f it then (match h[v]? with
    | some (.var [.mp id]) => (match h[id]? with
      | some (.map es) => (match keyBools es with
        | some ks => if okKeys ks then some (.d (.slc ((sortK ks).map .str)), h) else none
        | none => none)
      | _ => none)
    | _ => none) else none
  | _ => none
/-- the library's contract -/
def SortedKeys (P : Program) (so it : FuncId) (kt : TypeId) : Prop := ∀ (bm b nn : Nat) (D0 : DataW Unit) (R : Value → Option (DataW Unit × List MemPlace)) (w : World), bm < w.heap.size → w.cell? ⟨bm, 0, none⟩ = some (.map (some b)) → w.ownsMap P kt R b nn D0 →
  Maps.size D0 ≤ maxLen → Maps.size D0 * 16 ≤ 140737488355328 →
  Calls P so #[.func (.func it) #[] #[.pointer (some ⟨bm, 0, none⟩)]] w fun e w' => ∃ (v : Value) (ss : List (List UInt8)), e = .returned v ∧ ss.Perm (strKeys D0) ∧
    w'.ownsRow w.heap.size kt 1 v ss.length ((ss.mergeSort (fun x y => decide (x ≤ y))).map encStr) ∧ (v = .slice none 0 0 ↔ ss = []) ∧ Below w.heap.size w w'

theorem arep_ptr0 {P : Program} {w : World} {own : Own} {h : List AObj} {v : Value} {id : Nat} {cs : List AV} (H : HRel P w own h) (r : ARep P w own h v (.ptr id 0)) (hi : h[id]? = some (.var cs)) :
    ∃ b c T fr, v = .pointer (some ⟨b, 0, none⟩) ∧ own b = some (.obj id, 0) ∧ w.heap[b]? = some (.cells c T fr) ∧ NoFreeze c fr ∧ c.size = cs.length ∧ ∀ (j : Nat) a, cs[j]? = some a → ∃ v, c[j]? = some v ∧ v.oneCell' = true ∧ ARep P w own h v a := by
  cases r with
  | ptr _ _ _ hid hl hv =>
    obtain ⟨b, h1, h2⟩ := hl cs hi
    obtain ⟨b', h3, c, T, fr, h4, h5, h6, h7⟩ := H.obj id _ hi
    have : b' = b := H.uniq _ _ _ _ _ h3 h1 (by simp)
    subst this
    exact ⟨b', c, T, fr, h2, h1, h4, h5, h6, h7⟩
theorem arep_mp {P : Program} {w : World} {own : Own} {h : List AObj} {v : Value} {id : Nat} {es : List (DV × AV)} (H : HRel P w own h) (r : ARep P w own h v (.mp id)) (hi : h[id]? = some (.map es)) :
    ∃ b m clock, v = .map (some b) ∧ own b = some (.obj id, 0) ∧ w.heap[b]? = some (.map m clock) ∧ Stamps m clock ∧ m.size = es.length ∧ ∀ (j : Nat) e x, m[j]? = some e → es[j]? = some x → Rep w own e.key x.1 ∧ ARep P w own h e.val x.2 := by
  cases r with
  | mp _ _ hid hl hv =>
    obtain ⟨b, h1, h2⟩ := hl es hi
    obtain ⟨b', h3, m, cl, h4, h5, h6, h7⟩ := H.obj id _ hi
    have : b' = b := H.uniq _ _ _ _ _ h3 h1 (by simp)
    subst this
    exact ⟨b', m, cl, h2, h1, h4, h5, h6, h7⟩
theorem below_growA {w w' : World} (hb : Below w.heap.size w w') : Grow w w' := ⟨hb.os, hb.tape, hb.output, hb.size, hb.block⟩

theorem has_keys {P : Program} {so it kt vt : Nat} (hfn : ∃ fn, P.funcs[so]? = some fn ∧ fn.body.isSome = true) (hk : P.underlying kt = some .string) (hv : P.underlying vt = some .bool) (hS : SortedKeys P so it kt)
    {args : List AV} {h : List AObj} {r : AV} {h' : List AObj} (he : keysT it args h = some (r, h')) : Has P so args h r h' := by
  unfold keysT at he
  split at he
  · rename_i f v
    cases hb : Nat.beq f it with
    | false => rw [hb] at he; cases he
    | true =>
      rw [hb] at he
      have hf : f = it := Nat.eq_of_beq_eq_true hb
      subst hf
      simp only [cond_true] at he
      split at he
      · rename_i id hv1
        split at he
        · rename_i es hv2
          split at he
          · rename_i ks hks
            split at he
            · rename_i hok
              simp only [Option.some.injEq, Prod.mk.injEq] at he
              obtain ⟨rfl, rfl⟩ := he
              refine ⟨hfn, fun w own vs H hO hsz hargs => ?_⟩
              obtain ⟨v0, rfl⟩ : ∃ v0, vs = #[v0] := by
                obtain ⟨l⟩ := vs
                match l, hsz with
                | [x], _ => exact ⟨x, rfl⟩
              have h0 := hargs 0 v0 _ rfl rfl
              cases h0 with
              | fn _ cs _ hl hh =>
                obtain ⟨c0, rfl⟩ : ∃ c0, cs = #[c0] := by
                  obtain ⟨l⟩ := cs
                  match l, hl with
                  | [x], _ => exact ⟨x, rfl⟩
                have hc0 := hh 0 c0 _ rfl rfl
                obtain ⟨b, c, T, fr, rfl, hob, hhb, hnf, hcs, hcell⟩ := arep_ptr0 H hc0 hv1
                obtain ⟨u, hu1, hu2, hu3⟩ := hcell 0 _ rfl
                obtain ⟨mb, m, cl, rfl, hom, hhm, hst, hms, hent⟩ := arep_mp H hu3 hv2
                obtain ⟨hlen, hget⟩ := keyBools_get hks
                obtain ⟨hnd, hbd, hbk⟩ := hok
                have hkey : ∀ (j : Nat) e, m[j]? = some e → ∃ k x, e.key = encStr k ∧ e.val = .bool x ∧ ks[j]? = some k ∧ k.length ≤ 2 ^ 40 := by
                  intro j e hj
                  have hj2 : j < es.length := by rw [← hms]; exact (Array.getElem?_eq_some_iff.1 hj).1
                  obtain ⟨k, x, hx, hkj⟩ := hget j _ (List.getElem?_eq_getElem hj2)
                  obtain ⟨r1, r2⟩ := hent j e _ hj (List.getElem?_eq_getElem hj2)
                  rw [hx] at r1 r2
                  simp only at r1 r2
                  refine ⟨k, x, ?_, ?_, hkj, hbk k (List.mem_of_getElem? hkj)⟩
                  · generalize e.key = ky at r1
                    cases r1 with
                    | str s => simp [encStr]
                  · generalize e.val = vl at r2
                    cases r2 with
                    | d _ _ r3 => cases r3; rfl
                have hmax : maxLen = 2 ^ 63 - 1 := rfl
                have hrd : ∀ (j : Nat) e, m[j]? = some e → ∃ k x, ks[j]? = some k ∧ WideElems.rd (H := Unit) P kt (plainElem P vt) e = some (.string k, .lit (.bool x)) ∧ e.key = encStr k := by
                  intro j e hj
                  obtain ⟨k, x, h1, h2, h3, h4⟩ := hkey j e hj
                  refine ⟨k, x, h3, ?_, h1⟩
                  unfold WideElems.rd
                  rw [h1, h2]
                  have hko : keyOf P kt (encStr k) = some (.string k) := by
                    unfold keyOf
                    simp only [hk, mapKey, encStr]
                    rw [if_pos (by simp [ByteArray.size]; omega)]
                  rw [hko]
                  simp only [Option.bind_some, plainElem_bool hv, Option.map_some]
                have hkeys : m.toList.map (fun x => x.key) = ks.map encStr := by
                  apply List.ext_getElem?
                  intro j
                  rw [List.getElem?_map, List.getElem?_map, Array.getElem?_toList]
                  cases hj : m[j]? with
                  | none =>
                    have : es.length ≤ j := by
                      rw [← hms]
                      exact Array.getElem?_eq_none_iff.1 hj
                    rw [List.getElem?_eq_none (by omega)]; rfl
                  | some e =>
                    obtain ⟨k, x, h1, _, h3⟩ := hrd j e hj
                    rw [h1]
                    simp [h3]
                have hfit : WideElems.Fit (H := Unit) P kt (plainElem P vt) m cl := by
                  refine ⟨by omega, ⟨hst.1, hst.2, ?_⟩, fun e he => ?_⟩
                  · rw [hkeys]
                    exact List.pairwise_map.2 (hnd.imp fun h e => h (encStr_inj e))
                  · obtain ⟨j, hj, rfl⟩ := List.mem_iff_getElem.1 he
                    obtain ⟨k, x, _, h2, _⟩ := hrd j m.toList[j] (by rw [← Array.getElem?_toList]; exact List.getElem?_eq_getElem hj)
                    exact ⟨_, h2⟩
                have hrg : m.toList.map (fun e => strOf (WideElems.rg (H := Unit) P kt (plainElem P vt) e).1) = ks := by
                  apply List.ext_getElem?
                  intro j
                  rw [List.getElem?_map, Array.getElem?_toList]
                  cases hj : m[j]? with
                  | none =>
                    have : es.length ≤ j := by
                      rw [← hms]
                      exact Array.getElem?_eq_none_iff.1 hj
                    rw [List.getElem?_eq_none (by omega)]; rfl
                  | some e =>
                    obtain ⟨k, x, h1, h2, h3⟩ := hrd j e hj
                    rw [h1]
                    simp [WideElems.rg, h2, strOf]
                have hperm := WideShapes.sorted_perm (m.toList.map (WideElems.rg (H := Unit) P kt (plainElem P vt)))
                have hsize : Maps.size (DataW.map (H := Unit) ((m.toList.map (WideElems.rg P kt (plainElem P vt))).foldr DataW.insert [])) = es.length := by
                  show List.length _ = _
                  rw [hperm.length_eq]
                  simp [hms]
                have hstr : (strKeys (DataW.map (H := Unit) ((m.toList.map (WideElems.rg P kt (plainElem P vt))).foldr DataW.insert []))).Perm ks := by
                  show List.Perm (List.map _ _) _
                  refine (hperm.map _).trans ?_
                  rw [List.map_map]
                  exact List.Perm.of_eq hrg
                have hlb : b < w.heap.size := H.lt b _ hob
                refine (hS b mb es.length _ _ w hlb (by
                  have : w.cell? ⟨b, 0, none⟩ = c[0]? := by simp [World.cell?, hhb]
                  rw [this, hu1]) ⟨m, cl, hhm, hfit, by omega, rfl⟩ (by rw [hsize]; omega) (by rw [hsize]; omega)).mono ?_
                rintro e w' ⟨v, ss, rfl, hss, hrow, hnil, hbel⟩
                have hg := below_growA hbel
                have hsort : ss.mergeSort (fun x y => decide (x ≤ y)) = sortK ks := mergeSort_of_perm (hss.trans hstr)
                refine ⟨v, own, rfl, hO, H.grow hg, .d _ _ ?_, hg.frm own, hg.extA own _⟩
                rw [hsort] at hrow
                have hsl : (sortK ks).length = ss.length := by
                  rw [← hsort]; exact List.length_mergeSort ss
                obtain ⟨hr0, hr1⟩ := hrow
                rcases hr1 with ⟨rfl, hz⟩ | ⟨g, cap, cur, rfl, hge, hgb, hn, hcap, hcur, htake⟩
                · have : sortK ks = [] := List.eq_nil_of_length_eq_zero (by omega)
                  rw [this]
                  exact .slc0 none 0
                · have hown : own g = none := by
                    cases ho : own g with
                    | none => rfl
                    | some x => have := H.lt g x ho; omega
                  have hel : ((sortK ks).map DV.str).length = ss.length := by simp [hsl]
                  rw [show ss.length = ((sortK ks).map DV.str).length from hel.symm]
                  have hcells : ∀ i, i < ss.length → cur[i]? = ((sortK ks).map encStr)[i]? := by
                    intro i hi
                    rw [← htake, List.getElem?_take, if_pos (by omega), Array.getElem?_toList]
                  have hgc : ∀ i, i < ss.length → ∃ k, (sortK ks)[i]? = some k ∧ w'.cell? ⟨g, 0 + i, none⟩ = some (encStr k) := by
                    intro i hi
                    have hi2 : i < (sortK ks).length := by omega
                    refine ⟨_, List.getElem?_eq_getElem hi2, ?_⟩
                    have : w'.cell? ⟨g, 0 + i, none⟩ = cur[i]? := by simp [World.cell?, hgb]
                    rw [this, hcells i hi, List.getElem?_map, List.getElem?_eq_getElem hi2]; rfl
                  refine .slc g 0 cap 1 _ (fun i => ((sortK ks)[i]?.map encStr).getD .nilFunc) (by rw [hel]; exact hn) (fun e he => ?_) (fun i hi => ?_) (fun i hi => ?_) (fun i hi => ?_) (fun i d hd => ?_)
                  · obtain ⟨k, _, rfl⟩ := List.mem_map.1 he; rfl
                  · obtain ⟨k, h1, h2⟩ := hgc i (by rw [hel] at hi; omega)
                    rw [h2, h1]; rfl
                  · intro x f hx; rw [hown] at hx; cases hx
                  · obtain ⟨k, h1, h2⟩ := hgc i (by rw [hel] at hi; omega)
                    rw [h1]; rfl
                  · have hflat : ((sortK ks).map DV.str).flatMap DV.cells = (sortK ks).map DV.str := by
                      generalize sortK ks = l
                      induction l with
                      | nil => rfl
                      | cons k l ih => simp only [List.map_cons, List.flatMap_cons, ih]; rfl
                    rw [hflat, List.getElem?_map] at hd
                    cases hk2 : (sortK ks)[i]? with
                    | none => rw [hk2] at hd; cases hd
                    | some k =>
                      rw [hk2] at hd
                      cases hd
                      simp only [Option.map_some, Option.getD_some]
                      have := Rep.str (w := w') (own := own) ⟨k.toArray⟩
                      simpa [encStr] using this
            · cases he
          · cases he
        · cases he
      · cases he
  · cases he
end Go.Abs
namespace Go.Tev
open Go.Abs
/-! the order of bytes, and Lean's own -/
theorem less_lt (a b : List UInt8) : Op.bytesLess a b = true ↔ a < b := by
  induction a generalizing b with
  | nil => cases b with
    | nil => simp [Op.bytesLess]
    | cons y b => simp [Op.bytesLess]
  | cons x a ih => cases b with
    | nil => simp [Op.bytesLess]
    | cons y b =>
      rw [Op.bytesLess, List.cons_lt_cons_iff, Bool.or_eq_true, Bool.and_eq_true, decide_eq_true_iff, beq_iff_eq, ih b]
def strict (l : List (List UInt8)) : Prop := l.Pairwise fun a b => Op.bytesLess a b = true
theorem insT_mem (x y : List UInt8) : ∀ l, y ∈ insT x l ↔ y = x ∨ y ∈ l
  | [] => by simp [insT]
  | z :: r => by
    have ih := insT_mem x y r
    unfold insT
    split
    · rw [List.mem_cons, ih, List.mem_cons]
      constructor
      · rintro (h | h | h) <;> simp [h]
      · rintro (h | h | h) <;> simp [h]
    · split
      · rename_i h1 h2
        rw [beq_iff_eq] at h2
        subst h2
        simp
      · simp
theorem less_of_not {a b : List UInt8} (h1 : ¬ Op.bytesLess a b = true) (h2 : ¬ (a == b) = true) : Op.bytesLess b a = true := by
  have := less_tri a b
  rw [Bool.not_eq_true] at h1 h2
  rw [h1, h2] at this
  simpa using this.symm
theorem insT_strict (x : List UInt8) : ∀ l, strict l → strict (insT x l)
  | [], h => by simp [insT, strict]
  | z :: r, h => by
    obtain ⟨h1, h2⟩ := List.pairwise_cons.1 h
    have ih := insT_strict x r h2
    unfold insT
    split
    · rename_i hz
      refine List.pairwise_cons.2 ⟨fun y hy => ?_, ih⟩
      rcases (insT_mem x y r).1 hy with rfl | hy
      · exact hz
      · exact h1 y hy
    · split
      · exact h
      · rename_i a b
        have hx := less_of_not a b
        exact List.pairwise_cons.2 ⟨fun y hy => by
          rcases List.mem_cons.1 hy with rfl | hy
          · exact hx
          · exact less_trans hx (h1 y hy), h⟩
theorem sortT_spec (l : List (List UInt8)) : strict (sortT l) ∧ ∀ y, y ∈ sortT l ↔ y ∈ l := by
  have : ∀ (l o : List (List UInt8)), strict o → strict (l.foldl (fun o x => insT x o) o) ∧ ∀ y, y ∈ l.foldl (fun o x => insT x o) o ↔ y ∈ o ∨ y ∈ l := by
    intro l
    induction l with
    | nil => intro o ho; exact ⟨ho, fun y => by simp⟩
    | cons x l ih =>
      intro o ho
      obtain ⟨h1, h2⟩ := ih (insT x o) (insT_strict x o ho)
      refine ⟨h1, fun y => ?_⟩
      rw [List.foldl_cons, h2 y, insT_mem, List.mem_cons]
      constructor
      · rintro ((h | h) | h) <;> simp [h]
      · rintro (h | h | h) <;> simp [h]
  obtain ⟨h1, h2⟩ := this l [] List.Pairwise.nil
  exact ⟨h1, fun y => by have := h2 y; simpa [sortT] using this⟩
theorem strict_nodup {l : List (List UInt8)} (h : strict l) : l.Nodup := h.imp fun {a b} hl e => by
  subst e; rw [less_irrefl] at hl; cases hl
theorem sortK_sortT {ks us : List (List UInt8)} (h1 : ks.Nodup) (h2 : ∀ y, y ∈ ks ↔ y ∈ us) : sortK ks = sortT us := by
  obtain ⟨s1, s2⟩ := sortT_spec us
  have hp : ks.Perm (sortT us) := (List.perm_ext_iff_of_nodup h1 (strict_nodup s1)).2 fun y => by rw [h2 y, s2 y]
  have hle : ∀ {a b : List UInt8}, Op.bytesLess a b = true → leB a b = true := fun {a b} h => by
    simp only [leB, decide_eq_true_eq]
    exact List.le_of_lt ((less_lt a b).1 h)
  have tr : ∀ a b c : List UInt8, leB a b = true → leB b c = true → leB a c = true := fun a b c h1 h2 => by simp only [leB, decide_eq_true_eq] at *; exact List.le_trans h1 h2
  have to : ∀ a b : List UInt8, (leB a b || leB b a) = true := fun a b => by simp only [leB, Bool.or_eq_true, decide_eq_true_eq]; exact List.le_total a b
  refine List.Perm.eq_of_pairwise (le := fun a b => leB a b = true) (fun a b _ _ h1 h2 => ?_) (List.pairwise_mergeSort tr to ks) (s1.imp hle) ((List.mergeSort_perm ks leB).trans hp)
  simp only [leB, decide_eq_true_eq] at h1 h2
  exact List.le_antisymm h1 h2
/-! the keys of what collect gathers -/
def keysB (h : Bm) : List (List UInt8) := h.map Prod.fst
theorem bput_mem (n : List UInt8) (y : List UInt8) : ∀ h : Bm, y ∈ keysB (mput BEq.beq n true h) ↔ y = n ∨ y ∈ keysB h
  | [] => by simp [mput, keysB]
  | (k, v) :: r => by
    have ih := bput_mem n y r
    simp only [mput]
    cases e : (n == k)
    · simp only [cond_false, keysB, List.map_cons, List.mem_cons] at ih ⊢
      rw [ih]
      constructor
      · rintro (h | h | h) <;> simp [h]
      · rintro (h | h | h) <;> simp [h]
    · rw [beq_iff_eq] at e
      subst e
      simp only [cond_true, keysB, List.map_cons, List.mem_cons]
      simp
theorem bput_nodup (n : List UInt8) : ∀ h : Bm, (keysB h).Nodup → (keysB (mput BEq.beq n true h)).Nodup
  | [], _ => by simp [mput, keysB]
  | (k, v) :: r, hn => by
    simp only [keysB, List.map_cons, List.nodup_cons] at hn
    simp only [mput]
    cases e : (n == k)
    · simp only [cond_false, keysB, List.map_cons, List.nodup_cons]
      refine ⟨fun hm => ?_, bput_nodup n r hn.2⟩
      rcases (bput_mem n k r).1 hm with h | h
      · subst h; simp at e
      · exact hn.1 h
    · rw [beq_iff_eq] at e
      subst e
      simp only [cond_true, keysB, List.map_cons, List.nodup_cons]
      exact hn
theorem bput_len (n : List UInt8) : ∀ h : Bm, (mput BEq.beq n true h).length ≤ h.length + 1
  | [] => by simp [mput]
  | (k, v) :: r => by
    have := bput_len n r
    simp only [mput]
    cases (n == k) <;> simp <;> omega
theorem puts_spec (l : List (List UInt8)) : ∀ h : Bm, (keysB h).Nodup → (keysB (l.foldl (fun h n => mput BEq.beq n true h) h)).Nodup ∧ (∀ y, y ∈ keysB (l.foldl (fun h n => mput BEq.beq n true h) h) ↔ y ∈ keysB h ∨ y ∈ l) ∧
    (l.foldl (fun h n => mput BEq.beq n true h) h).length ≤ h.length + l.length := by
  induction l with
  | nil => intro h hn; exact ⟨hn, fun y => by simp, by simp⟩
  | cons x l ih =>
    intro h hn
    obtain ⟨h1, h2, h3⟩ := ih _ (bput_nodup x h hn)
    have h4 := bput_len x h
    refine ⟨h1, fun y => ?_, by simp only [List.foldl_cons, List.length_cons]; omega⟩
    rw [List.foldl_cons, h2 y, bput_mem, List.mem_cons]
    constructor
    · rintro ((h | h) | h) <;> simp [h]
    · rintro (h | h | h) <;> simp [h]
theorem parts_custom (l : List Val) : (partsV l).1 = [] ∨ customT (partsV l).1 = true := by
  unfold partsV
  split
  · exact .inl rfl
  · split
    · rename_i h
      split
      · exact .inr h.2
      · split
        · exact .inr h.2
        · exact .inl rfl
    · exact .inl rfl
theorem custom_len {n : List UInt8} (h : customT n = true) : n.length ≤ 64 := by
  unfold customT at h
  simp only [Bool.and_eq_true, decide_eq_true_iff] at h
  omega
mutual
theorem uses_custom : ∀ (v : Val), ∀ n ∈ v.uses, customT n = true
  | .mk t l, n, hn => by
    simp only [Val.uses, List.mem_append] at hn
    rcases hn with hn | hn
    · split at hn
      · rename_i h
        rw [List.mem_singleton] at hn
        subst hn
        rw [Bool.and_eq_true] at h
        rcases parts_custom l with h2 | h2
        · have := h.2
          rw [h2] at this
          simp at this
        · exact h2
      · simp at hn
    · exact usesL_custom l n hn
theorem usesL_custom : ∀ (l : List Val), ∀ n ∈ usesL l, customT n = true
  | [], n, hn => by simp [usesL] at hn
  | v :: r, n, hn => by
    simp only [usesL, List.mem_append] at hn
    rcases hn with hn | hn
    · exact uses_custom v n hn
    · exact usesL_custom r n hn
end
theorem colL_keys (l : List Val) : (keysB (colL [] l)).Nodup ∧ (∀ y, y ∈ keysB (colL [] l) ↔ y ∈ usesL l) ∧ (colL [] l).length ≤ totL l := by
  obtain ⟨h1, h2, h3⟩ := puts_spec (usesL l) [] (by simp [keysB])
  refine ⟨h1, fun y => (h2 y).trans ⟨fun h => h.resolve_left (by simp [keysB]), .inr⟩, ?_⟩
  have := usesL_len l
  have h3' : (colL [] l).length ≤ 0 + (usesL l).length := h3
  omega
theorem col_sorted (l : List Val) : sortK (keysB (colL [] l)) = sortT (usesL l) := sortK_sortT (colL_keys l).1 (colL_keys l).2.1
theorem col_okKeys {l : List Val} (h : totL l ≤ B) : okKeys (keysB (colL [] l)) := by
  have hB : B = 2 ^ 36 := rfl
  obtain ⟨h1, h2, h3⟩ := colL_keys l
  refine ⟨h1, by simp only [keysB, List.length_map]; omega, fun k hk => ?_⟩
  have := custom_len (usesL_custom l k ((h2 k).1 hk))
  omega
end Go.Tev
namespace Go.Tev.S1
open Go.Abs Go.Proofs
/-- what Uses answers -/
def UsesE (l : List Val) : List (List UInt8) × Int := if checkE l ≠ 0 then ([], checkE l) else (sortT (usesL l), 0)
def sUsesE (l : List Val) : Option (List (List UInt8) × Int) := if totL l ≤ B then some (UsesE l) else none
theorem sUsesE_of {l : List Val} (h : totL l ≤ B) : sUsesE l = some (UsesE l) := if_pos h
theorem refUses_walk (l : List Val) (h : totL l ≤ B) : ref30_Uses sCheck sUses sSorted 0 l = some (UsesE l) := by
  unfold ref30_Uses UsesE
  simp only [sCheck_of h, Option.bind_some, sUses_of h, sSorted_of (Nat.le_trans (usesL_len l) h)]
  by_cases h3 : checkE l = 0
  · have e3 : (checkE l != 0) = false := by simpa using h3
    rw [if_neg (by simp [h3]), e3]; rfl
  · have e3 : (checkE l != 0) = true := by simpa using h3
    rw [if_pos h3, e3]; rfl
theorem M_refUses {K : CallT} (hK : KFree K) : Meets U (callV C K) 17 ⟨true, [.ty 33], [40, 3], sUsesE⟩ :=
  ref30_Uses_meets (kf hK 17 (by decide)) _ _ _ (M_refCheck (kf hK 27 (by decide)) (kf hK 33 (by decide)) (kf hK 46 (by decide)) (kf hK 47 (by decide)) (kf hK 54 (by decide))) (M_uses hK) (M_Sorted hK) _ fun a r h => by
    unfold sUsesE at h
    split at h
    · rename_i h3; cases h; exact ⟨0, refUses_walk a h3⟩
    · cases h
end Go.Tev.S1
namespace Go.Tev.S1
open Go.Abs Go.Proofs
def HasKeys (K : CallT) : Prop := ∀ args h r, keysT 59 args h = some r → K 35 args h = some r
theorem ok16 : okF (C.ann 16) Try.f16 1 = true := by kernel_rfl
theorem ok36 : okF (C.ann 36) Try.f36 1 = true := by kernel_rfl
theorem m61 : C.isMap 61 = true := by kernel_rfl
/-- maps.Keys -/
theorem c36 {K : CallT} (hK : KFree K) (id : Nat) (h : List AObj) : callV C K 36 [.mp id] h = some (.fn 59 [.ptr h.length 0], h ++ [.var [.mp id]]) := by
  refine callV_q2 0 (kf hK 36 (by decide) _ _) Try.func36 ok36 ?_
  unfold bodyOf Try.f36
  simp only [Option.getD_some, env0]
  simp [-getElem?_pos, List.getElem?_cons_zero, Option.bind_some, Cann, evEnd, evRes, resVal, q_skip, q_label, q_region, q_seq, q_cond, q_block, q_loop, q_exit, q_ret, q_goto, evOpsK, effKind, effOp, evStep, wantedA, evOp, evVal, evEff, evTake, ownOf, takes, has, opx, opd, opA, opD, XV.flat, XV.copy, oD, oA, alook, ins, cval, cval1, St.put, St.putOwn, St.lose, St.loseEnv, unal, aBin, dBin, dInt, dUn, aput, evIndexAddr, evIndex, evLoad, ldCells, loadCellsA, evStore, splice, evAlloc, noSp, isHeapy, AV.cells, AV.cellOk, AV.single, DV.cellOk, nbeq, nble, nblt, DV.cells, evBuiltinV, evLen, evFieldAddr, evField, evExtract, evArgs, fnOf, flagged, allD, mapO, AV.toD, evConvertV, evSlice, bound, optD, evBuild, evParts, fillD, evBuildSlice, evElems, evAppend, sizesOk, headOk, mkTup, trimEnv, St.trim, Out.st, A36, AV.toD, mkFn]
theorem uses_run {call : CallT} (d : DV) (e : Int) (h' : List AObj) (ks : List DV)
    (h24 : callD call true 24 [d] = some (.int .i64 e)) (h34 : call 34 [.d d, .mp 0] [.map []] = some (.d (.tup []), h'))
    (h36 : call 36 [.mp 0] h' = some (.fn 59 [.ptr h'.length 0], h' ++ [.var [.mp 0]])) (h35 : call 35 [.fn 59 [.ptr h'.length 0]] (h' ++ [.var [.mp 0]]) = some (.d (.slc ks), h' ++ [.var [.mp 0]])) :
    ∃ hh, evEnd C Try.f16 (evQ C call (ann 16) 0 (bodyOf Try.f16) ⟨env0 0 [.d d], [], []⟩) = some (.d (.tup [if e ≠ 0 then .slc [] else .slc ks, .int .i64 (if e ≠ 0 then e else 0)]), hh) := by
  unfold bodyOf Try.f16
  simp only [Option.getD_some, env0]
  by_cases h1 : e = 0
  · subst h1
    refine ⟨h' ++ [.var [.mp 0]], ?_⟩
    simp [-getElem?_pos, List.getElem?_cons_zero, Option.bind_some, Cann, evEnd, evRes, resVal, q_skip, q_label, q_region, q_seq, q_cond, q_block, q_loop, q_exit, q_ret, q_goto, evOpsK, effKind, effOp, evStep, wantedA, evOp, evVal, evEff, evTake, ownOf, takes, has, opx, opd, opA, opD, XV.flat, XV.copy, oD, oA, alook, ins, cval, cval1, St.put, St.putOwn, St.lose, St.loseEnv, unal, aBin, dBin, dInt, dUn, aput, evIndexAddr, evIndex, evLoad, ldCells, loadCellsA, evStore, splice, evAlloc, noSp, isHeapy, AV.cells, AV.cellOk, AV.single, DV.cellOk, nbeq, nble, nblt, DV.cells, evBuiltinV, evLen, evFieldAddr, evField, evExtract, evArgs, fnOf, flagged, allD, mapO, AV.toD, evConvertV, evSlice, bound, optD, evBuild, evParts, fillD, evBuildSlice, evElems, evAppend, sizesOk, headOk, mkTup, trimEnv, St.trim, Out.st, A16, h24, m61, callH, AV.toD, h34, h36, h35]
  · refine ⟨[], ?_⟩
    have h2 : (e != 0) = true := by simpa using h1
    simp [-getElem?_pos, List.getElem?_cons_zero, Option.bind_some, Cann, evEnd, evRes, resVal, q_skip, q_label, q_region, q_seq, q_cond, q_block, q_loop, q_exit, q_ret, q_goto, evOpsK, effKind, effOp, evStep, wantedA, evOp, evVal, evEff, evTake, ownOf, takes, has, opx, opd, opA, opD, XV.flat, XV.copy, oD, oA, alook, ins, cval, cval1, St.put, St.putOwn, St.lose, St.loseEnv, unal, aBin, dBin, dInt, dUn, aput, evIndexAddr, evIndex, evLoad, ldCells, loadCellsA, evStore, splice, evAlloc, noSp, isHeapy, AV.cells, AV.cellOk, AV.single, DV.cellOk, nbeq, nble, nblt, DV.cells, evBuiltinV, evLen, evFieldAddr, evField, evExtract, evArgs, fnOf, flagged, allD, mapO, AV.toD, evConvertV, evSlice, bound, optD, evBuild, evParts, fillD, evBuildSlice, evElems, evAppend, sizesOk, headOk, mkTup, trimEnv, St.trim, Out.st, A16, h24, h1, h2]
theorem keyBools_enc : ∀ es : Bm, keyBools (es.map fun p => (DV.str p.1, AV.d (DV.bool p.2))) = some (keysB es)
  | [] => rfl
  | (k, b) :: r => by
    have := keyBools_enc r
    simp only [List.map_cons, keyBools, this, Option.map_some, keysB]
theorem M_varsUses {K : CallT} (hK : KFree K) (hS : HasKeys K) : Meets U (callV C K) 16 ⟨true, [.ty 33], [40, 25], sUsesE⟩ := by
  intro vs a r ds g hp hd ht hg
  obtain ⟨a, rfl⟩ : ∃ b : List Val, b = a := ⟨a, rfl⟩
  have hg0 : resT U [40, 25] = some (show PX X [40, 25] → TV U.X from fun y => TV.tup [.l (X := X) 9 (show List (List UInt8) from y.1), .i .i64 y.2]) := rfl
  have hg1 : resT U [40, 25] = some g := hg
  rw [hg0] at hg1
  have hg2 := Option.some.inj hg1
  subst hg2
  clear hg hg0 hg1
  have ht' : sUsesE a = some r := ht
  clear ht
  unfold sUsesE at ht'
  by_cases hb : totL a ≤ B
  case neg => rw [if_neg hb] at ht'; cases ht'
  rw [if_pos hb] at ht'
  cases ht'
  have hp : prjA U [.ty 33] vs = some a := hp
  obtain ⟨v, rfl⟩ : ∃ v, vs = [v] := by
    rcases vs with _ | ⟨v, _ | ⟨w, vs⟩⟩
    · cases hp
    · exact ⟨v, rfl⟩
    · cases hp
  have hv : prj 33 v = some a := hp
  have hdv : v.dv U = some (.slc (a.map Val.enc)) := ok.prj 33 v a hv
  have hds : ds = [.slc (a.map Val.enc)] := by
    simp only [dvL, hdv, Option.some.injEq] at hd
    exact hd.symm
  subst hds
  have h24 : callD (callV C K) true 24 [.slc (a.map Val.enc)] = some (.int .i64 (checkE a)) := by
    obtain ⟨d, h1, h2⟩ := M_nestCheck (K := K) (kf hK 24 (by decide)) (kf hK 43 (by decide)) (kf hK 67 (by decide)) [v] a (checkE a) [.slc (a.map Val.enc)] (fun y => .i .i64 y) hp hd (sCheck_of hb) rfl
    cases h1
    exact callD_frz h2
  obtain ⟨d, h', h1, h2, h3, h4, h5⟩ := M_collect (K := K) hK [v] a [.slc (a.map Val.enc)] [0] [.d (.slc (a.map Val.enc)), .mp 0] ([], ()) [.map []] ((), (colL [] a, ())) (fun _ => .tup []) hp hd rfl (by simp) ⟨⟨_, rfl, rfl⟩, trivial⟩ (sCol_of hb) rfl
  cases h1
  obtain ⟨⟨ao, h6, h7⟩, _⟩ := h3
  have h7 : ao = .map ((colL [] a).map fun p => (DV.str p.1, AV.d (DV.bool p.2))) := h7
  subst h7
  have hlen : 0 < h'.length := (List.getElem?_eq_some_iff.1 h6).1
  have h35 : callV C K 35 [.fn 59 [.ptr h'.length 0]] (h' ++ [.var [.mp 0]]) = some (.d (.slc ((sortK (keysB (colL [] a))).map .str)), h' ++ [.var [.mp 0]]) := by
    refine callV_table (hS _ _ _ ?_)
    unfold keysT
    have g1 : (h' ++ [AObj.var [.mp 0]])[h'.length]? = some (.var [.mp 0]) := by simp
    have g2 : (h' ++ [AObj.var [.mp 0]])[0]? = some (.map ((colL [] a).map fun p => (DV.str p.1, AV.d (DV.bool p.2)))) := by rw [List.getElem?_append_left hlen, h6]
    simp only [g1, g2, keyBools_enc, if_pos (col_okKeys hb)]
    rfl
  obtain ⟨hh, hr⟩ := uses_run (call := callV C K) (.slc (a.map Val.enc)) (checkE a) h' ((sortK (keysB (colL [] a))).map .str) h24 h2 (c36 hK 0 h') h35
  refine ⟨_, rfl, ?_⟩
  unfold callD
  have hq := callV_q2 (C := C) (K := K) (f := 16) (fn := Try.f16) (args := [.d (.slc (a.map Val.enc))]) (h := []) 0 (kf hK 16 (by decide) _ _) Try.func16 ok16 hr
  have hq' : callV C K 16 (List.map AV.d [.slc (a.map Val.enc)]) [] = _ := hq
  rw [hq']
  simp only [UsesE]
  by_cases h8 : checkE a = 0
  · have hcs : sortK (keysB (colL [] a)) = sortT (usesL a) := col_sorted a
    rw [hcs, h8]; rfl
  · rw [if_pos h8, if_pos h8, if_pos h8]; rfl
end Go.Tev.S1
namespace Go.Tev.S1
open Go.Abs Go.Proofs
theorem tokEqb_refl (t : Tok) : Tok.eqb t t = true := by
  cases t
  simp [Tok.eqb]
mutual
theorem eqb_refl : ∀ v : Val, v.eqb v = true
  | .mk t l => by
    simp only [Val.eqb, tokEqb_refl, eqbL_refl l, Bool.and_self]
theorem eqbL_refl : ∀ l : List Val, eqbL l l = true
  | [] => rfl
  | v :: r => by simp only [eqbL, eqb_refl v, eqbL_refl r, Bool.and_self]
end
theorem repE_tot {lk : Lk} {l : List Val} (h : okR lk l) : totL (repE lk l).1 ≤ B := by
  unfold repE
  split
  · exact Nat.zero_le _
  · rename_i n e
    split
    · exact Nat.zero_le _
    · rename_i h2
      split
      · exact (put_ok h e h2).2
      · exact Nat.zero_le _
theorem RepE_tot {l : List Val} {c : List Cus} (h : totL l ≤ B) (h2 : okCu c) : totL (RepE l c).1 ≤ B := by
  unfold RepE
  split
  · exact Nat.zero_le _
  · split
    · exact Nat.zero_le _
    · rename_i h3 h4
      exact repE_tot ⟨h, (chk_ok (Decidable.of_not_not h4) h2).1⟩
theorem UsesE_len {l : List Val} (h : totL l ≤ B) : (UsesE l).1.length ≤ B := by
  unfold UsesE
  split
  · exact Nat.zero_le _
  · exact Nat.le_trans (sortT_len _) (Nat.le_trans (usesL_len l) h)
theorem sLen_of' {l : List Val} (h : totL l ≤ B) : ∃ r, sLen l = some r := ⟨_, if_pos h⟩
theorem replaces_law (l : List Val) (c : List Cus) (h : totL l ≤ B) (h2 : okCu c) : law30_VarsReplaces sGreat sGreatC sTwin sLen sLen sUsesE sUsesE sReplaces sReplaces sTexts sSame 0 l c = some true := by
  obtain ⟨b, hb⟩ := greatC_some h2
  obtain ⟨n, hn⟩ := sLen_of' h
  have ht : sTwin l = some l := if_pos h
  unfold law30_VarsReplaces
  rw [sGreat_of h, hb, hn, sUsesE_of h, sReplaces_of h h2, ht]
  generalize e : great l = g
  cases g
  · cases b
    · simp only [Option.bind_some, Bool.not_false, cond_true, cond_false, beq_self_eq_true, sTexts_of (UsesE_len h), sSame_of (RepE_tot h h2) (RepE_tot h h2), sSame_of h h, eqbL_refl]
    · simp only [Option.bind_some, Bool.not_false, cond_true, cond_false]
  · simp only [Option.bind_some, Bool.not_true, cond_true, cond_false]
def sLawR (a : List Val × List Cus) : Prop := totL a.1 ≤ B ∧ okCu a.2
open Classical in
noncomputable def sReplacesLaw (a : List Val × List Cus) : Option Bool := if sLawR a then some true else none
theorem M_VarsReplaces {K : CallT} (hK : KFree K) (hS : HasKeys K) : Meets U (callV C K) 4 ⟨true, [.ty 33, .ty 22], [4], sReplacesLaw⟩ :=
  law30_VarsReplaces_meets (kf hK 4 (by decide)) _ _ _ _ _ _ _ _ _ _ _ (M_Great hK) (M_GreatC hK) (M_Twin hK) (M_Length hK) (M_refLength hK) (M_varsUses hK hS) (M_refUses hK) (M_Replace hK) (M_refReplace hK) (M_texts hK) (M_Same hK) _ fun a r h => by
    unfold sReplacesLaw at h
    split at h
    · rename_i h3; cases h; exact ⟨0, replaces_law a.1 a.2 h3.1 h3.2⟩
    · cases h
end Go.Tev.S1
