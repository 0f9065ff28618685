/- A certified evaluator for the walked functions, and their contracts, for the laws of the variables. -/
import Derived.Test.YtnmlodkomklpfaaGreatLB
import Derived.Laws.BytesString
import Derived.Laws.BytesArg
import Derived.MapKept
import Derived.Laws.AppendOwn
set_option linter.unusedVariables false
set_option linter.unusedSimpArgs false
namespace Go.Abs
section
variable {C : Ctx} {call : Zaa} {fa : FA} {own : Own} {st : St} {a : Act} {w : World} {o : Oper}
theorem ZuM (S : SRel C.P fa own st a w) {op : BinOp} {t yt : TypeId} {x y : Operand} {u v : AV} {d : DV} (hop : o.op = .binOp op t x y yt)
    (hx : opA st x = some u) (hy : opA st y = some v) (he : Zem C op t u v = some d) : Good C.P own st a w o (.a (.d d)) := by
  have hu := Zb8 S hx
  have hv := Zb8 S hy
  unfold Zem at he
  split at he
  · rename_i u' v'
    obtain ⟨r, hr, hrep⟩ := ZxW hu.d_inv hv.d_inv he x y
    refine ZeR (v := r) ?_ hrep
    simp only [ZhL, execOp, hop]
    simp only [Sem.run_bind] at hr ⊢
    simp only [hr, Result.andThen_ok, Sem.run_pure]
  · rename_i id
    obtain ⟨_, _, b, hb⟩ := hu.mp_inv
    have hn := hv.d_inv.nilm_inv
    split at he
    · rename_i hm
      obtain ⟨k, e, ht⟩ := ZdO hm
      simp only [Option.some.injEq] at he
      subst he
      refine ZeR (v := .bool false) ?_ (.bool _)
      simp only [ZhL, execOp, hop, hb, hn, eqGuard_at_map, Sem.run_bind, Sem.run_pure, Result.andThen_ok, ZeQ ht]
      rfl
    · rename_i hm
      obtain ⟨k, e, ht⟩ := ZdO hm
      simp only [Option.some.injEq] at he
      subst he
      refine ZeR (v := .bool true) ?_ (.bool _)
      simp only [ZhL, execOp, hop, hb, hn, eqGuard_at_map, Sem.run_bind, Sem.run_pure, Result.andThen_ok, ZeM ht]
      rfl
    · cases he
  · cases he
theorem ZkV {t : TypeId} {b off : Nat} {cs : List DV} {d : DV} (hr : ∀ (j : Nat) x, cs[j]? = some x → ∃ u, w.cell? ⟨b, off + j, none⟩ = some u ∧ u.oneCell' = true ∧ Rep w own u x)
    (he : ZaF C t cs = some d) : ∃ v, (loadVar t ⟨b, off, none⟩).run C.P w = .ok v w ∧ Rep w own v d := by
  unfold ZaF at he
  split at he
  · rename_i ha
    split at he
    · rename_i n hn
      cases hb : Nat.ble n cs.length with
      | false => rw [hb] at he; cases he
      | true =>
        rw [hb] at he
        simp only [cond_true, Option.some.injEq] at he
        subst he
        have hle : n ≤ cs.length := Nat.le_of_ble_eq_true hb
        have key : ∀ j, j < n → ∃ u, w.cell? ⟨b, off + j, none⟩ = some u ∧ u.oneCell' = true ∧ ∀ x, cs[j]? = some x → Rep w own u x := by
          intro j hj
          obtain ⟨u, h1, h2, h3⟩ := hr j cs[j] (List.getElem?_eq_getElem (by omega))
          exact ⟨u, h1, h2, fun x hx => by rw [List.getElem?_eq_getElem (by omega)] at hx; simp only [Option.some.injEq] at hx; rw [← hx]; exact h3⟩
        have hf : ∀ j, j < n → w.cell? ((⟨b, off, none⟩ : Addr).add j) = some ((w.cell? ⟨b, off + j, none⟩).getD undef) := by
          intro j hj
          obtain ⟨u, h1, _⟩ := key j hj
          rw [Addr.add_lit, h1]; rfl
        refine ⟨_, by simp only [loadVar, Sem.run_bind, ZgM ha, Result.andThen_ok, if_true, ZnU hn, run_loadCells w _ n _ hf]; rfl, .agg _ _ ?_ ?_ ?_⟩
        · simp; omega
        · intro j u hu
          simp only [List.getElem?_toArray, List.getElem?_map, Option.map_eq_some_iff] at hu
          obtain ⟨i, hi, rfl⟩ := hu
          have hin : j < n ∧ i = j := by
            rcases Nat.lt_or_ge j n with hj | hj
            · rw [List.getElem?_range hj] at hi; simp only [Option.some.injEq] at hi; exact ⟨hj, hi.symm⟩
            · rw [List.getElem?_eq_none (by simpa using hj)] at hi; cases hi
          obtain ⟨hj, rfl⟩ := hin
          obtain ⟨u, h1, h2, _⟩ := key i hj
          rw [h1]; exact h2
        · intro j u x hu hx
          rw [List.getElem?_take] at hx
          split at hx
          · rename_i hj
            obtain ⟨u', h1, _, h3⟩ := key j hj
            have : u = u' := by
              simp only [List.getElem?_toArray, List.getElem?_map, List.getElem?_range hj, Option.map_some, Option.some.injEq] at hu
              rw [← hu, h1]; rfl
            rw [this]; exact h3 x hx
          · cases hx
    · cases he
  · rename_i ha
    split at he
    · rename_i v r
      simp only [Option.some.injEq] at he
      subst he
      obtain ⟨u, h1, h2, h3⟩ := hr 0 v rfl
      simp only [Nat.add_zero] at h1
      exact ⟨u, by simp [loadVar, ZgM ha, h1], h3⟩
    · cases he
  · cases he
theorem ZeF {vs : List AV} {ds : List DV} (h : ZcF vs = some ds) : vs = ds.map .d := by
  induction vs generalizing ds with
  | nil => simp only [ZcF, mapO, Option.some.injEq] at h; subst h; rfl
  | cons v vs ih =>
    simp only [ZcF, mapO] at h
    cases v with
    | d x =>
      simp only [AV.toD] at h
      cases hr : mapO AV.toD vs with
      | none => rw [hr] at h; cases h
      | some us =>
        rw [hr] at h
        simp only [Option.some.injEq] at h
        subst h
        rw [ih hr]; rfl
    | _ => simp [AV.toD] at h
theorem Zk0 {t : TypeId} {b off : Nat} {cs : List AV} {d : AV} {h : List AObj}
    (hr : ∀ (j : Nat) x, cs[j]? = some x → ∃ u, w.cell? ⟨b, off + j, none⟩ = some u ∧ u.oneCell' = true ∧ ARep C.P w own h u x)
    (he : Zal C t cs = some d) : ∃ v, (loadVar t ⟨b, off, none⟩).run C.P w = .ok v w ∧ ARep C.P w own h v d := by
  unfold Zal at he
  split at he
  · rename_i ha
    split at he
    · rename_i n hn
      cases hb : Nat.ble n cs.length with
      | false => rw [hb] at he; cases he
      | true =>
        rw [hb] at he
        simp only [cond_true, Option.map_eq_some_iff] at he
        obtain ⟨ds, hd, rfl⟩ := he
        have hds := ZeF hd
        have hle : n ≤ cs.length := Nat.le_of_ble_eq_true hb
        have hlen : ds.length = n := by
          have := congrArg List.length hds
          simp only [List.length_take, List.length_map] at this
          omega
        obtain ⟨v, hv, hrep⟩ := ZkV (C := C) (own := own) (t := t) (b := b) (off := off) (cs := ds) (d := .agg ds) (fun j x hx => by
          have hj : j < n := by rw [← hlen]; exact (List.getElem?_eq_some_iff.1 hx).1
          have : (cs.take n)[j]? = some (.d x) := by rw [hds, List.getElem?_map, hx]; rfl
          rw [List.getElem?_take, if_pos hj] at this
          obtain ⟨u, h1, h2, h3⟩ := hr j _ this
          exact ⟨u, h1, h2, h3.d_inv⟩) (by
            have hb2 : Nat.ble n ds.length = true := by rw [hlen]; exact Nat.ble_self_eq_true n
            simp only [ZaF, ha, hn, hb2, cond_true]
            rw [← hlen, List.take_length])
        exact ⟨v, hv, .d _ _ hrep⟩
    · cases he
  · rename_i ha
    split at he
    · rename_i v r
      simp only [Option.some.injEq] at he
      subst he
      obtain ⟨u, h1, h2, h3⟩ := hr 0 v rfl
      simp only [Nat.add_zero] at h1
      exact ⟨u, by simp [loadVar, ZgM ha, h1], h3⟩
    · cases he
  · cases he
theorem flat_get {α β : Type} {f : α → List β} {sz : Nat} : ∀ {es : List α}, (∀ e ∈ es, (f e).length = sz) → ∀ {i : Nat} {e : α}, es[i]? = some e → ∀ j, j < sz →
    (es.flatMap f)[i * sz + j]? = (f e)[j]? := by
  intro es
  induction es with
  | nil => intro _ i e h; simp at h
  | cons x es ih =>
    intro hs i e h j hj
    have hx : (f x).length = sz := hs x (by simp)
    cases i with
    | zero =>
      simp only [List.getElem?_cons_zero, Option.some.injEq] at h
      subst h
      simp only [Nat.zero_mul, Nat.zero_add, List.flatMap_cons]
      rw [List.getElem?_append_left (by omega)]
    | succ i =>
      simp only [List.getElem?_cons_succ] at h
      simp only [List.flatMap_cons]
      rw [List.getElem?_append_right (by rw [hx, Nat.succ_mul]; omega), hx]
      rw [show (i + 1) * sz + j - sz = i * sz + j by rw [Nat.succ_mul]; omega]
      exact ih (fun e he => hs e (by simp [he])) h j hj
theorem Zbr {α β : Type} {f : α → List β} {sz : Nat} : ∀ {es : List α}, (∀ e ∈ es, (f e).length = sz) → (es.flatMap f).length = es.length * sz := by
  intro es
  induction es with
  | nil => intro _; simp
  | cons x es ih =>
    intro hs
    simp only [List.flatMap_cons, List.length_append, List.length_cons, hs x (by simp), ih (fun e he => hs e (by simp [he])), Nat.succ_mul]
    omega
theorem HRel.same (H : HRel C.P w own st.heap) {id b b' : Nat} {f f' : Nat} (h : own b = some (.obj id, f)) (h' : own b' = some (.obj id, f')) : b = b' :=
  H.uniq b b' _ f f' h h' (by simp)
theorem HRel.objAt (H : HRel C.P w own st.heap) {id b f : Nat} {x : AObj} (hx : st.heap[id]? = some x) (h : own b = some (.obj id, f)) : ORel C.P w own st.heap b x := by
  obtain ⟨b', hb', hr⟩ := H.obj id x hx
  rw [H.same h hb']; exact hr
theorem Ze0 {h : List AObj} {id g : Nat} {es : List AV} (hl : Zel h id g = some es) : ∃ ap, h[id]? = some (.arr g ap es) := by
  unfold Zel at hl
  split at hl
  · rename_i g' ap es' hh
    cases hb : Nat.beq g' g with
    | false => rw [hb] at hl; cases hl
    | true =>
      rw [hb] at hl
      simp only [cond_true, Option.some.injEq] at hl
      subst hl
      rw [← Nat.eq_of_beq_eq_true hb]
      exact ⟨ap, hh⟩
  · cases hl
theorem ZqM (S : SRel C.P fa own st a w) {t : TypeId} {x : Operand} {p : XV} {v : AV} (hx : opd st x = some p)
    (he : ZaX C t st p = some v) : ∃ b off u, a.eval x = .pointer (some ⟨b, off, none⟩) ∧ (loadVar t ⟨b, off, none⟩).run C.P w = .ok u w ∧ ARep C.P w own st.heap u v := by
  have hp := Zf0 S hx 0
  have done : ∀ b off, a.eval x = .pointer (some ⟨b, off, none⟩) → (∃ u, (loadVar t ⟨b, off, none⟩).run C.P w = .ok u w ∧ ARep C.P w own st.heap u v) →
      ∃ b off u, a.eval x = .pointer (some ⟨b, off, none⟩) ∧ (loadVar t ⟨b, off, none⟩).run C.P w = .ok u w ∧ ARep C.P w own st.heap u v := by
    intro b off hv ⟨u, hu, hr⟩
    exact ⟨b, off, u, hv, hu, hr⟩
  cases p with
  | sp s off =>
    simp only [ZaX] at he
    split at he
    · rename_i cs hs
      simp only [Option.map_eq_some_iff] at he
      obtain ⟨d, hd, rfl⟩ := he
      obtain ⟨b, hb, hv⟩ := hp
      obtain ⟨b', c, T, fr, hb', _, hc, _, hsz, hcs⟩ := S.env s _ hs
      have : b = b' := S.h.uniq b b' _ _ _ hb hb' (by simp)
      subst this
      refine done b off hv ?_
      obtain ⟨u, hu, hr⟩ := ZkV (C := C) (own := own) (t := t) (b := b) (off := off) (cs := cs.drop off) (d := d) (w := w) (fun j y hy => by
        rw [List.getElem?_drop] at hy
        obtain ⟨u, h1, h2, h3⟩ := hcs _ _ hy
        exact ⟨u, by rw [cell_of_row w b (off + j) c T fr hc, h1], h2, h3⟩) hd
      exact ⟨u, hu, .d _ _ hr⟩
    · cases he
  | fp cs =>
    simp only [ZaX, Option.map_eq_some_iff] at he
    obtain ⟨d, hd, rfl⟩ := he
    obtain ⟨b, off, hv, hcs⟩ := hp
    refine done b off hv ?_
    obtain ⟨u, hu, hr⟩ := ZkV (C := C) (own := own) (t := t) (b := b) (off := off) (cs := cs) (d := d) (w := w) (fun j y hy => by
      obtain ⟨u, h1, _, h2, h3⟩ := hcs j y hy
      exact ⟨u, h1, h2, h3⟩) hd
    exact ⟨u, hu, .d _ _ hr⟩
  | ap id g i off =>
    simp only [ZaX] at he
    split at he
    · rename_i es hes
      obtain ⟨ap, ho⟩ := Ze0 hes
      split at he
      · rename_i e hei
        obtain ⟨hid, _, _, hl⟩ := hp
        obtain ⟨b, c, T, fr, inf, hb, hc, hi, hv⟩ := hl ap es ho
        obtain ⟨c', T', fr', inf', hc', hi', _, _, hsz, hpos, hle, hcs⟩ := S.h.objAt ho hb
        rw [hc] at hc'
        simp only [Option.some.injEq, Obj.cells.injEq] at hc'
        obtain ⟨rfl, rfl, rfl⟩ := hc'
        rw [hi] at hi'
        simp only [Option.some.injEq] at hi'
        subst hi'
        refine done b _ hv ?_
        refine Zk0 (C := C) (own := own) (t := t) (b := b) (off := i * inf.size + off) (cs := e.cells.drop off) (w := w) (fun j y hy => ?_) he
        rw [List.getElem?_drop] at hy
        have hm : e ∈ es := List.mem_of_getElem? hei
        have hj : off + j < inf.size := by
          rw [← hsz e hm]; exact (List.getElem?_eq_some_iff.1 hy).1
        obtain ⟨u, h1, h2, h3⟩ := hcs (i * inf.size + (off + j)) y (by rw [flat_get hsz hei _ hj]; exact hy)
        exact ⟨u, by rw [cell_of_row w b _ c T fr hc, Nat.add_assoc, h1], h2, h3⟩
      · cases he
    · cases he
  | a v' =>
    cases v' with
    | ptr id off =>
      simp only [ZaX] at he
      split at he
      · rename_i cs ho
        obtain ⟨_, hl, _⟩ := ARep.ptr_inv hp
        obtain ⟨b, hb, hv⟩ := hl cs ho
        obtain ⟨c, T, fr, hc, _, hsz, hcs⟩ := S.h.objAt ho hb
        refine done b off hv ?_
        refine Zk0 (C := C) (own := own) (t := t) (b := b) (off := off) (cs := cs.drop off) (w := w) (fun j y hy => ?_) he
        rw [List.getElem?_drop] at hy
        obtain ⟨u, h1, h2, h3⟩ := hcs _ _ hy
        exact ⟨u, by rw [cell_of_row w b (off + j) c T fr hc, h1], h2, h3⟩
      · cases he
    | _ => simp [ZaX] at he
  | _ => simp [ZaX] at he
theorem ZuW (S : SRel C.P fa own st a w) {t : TypeId} {x : Operand} {p : XV} {v : AV} (hop : o.op = .load t x) (hx : opd st x = some p)
    (he : ZaX C t st p = some v) : Good C.P own st a w o (.a v) := by
  obtain ⟨b, off, u, hv, hu, hr⟩ := ZqM S hx he
  exact ⟨u, by simp only [ZhL, execOp, hop, hv, Instr.loadAt, Instr.sureAddr, Sem.run_bind, Sem.run_pure, Result.andThen_ok, hu], fun _ => hr⟩
end
end Go.Abs
namespace Go.Abs
section
variable {C : Ctx} {call : Zaa} {fa : FA} {own : Own} {st : St} {a : Act} {w : World} {o : Oper}
theorem ZkY {t : TypeId} {f : Nat} {fd : Field} (hf : C.field t f = some fd) (hs : C.hasSize fd.type = true) (b off : Nat) :
    (Instr.fieldAt t (.pointer (some ⟨b, off, none⟩)) f).run C.P w = .ok (.pointer (some ⟨b, off + fd.offset, none⟩)) w := by
  obtain ⟨fs, hu, hg⟩ := ZmI hf
  obtain ⟨i, hi, hpos⟩ := ZpS hs
  have hne : ¬ i.size = 0 := by omega
  simp [Instr.fieldAt, run_underlying hu, hg, Instr.sureAddr, fieldPlace, sizeOf, typeInfo, hi, hne, Addr.add_lit]
theorem Zl9 (S : SRel C.P fa own st a w) {t : TypeId} {f : Nat} {x : Operand} {p q : XV} (hop : o.op = .fieldAddr t x f) (hx : opd st x = some p)
    (he : Zah C t f p = some q) : Good C.P own st a w o q := by
  have hp := Zf0 S hx
  unfold Zah at he
  split at he
  · cases he
  · rename_i fd hf
    cases hs : C.hasSize fd.type with
    | false => rw [hs] at he; cases he
    | true =>
      rw [hs] at he
      simp only [cond_true] at he
      have done : ∀ b off, a.eval x = .pointer (some ⟨b, off, none⟩) → VRel C.P w own st a (.pointer (some ⟨b, off + fd.offset, none⟩)) q → Good C.P own st a w o q := by
        intro b off hv hr
        exact ⟨_, by simp only [ZhL, execOp, hop, hv, Sem.run_bind, ZkY hf hs, Result.andThen_ok, Sem.run_pure], hr⟩
      cases p with
      | sp s off =>
        simp only [Option.some.injEq] at he
        subst he
        obtain ⟨b, hb, hv⟩ := hp 0
        exact done b off hv fun _ => ⟨b, hb, rfl⟩
      | fp cs =>
        simp only at he
        cases hb : Nat.ble fd.offset cs.length with
        | false => rw [hb] at he; cases he
        | true =>
          rw [hb] at he
          simp only [cond_true, Option.some.injEq] at he
          subst he
          obtain ⟨b, off, hv, hcs⟩ := hp 0
          refine done b off hv fun _ => ⟨b, off + fd.offset, rfl, fun j d hd => ?_⟩
          rw [List.getElem?_drop] at hd
          have := hcs _ _ hd
          rwa [← Nat.add_assoc] at this
      | ap id g i off =>
        simp only [Option.some.injEq] at he
        subst he
        obtain ⟨hid, ⟨b0, o0, hpt⟩, hg, hl⟩ := hp 0
        refine done b0 o0 hpt fun _ => ⟨hid, ⟨_, _, rfl⟩, hg, fun ap es hes => ?_⟩
        obtain ⟨b, c, T, fr, inf, h1, h2, h3, hv⟩ := hl ap es hes
        rw [hpt] at hv
        simp only [Value.pointer.injEq, Option.some.injEq, Addr.mk.injEq, and_true] at hv
        obtain ⟨rfl, rfl⟩ := hv
        exact ⟨b0, c, T, fr, inf, h1, h2, h3, by rw [Nat.add_assoc]⟩
      | a v =>
        cases v with
        | ptr id off =>
          simp only [Option.some.injEq] at he
          subst he
          obtain ⟨hid, hl, b0, o0, hpt⟩ := ARep.ptr_inv (hp 0)
          refine done b0 o0 hpt fun _ => .ptr _ id _ hid (fun cs hcs => ?_) ⟨_, _, rfl⟩
          obtain ⟨b, hb, hv⟩ := hl cs hcs
          rw [hpt] at hv
          simp only [Value.pointer.injEq, Option.some.injEq, Addr.mk.injEq, and_true] at hv
          obtain ⟨rfl, rfl⟩ := hv
          exact ⟨b0, hb, rfl⟩
        | _ => simp at he
      | _ => simp at he
theorem ZuC (S : SRel C.P fa own st a w) {t : TypeId} {f : Nat} {x : Operand} {u d : DV} (hop : o.op = .field t x f) (hx : opD st x = some u)
    (he : ZaS C t f u = some d) : Good C.P own st a w o (.a (.d d)) := by
  have hr := Zbv S hx
  unfold ZaS at he
  split at he
  · cases he
  · rename_i fd hf
    obtain ⟨fs, hu, hg⟩ := ZmI hf
    cases u with
    | agg cs =>
      simp only at he
      obtain ⟨vs, hv, hl, h1, h2⟩ := hr.agg_inv
      obtain ⟨v, hrun, hrep⟩ := Zoh (C := C) (w := w) hl h1 h2 he
      exact ZeR (v := v) (by simp only [ZhL, execOp, hop, hv, Instr.field, Sem.run_bind, run_underlying hu, Result.andThen_ok, hg, asAgg, Sem.run_pure, hrun]) hrep
    | _ => simp at he
theorem YcB {t e : TypeId} (h : C.P.underlying t = some (.slice e)) : C.P.elem t = e := by simp [Program.elem, h]
theorem Zni {i : Int} {n k : Nat} (h : idx i n = some k) : 0 ≤ i ∧ i < n ∧ i.toNat = k := by
  unfold idx at h
  split at h
  · rename_i hi; simp only [Option.some.injEq] at h; exact ⟨hi.1, hi.2, h⟩
  · cases h
theorem Zmq (S : SRel C.P fa own st a w) {t : TypeId} {x i : Operand} {v : AV} {k : IntKind} {n : Int} {p : XV} (hop : o.op = .indexAddr t x i)
    (hx : opA st x = some v) (hi : opD st i = some (.int k n)) (he : Zag C t st v n = some p) : Good C.P own st a w o p := by
  have hr := Zb8 S hx
  have hn := (Zbv S hi).int_inv
  unfold Zag at he
  split at he
  · cases he
  · rename_i sz hsz
    obtain ⟨e, inf, hu, hinf, rfl⟩ := Zec hsz
    have he' := YcB hu
    split at he
    · rename_i es
      split at he
      · rename_i q hq
        obtain ⟨h0, h1, h2⟩ := Zni hq
        split at he
        · rename_i el hel
          cases hb : Nat.beq el.cells.length inf.size with
          | false => rw [hb] at he; cases he
          | true =>
            rw [hb] at he
            simp only [cond_true, Option.some.injEq] at he
            subst he
            have hlen := Nat.eq_of_beq_eq_true hb
            have hmem : el ∈ es := List.mem_of_getElem? hel
            obtain ⟨b, off, cap, sz, vs, hv, hcap, hsz', hc, hp, h1', hrep⟩ := hr.d_inv.slc_inv (by intro hne; rw [hne] at hel; simp at hel)
            have hszz : sz = inf.size := by rw [← hlen, hsz' el hmem]
            subst hszz
            have hqlt : q < es.length := (List.getElem?_eq_some_iff.1 hel).1
            have hb2 : ∀ j, j < inf.size → q * inf.size + j < es.length * inf.size := by
              intro j hj
              have : (q + 1) * inf.size ≤ es.length * inf.size := Nat.mul_le_mul_right _ (by omega)
              rw [Nat.succ_mul] at this
              omega
            refine ⟨.pointer (some ⟨b, off + q * inf.size, none⟩), ?_, fun _ => ⟨b, _, rfl, fun j d hd => ?_⟩⟩
            · have hrun := run_indexAt_slice (P := C.P) w t ⟨b, off, none⟩ es.length cap k n (by rw [he', hu])
              rw [if_pos ⟨h0, h1⟩, he'] at hrun
              simp only [sizeOf, typeInfo, Sem.run_bind, run_program, hinf, Result.andThen_ok, Sem.run_pure, Addr.add_lit, h2] at hrun
              simp only [ZhL, execOp, hop, hv, hn, Sem.run_bind, hrun, Result.andThen_ok, Sem.run_pure]
            · have hj : j < inf.size := by rw [← hlen]; exact (List.getElem?_eq_some_iff.1 hd).1
              have hlt := hb2 j hj
              refine ⟨vs (q * inf.size + j), ?_, ?_, h1' _ hlt, hrep _ _ (by rw [flat_get hsz' hel j hj]; exact hd)⟩
              · rw [Nat.add_assoc]; exact hc _ hlt
              · rw [Nat.add_assoc]; exact hp _ hlt
        · cases he
      · cases he
    · rename_i id g m
      split at he
      · rename_i es hes
        obtain ⟨ap, ho⟩ := Ze0 hes
        split at he
        · rename_i q hq
          obtain ⟨h0, h1, h2⟩ := Zni hq
          split at he
          · rename_i el hel
            cases hb : Nat.beq el.cells.length inf.size with
            | false => rw [hb] at he; cases he
            | true =>
              rw [hb] at he
              simp only [cond_true, Option.some.injEq] at he
              subst he
              have hlen := Nat.eq_of_beq_eq_true hb
              obtain ⟨hid, _, hg, hl⟩ := hr.osl_inv
              obtain ⟨b, cap, c, T, fr, inf', hv, hob, hc, hi', hcs⟩ := hl ap es ho
              obtain ⟨c', T', fr', inf2, hc', hi2, _, _, hsz2, hpos, hle, hcells⟩ := S.h.objAt ho hob
              rw [hc] at hc'
              simp only [Option.some.injEq, Obj.cells.injEq] at hc'
              obtain ⟨rfl, rfl, rfl⟩ := hc'
              rw [hi'] at hi2
              simp only [Option.some.injEq] at hi2
              subst hi2
              have hss : inf'.size = inf.size := by rw [← hlen, hsz2 el (List.mem_of_getElem? hel)]
              refine ⟨.pointer (some ⟨b, 0 + q * inf.size, none⟩), ?_, fun _ => ⟨hid, ⟨_, _, rfl⟩, hg, fun ap' es' hes' => ⟨b, c, T, fr, inf', hob, hc, hi', by rw [hss, Nat.zero_add, Nat.add_zero]⟩⟩⟩
              have hrun := run_indexAt_slice (P := C.P) w t ⟨b, 0, none⟩ m cap k n (by rw [he', hu])
              rw [if_pos ⟨h0, h1⟩, he'] at hrun
              simp only [sizeOf, typeInfo, Sem.run_bind, run_program, hinf, Result.andThen_ok, Sem.run_pure, Addr.add_lit, h2] at hrun
              simp only [ZhL, execOp, hop, hv, hn, Sem.run_bind, hrun, Result.andThen_ok, Sem.run_pure]
          · cases he
        · cases he
      · cases he
    · cases he
theorem Zt7 (S : SRel C.P fa own st a w) {t : TypeId} {x i : Operand} {u d : DV} {k : IntKind} {n : Int} (hop : o.op = .index t x i)
    (hx : opD st x = some u) (hi : opD st i = some (.int k n)) (he : ZaV C t u n = some d) : Good C.P own st a w o (.a (.d d)) := by
  have hr := Zbv S hx
  have hn := (Zbv S hi).int_inv
  unfold ZaV at he
  split at he
  · rename_i s
    cases hs : C.isStr t with
    | false => rw [hs] at he; cases he
    | true =>
      rw [hs] at he
      simp only [cond_true] at he
      split at he
      · rename_i q hq
        obtain ⟨h0, h1, h2⟩ := Zni hq
        split at he
        · rename_i b hb
          simp only [Option.some.injEq] at he
          subst he
          obtain ⟨bs, hv, rfl⟩ := hr.str_inv
          have hget : bs[n.toNat]? = some b := by
            rw [h2]
            have hlt : q < bs.size := by
              have := (List.getElem?_eq_some_iff.1 hb).1
              simpa using this
            rw [getElem?_pos bs q hlt]
            simp only [Option.some.injEq]
            have := (List.getElem?_eq_some_iff.1 hb).2
            rw [← this]
            rfl
          refine ZeR (v := .int .u8 b.toNat) ?_ (.int _ _)
          simp only [ZhL, execOp, hop, hv, hn, Instr.index, asIntOf, Sem.run_bind, Sem.run_pure, Result.andThen_ok, run_underlying (Zcl hs), if_pos h0, hget]
        · cases he
      · cases he
  · cases he
theorem Zi8 {b : Nat} {m : Array MapEntry} {cl : Nat} (h : w.heap[b]? = some (.map m cl)) : (getObj b).run C.P w = .ok (.map m cl) w := by
  simp [getObj, Sem.run, h]
theorem ZyO (S : SRel C.P fa own st a w) {c : Call} {x : Operand} {t : TypeId} {v : AV} {d : DV} (hop : o.op = .call c) (hc : c.callee = .builtin .len)
    (ha : c.args.toList = [x]) (ht : c.argTypes.toList = [t]) (hx : opA st x = some v) (he : Zb1 C st.heap t v = some d) : Good C.P own st a w o (.a (.d d)) := by
  have hr := Zb8 S hx
  have ha' : c.args = #[x] := by rw [← Array.toList_inj, ha]
  have ht' : c.argTypes = #[t] := by rw [← Array.toList_inj, ht]
  have done : ∀ n : Int, (Builtin.len_ #[t] o.type #[a.eval x]).run C.P w = .ok (goInt n) w → ZhL C.P o a w (.int .i64 n) := by
    intro n hrun
    simp only [ZhL, execOp, hop, resolve, hc, invoke, builtin, ha', ht', List.map_toArray, List.map_cons, List.map_nil, Sem.run_bind, Sem.run_pure, Result.andThen_ok, hrun, goInt]
  unfold Zb1 at he
  split at he
  · rename_i s
    cases hs : C.isStr t with
    | false => rw [hs] at he; cases he
    | true =>
      rw [hs] at he
      simp only [cond_true, Option.some.injEq] at he
      subst he
      obtain ⟨bs, hv, rfl⟩ := hr.d_inv.str_inv
      refine ZeR (done _ ?_) (.int _ _)
      simp [Builtin.len_, hv, run_underlying (Zcl hs)]
  · rename_i es
    split at he
    · rename_i sz hsz
      obtain ⟨e, inf, hu, _⟩ := Zec hsz
      simp only [Option.some.injEq] at he
      subst he
      obtain ⟨base, cap, hv⟩ := hr.d_inv.slc_len
      refine ZeR (done _ ?_) (.int _ _)
      simp [Builtin.len_, hv, run_underlying hu]
    · cases he
  · rename_i id g n
    split at he
    · rename_i sz hsz
      obtain ⟨e, inf, hu, _⟩ := Zec hsz
      simp only [Option.some.injEq] at he
      subst he
      obtain ⟨_, ⟨base, cap, hv⟩, _⟩ := hr.osl_inv
      refine ZeR (done _ ?_) (.int _ _)
      simp [Builtin.len_, hv, run_underlying hu]
    · cases he
  · rename_i id
    split at he
    · rename_i es ho
      cases hs : C.isMap t with
      | false => rw [hs] at he; cases he
      | true =>
        rw [hs] at he
        simp only [cond_true, Option.some.injEq] at he
        subst he
        obtain ⟨k, e, hu⟩ := ZdO hs
        obtain ⟨_, hl, _⟩ := hr.mp_inv
        obtain ⟨b, hb, hv⟩ := hl es ho
        obtain ⟨m, cl, hm, _, hsz, _⟩ := S.h.objAt ho hb
        refine ZeR (done _ ?_) (.int _ _)
        simp [Builtin.len_, hv, run_underlying hu, Zi8 hm, hsz]
    · cases he
  · cases he
end
end Go.Abs
namespace Go.Abs
section
variable {C : Ctx} {call : Zaa} {fa : FA} {own : Own} {st : St} {a : Act} {w : World} {o : Oper}
theorem ZtH (S : SRel C.P fa own st a w) {c : Call} {xs : List Operand} {ds : List DV} {d : DV} (hop : o.op = .call c)
    (ha : c.args.toList = xs) (hx : mapO (opD st) xs = some ds)
    (he : (c.callee = .builtin .max ∧ Yd5 ds = some d) ∨ (c.callee = .builtin .min ∧ Yd1 ds = some d)) : Good C.P own st a w o (.a (.d d)) := by
  obtain ⟨hl, hg⟩ := Zht hx
  have key : ∀ k x k' y, ds = [.int k x, .int k' y] → ∃ p q, c.args = #[p, q] ∧ a.eval p = .int k x ∧ a.eval q = .int k' y := by
    intro k x k' y hds
    subst hds
    match xs, hl with
    | [p, q], _ =>
      refine ⟨p, q, by rw [← Array.toList_inj, ha], ?_, ?_⟩
      · exact (Zbv S (hg 0 p _ rfl rfl)).int_inv
      · exact (Zbv S (hg 1 q _ rfl rfl)).int_inv
  rcases he with ⟨hc, he⟩ | ⟨hc, he⟩
  · unfold Yd5 at he
    split at he
    · simp only [Option.some.injEq] at he
      subst he
      obtain ⟨p, q, hargs, hp, hq⟩ := key _ _ _ _ rfl
      refine ZeR ?_ (.int _ _)
      simp [ZhL, execOp, hop, resolve, hc, invoke, builtin, hargs, hp, hq, Builtin.max_, Builtin.max2]
    · cases he
  · unfold Yd1 at he
    split at he
    · simp only [Option.some.injEq] at he
      subst he
      obtain ⟨p, q, hargs, hp, hq⟩ := key _ _ _ _ rfl
      refine ZeR ?_ (.int _ _)
      simp [ZhL, execOp, hop, resolve, hc, invoke, builtin, hargs, hp, hq, Builtin.min_, Builtin.min2]
    · cases he
theorem ZpZ {f : Nat → Value} {ns : List UInt8} (h : ∀ (i : Nat) b, ns[i]? = some b → ∃ n : Int, f i = .int .u8 n ∧ UInt8.ofNat n.toNat = b) (b off cap : Nat)
    (hc : ∀ i, i < ns.length → w.cell? ⟨b, off + i, none⟩ = some (f i)) :
    ∃ s : ByteArray, (Conv.bytesToString (.slice (some ⟨b, off, none⟩) ns.length cap)).run C.P w = .ok (.string s) w ∧ s.data.toList = ns := by
  have hint : ∀ i, i < ns.length → ∃ n : Int, f i = .int .u8 n ∧ UInt8.ofNat n.toNat = ns[i]?.getD 0 := by
    intro i hi
    obtain ⟨n, h1, h2⟩ := h i ns[i] (List.getElem?_eq_getElem hi)
    exact ⟨n, h1, by rw [h2, List.getElem?_eq_getElem hi]; rfl⟩
  let g : Nat → Int := fun i => match f i with | .int _ n => n | _ => 0
  have hg : ∀ i, i < ns.length → f i = .int .u8 (g i) ∧ UInt8.ofNat (g i).toNat = ns[i]?.getD 0 := by
    intro i hi
    obtain ⟨n, h1, h2⟩ := hint i hi
    simp only [g, h1]
    exact ⟨trivial, h2⟩
  have hload : (loadCells ⟨b, off, none⟩ ns.length).run C.P w = .ok (((List.range ns.length).map g).map (Value.int .u8)).toArray w := by
    rw [run_loadCells w ⟨b, off, none⟩ ns.length f (fun j hj => by rw [Addr.add_lit]; exact hc j hj)]
    congr 2
    rw [List.map_map]
    apply List.map_congr_left
    intro i hi
    exact (hg i (by simpa using hi)).1
  refine ⟨_, run_bytesToString w ⟨b, off, none⟩ ns.length cap _ hload, ?_⟩
  rw [foldl_push_bytes]
  simp only [Array.toList_append, List.map_map]
  have : (List.range ns.length).map ((fun n => UInt8.ofNat n.toNat) ∘ g) = ns := by
    apply List.ext_getElem?
    intro i
    rw [List.getElem?_map]
    rcases Nat.lt_or_ge i ns.length with hi | hi
    · rw [List.getElem?_range hi]
      simp only [Option.map_some, Function.comp]
      rw [(hg i hi).2, List.getElem?_eq_getElem hi]
      rfl
    · rw [List.getElem?_eq_none (by simpa using hi), List.getElem?_eq_none hi]
      rfl
  rw [this]
  simp
theorem Zrd : ∀ {es : List DV} {ns : List UInt8}, Zej es = some ns → es.length = ns.length ∧ (∀ e ∈ es, e.cells = [e]) ∧
    ∀ (i : Nat) b, ns[i]? = some b → ∃ n : Int, es[i]? = some (.int .u8 n) ∧ UInt8.ofNat n.toNat = b := by
  intro es
  induction es with
  | nil => intro ns h; simp only [Zej, Option.some.injEq] at h; subst h; simp
  | cons e es ih =>
    intro ns h
    unfold Zej at h
    split at h
    · rename_i hh; cases hh
    · rename_i n r hh
      cases hh
      simp only [Option.map_eq_some_iff] at h
      obtain ⟨ns', h', rfl⟩ := h
      obtain ⟨h1, h2, h3⟩ := ih h'
      refine ⟨by simp [h1], ?_, ?_⟩
      · intro e he
        simp only [List.mem_cons] at he
        rcases he with rfl | he
        · rfl
        · exact h2 e he
      · intro i b hb
        cases i with
        | zero => simp at hb; exact ⟨n, rfl, hb⟩
        | succ i => simp at hb; simpa using h3 i b hb
    · cases h
theorem ZuB : ∀ {es : List AV} {ns : List UInt8}, ZjV es = some ns → es.length = ns.length ∧
    ∀ (i : Nat) b, ns[i]? = some b → ∃ n : Int, es[i]? = some (.d (.int .u8 n)) ∧ UInt8.ofNat n.toNat = b := by
  intro es
  induction es with
  | nil => intro ns h; simp only [ZjV, Option.some.injEq] at h; subst h; simp
  | cons e es ih =>
    intro ns h
    unfold ZjV at h
    split at h
    · rename_i hh; cases hh
    · rename_i n r hh
      cases hh
      simp only [Option.map_eq_some_iff] at h
      obtain ⟨ns', h', rfl⟩ := h
      obtain ⟨h1, h3⟩ := ih h'
      refine ⟨by simp [h1], ?_⟩
      intro i b hb
      cases i with
      | zero => simp at hb; exact ⟨n, rfl, hb⟩
      | succ i => simp at hb; simpa using h3 i b hb
    · cases h
theorem ZpL (S : SRel C.P fa own st a w) {s t : TypeId} {x : Operand} {v : AV} {d : DV} (hop : o.op = .convert s t x) (hx : opA st x = some v)
    (he : Zai C st.heap s t v = some d) : Good C.P own st a w o (.a (.d d)) := by
  have hr := Zb8 S hx
  have done : ∀ u, (convert s t (a.eval x)).run C.P w = .ok u w → ZhL C.P o a w u := by
    intro u hu
    simp only [ZhL, execOp, hop, Sem.run_bind, hu, Result.andThen_ok, Sem.run_pure]
  unfold Zai at he
  split at he
  · rename_i k n
    split at he
    · rename_i u k' hu hk
      simp only [Option.some.injEq] at he
      subst he
      have hv := hr.d_inv.int_inv
      refine ZeR (done _ ?_) (.int _ _)
      simp [hv, convert, run_underlying hu, run_underlying (Zqy hk), Conv.intToInt]
    · cases he
  · rename_i b
    cases hb : C.isStr s && C.isStr t with
    | false => rw [hb] at he; cases he
    | true =>
      rw [hb] at he
      simp only [Bool.and_eq_true] at hb
      simp only [cond_true, Option.some.injEq] at he
      subst he
      obtain ⟨bs, hv, rfl⟩ := hr.d_inv.str_inv
      refine ZeR (done (.string bs) ?_) (.str bs)
      simp [hv, convert, run_underlying (Zcl hb.1), run_underlying (Zcl hb.2)]
  · rename_i id g n
    cases hb : C.isBytes s && C.isStr t with
    | false => rw [hb] at he; cases he
    | true =>
      rw [hb] at he
      simp only [Bool.and_eq_true] at hb
      obtain ⟨e, hs, hse⟩ := ZgL hb.1
      simp only [cond_true] at he
      split at he
      · rename_i es hes
        obtain ⟨ap, ho⟩ := Ze0 hes
        cases hn0' : Nat.ble n es.length with
        | false => rw [hn0'] at he; cases he
        | true =>
        rw [hn0'] at he
        have hn0 : n ≤ es.length := Nat.le_of_ble_eq_true hn0'
        simp only [cond_true, Option.map_eq_some_iff] at he
        obtain ⟨ns, hns, rfl⟩ := he
        obtain ⟨hid, _, hg, hl⟩ := hr.osl_inv
        obtain ⟨b, cap, c, T, fr, inf, hv, hob, hc, hi, hcs⟩ := hl ap es ho
        obtain ⟨c', T', fr', inf2, hc', hi2, _, _, hsz2, hpos, hle, hcells⟩ := S.h.objAt ho hob
        rw [hc] at hc'
        simp only [Option.some.injEq, Obj.cells.injEq] at hc'
        obtain ⟨rfl, rfl, rfl⟩ := hc'
        rw [hi] at hi2
        simp only [Option.some.injEq] at hi2
        subst hi2
        obtain ⟨h1, h2⟩ := ZuB hns
        have hlen : ns.length = n := by
          rw [← h1, List.length_take]; omega
        have hone : ∀ i, i < ns.length → inf.size = 1 ∧ ∃ u, c[i]? = some u ∧ ∃ m : Int, u = .int .u8 m ∧ UInt8.ofNat m.toNat = ns[i]?.getD 0 := by
          intro i hi'
          obtain ⟨m, hm, hmb⟩ := h2 i ns[i] (List.getElem?_eq_getElem hi')
          rw [List.getElem?_take, if_pos (by omega)] at hm
          have h1' : inf.size = 1 := by
            have := hsz2 _ (List.mem_of_getElem? hm)
            simpa [AV.cells] using this.symm
          refine ⟨h1', ?_⟩
          obtain ⟨u, hu1, _, hu3⟩ := hcells i (.d (.int .u8 m)) (by
            have := flat_get hsz2 hm 0 (by omega)
            rw [h1'] at this
            simpa [AV.cells] using this)
          exact ⟨u, hu1, m, hu3.d_inv.int_inv, by rw [hmb, List.getElem?_eq_getElem hi']; rfl⟩
        obtain ⟨bs, hbs, hdata⟩ := ZpZ (C := C) (w := w) (f := fun i => c[i]?.getD undef) (ns := ns) (fun i bb hbb => by
          have hi' : i < ns.length := (List.getElem?_eq_some_iff.1 hbb).1
          obtain ⟨_, u, hu, m, hm1, hm2⟩ := hone i hi'
          exact ⟨m, by rw [hu]; exact hm1, by rw [hm2, hbb]; rfl⟩) b 0 cap (fun i hi' => by
          obtain ⟨_, u, hu, _⟩ := hone i hi'
          rw [Nat.zero_add, cell_of_row w b i c T fr hc, hu]; rfl)
        refine ZeR (v := .string bs) (done _ ?_) (by rw [← hdata]; exact .str bs)
        rw [hv, run_convert_bytes_string w s t e _ _ _ hs hse (Zcl hb.2), ← hlen]
        exact hbs
      · cases he
  · rename_i es
    cases hb : C.isBytes s && C.isStr t with
    | false => rw [hb] at he; cases he
    | true =>
      rw [hb] at he
      simp only [Bool.and_eq_true] at hb
      obtain ⟨e, hs, hse⟩ := ZgL hb.1
      simp only [cond_true, Option.map_eq_some_iff] at he
      obtain ⟨ns, hns, rfl⟩ := he
      obtain ⟨h1, h0, h2⟩ := Zrd hns
      by_cases hne : es = []
      · subst hne
        obtain ⟨base, cap, hv⟩ := hr.d_inv.slc_len
        have hns0 : ns = [] := by
          have : ns.length = 0 := by rw [← h1]; rfl
          exact List.eq_nil_of_length_eq_zero this
        subst hns0
        refine ZeR (v := .string .empty) (done _ ?_) (by have := Rep.str (w := w) (own := own) ByteArray.empty; simpa using this)
        rw [hv, run_convert_bytes_string w s t e _ _ _ hs hse (Zcl hb.2)]
        cases base with
        | none => simp [Conv.bytesToString]
        | some ad => simp [Conv.bytesToString, Go.loadCells, loadCellsFrom]
      · obtain ⟨b, off, cap, sz, vs, hv, hcap, hsz, hc, hp, h1', hrep⟩ := hr.d_inv.slc_inv hne
        have hs1 : sz = 1 := by
          cases es with
          | nil => exact absurd rfl hne
          | cons x xs => have := hsz x (by simp); rw [h0 x (by simp)] at this; simpa using this.symm
        subst hs1
        have hfl : es.flatMap DV.cells = es := by
          clear hne h1 hv hns hr hx hsz hc hp h1' hrep h2 hcap
          induction es with
          | nil => rfl
          | cons x xs ih => rw [List.flatMap_cons, h0 x (by simp), ih (fun e he => h0 e (by simp [he]))]; rfl
        obtain ⟨bs, hbs, hdata⟩ := ZpZ (C := C) (w := w) (f := vs) (ns := ns) (fun i bb hbb => by
          obtain ⟨m, hm1, hm2⟩ := h2 i bb hbb
          exact ⟨m, (hrep i _ (by rw [hfl]; exact hm1)).int_inv, hm2⟩) b off cap (fun i hi' => hc i (by rw [Nat.mul_one, h1]; exact hi'))
        refine ZeR (v := .string bs) (done _ ?_) (by rw [← hdata]; exact .str bs)
        rw [hv, run_convert_bytes_string w s t e _ _ _ hs hse (Zcl hb.2), h1]
        exact hbs
  · cases he
end
end Go.Abs
namespace Go.Abs
section
variable {C : Ctx} {call : Zaa} {fa : FA} {own : Own} {st : St} {a : Act} {w : World} {o : Oper}
theorem ZsT (S : SRel C.P fa own st a w) {x : Option Operand} {d : Option DV} (h : optD st x = some d) :
    (x = none ∧ d = none) ∨ ∃ y u, x = some y ∧ d = some u ∧ Rep w own (a.eval y) u := by
  cases x with
  | none => simp only [optD, Option.some.injEq] at h; exact .inl ⟨rfl, h.symm⟩
  | some y =>
    simp only [optD] at h
    split at h
    · rename_i v hv
      simp only [Option.some.injEq] at h
      exact .inr ⟨y, v, rfl, h.symm, Zbv S hv⟩
    · cases h
theorem Zhp {n dflt k : Nat} {d : Option DV} (h : ZbO n dflt d = some k) :
    (d = none ∧ k = dflt) ∨ ∃ kk i, d = some (.int kk i) ∧ 0 ≤ i ∧ i ≤ n ∧ k = i.toNat := by
  unfold ZbO at h
  split at h
  · simp only [Option.some.injEq] at h; exact .inl ⟨rfl, h.symm⟩
  · split at h
    · rename_i hi; simp only [Option.some.injEq] at h; exact .inr ⟨_, _, rfl, hi.1, hi.2, h.symm⟩
    · cases h
  · cases h
theorem run_sliceBound {k : IntKind} {i : Int} {y : Nat} {code : BoundsCode} (h0 : 0 ≤ i) (h1 : i ≤ y) : (Instr.sliceBound (.int k i) y code).run C.P w = .ok i.toNat w := by
  simp [Instr.sliceBound, asIntOf, h0, h1]
theorem Zdp (S : SRel C.P fa own st a w) {lo hi : Option Operand} {l h : Option DV} {len cap lk hk : Nat} {isS : Bool} (hl : optD st lo = some l) (hh : optD st hi = some h)
    (hhk : ZbO len len h = some hk) (hlk : ZbO hk 0 l = some lk) (hcap : len ≤ cap) :
    (Instr.sliceBounds isS len cap (lo.map a.eval) (hi.map a.eval) none).run C.P w = .ok (lk, hk, cap) w ∧ lk ≤ hk ∧ hk ≤ len := by
  have h2 : (match (hi.map a.eval : Option Value) with | some v => Instr.sliceBound v cap (if isS then .sliceAcap else .sliceAlen) | none => pure len : Sem Nat).run C.P w = .ok hk w ∧ hk ≤ len := by
    rcases ZsT S hh with ⟨rfl, rfl⟩ | ⟨y, u, rfl, rfl, hr⟩
    · rcases Zhp hhk with ⟨_, rfl⟩ | ⟨_, _, hc, _⟩
      · exact ⟨rfl, Nat.le_refl _⟩
      · cases hc
    · rcases Zhp hhk with ⟨hc, _⟩ | ⟨kk, i, hc, h0, h1, rfl⟩
      · cases hc
      · simp only [Option.some.injEq] at hc
        subst hc
        simp only [Option.map_some, hr.int_inv]
        exact ⟨run_sliceBound h0 (by omega), by omega⟩
  have h3 : (match (lo.map a.eval : Option Value) with | some v => Instr.sliceBound v hk .sliceB | none => pure 0 : Sem Nat).run C.P w = .ok lk w ∧ lk ≤ hk := by
    rcases ZsT S hl with ⟨rfl, rfl⟩ | ⟨y, u, rfl, rfl, hr⟩
    · rcases Zhp hlk with ⟨_, rfl⟩ | ⟨_, _, hc, _⟩
      · exact ⟨rfl, Nat.zero_le _⟩
      · cases hc
    · rcases Zhp hlk with ⟨hc, _⟩ | ⟨kk, i, hc, h0, h1, rfl⟩
      · cases hc
      · simp only [Option.some.injEq] at hc
        subst hc
        simp only [Option.map_some, hr.int_inv]
        exact ⟨run_sliceBound h0 (by omega), by omega⟩
  refine ⟨?_, h3.2, h2.2⟩
  unfold Instr.sliceBounds
  simp only [Sem.run_bind, Sem.run_pure, Result.andThen_ok, Option.isSome_none, Bool.false_eq_true, if_false]
  have e2 := h2.1
  have e3 := h3.1
  cases hi' : (hi.map a.eval : Option Value) <;> cases lo' : (lo.map a.eval : Option Value) <;> simp only [hi', lo'] at e2 e3 ⊢ <;> simp only [e2, e3, Result.andThen_ok, Sem.run_pure] at * <;> simp_all
theorem ZoU {α β : Type} {f : α → List β} {sz : Nat} : ∀ {es : List α}, (∀ e ∈ es, (f e).length = sz) → ∀ h, (es.take h).flatMap f = (es.flatMap f).take (h * sz) := by
  intro es
  induction es with
  | nil => intro _ h; simp
  | cons x es ih =>
    intro hs h
    cases h with
    | zero => simp
    | succ h =>
      have hx : (f x).length = sz := hs x (by simp)
      rw [List.take_succ_cons, List.flatMap_cons, List.flatMap_cons, ih (fun e he => hs e (by simp [he])), List.take_append, hx, Nat.succ_mul]
      rw [List.take_of_length_le (l := f x) (by omega), show h * sz + sz - sz = h * sz by omega]
theorem Zwo {α β : Type} {f : α → List β} {sz : Nat} : ∀ {es : List α}, (∀ e ∈ es, (f e).length = sz) → ∀ h, (es.drop h).flatMap f = (es.flatMap f).drop (h * sz) := by
  intro es
  induction es with
  | nil => intro _ h; simp
  | cons x es ih =>
    intro hs h
    cases h with
    | zero => simp
    | succ h =>
      have hx : (f x).length = sz := hs x (by simp)
      rw [List.drop_succ_cons, List.flatMap_cons, ih (fun e he => hs e (by simp [he])), List.drop_append, hx, Nat.succ_mul]
      rw [List.drop_eq_nil_of_le (as := f x) (by omega), show h * sz + sz - sz = h * sz by omega, List.nil_append]
theorem Zut (S : SRel C.P fa own st a w) {t : TypeId} {x : Operand} {lo hi : Option Operand} {u d : DV} {l h : Option DV} (hop : o.op = .slice t x lo hi none)
    (hx : opD st x = some u) (hl : optD st lo = some l) (hh : optD st hi = some h) (he : ZaO C t u l h = some d) : Good C.P own st a w o (.a (.d d)) := by
  have hr := Zbv S hx
  have base : ∀ v, (Instr.slice t (a.eval x) (lo.map a.eval) (hi.map a.eval) none).run C.P w = .ok v w → (∀ n e, C.P.underlying t ≠ some (.array n e)) → (∃ dd, C.P.underlying t = some dd) → ZhL C.P o a w v := by
    rintro v hv hna ⟨dd, hdd⟩
    have : (Instr.sliceAt t (a.eval x) (lo.map a.eval) (hi.map a.eval) none).run C.P w = .ok v w := by
      unfold Instr.sliceAt
      simp only [Sem.run_bind, run_underlying hdd, Result.andThen_ok]
      cases dd <;> first | exact hv | exact absurd hdd (hna _ _)
    simp only [ZhL, execOp, hop, Option.map_none, Sem.run_bind, this, Result.andThen_ok, Sem.run_pure]
  unfold ZaO at he
  split at he
  · rename_i s
    cases hs : C.isStr t with
    | false => rw [hs] at he; cases he
    | true =>
      rw [hs] at he
      simp only [cond_true] at he
      split at he
      · rename_i hk hhk
        split at he
        · rename_i lk hlk
          simp only [Option.some.injEq] at he
          subst he
          obtain ⟨bs, hv, rfl⟩ := hr.str_inv
          have hsz : bs.data.toList.length = bs.size := Array.length_toList
          rw [hsz] at hhk
          obtain ⟨hrun, _, _⟩ := Zdp (C := C) (isS := false) S hl hh hhk hlk (Nat.le_refl _)
          refine ZeR (v := .string (bs.extract lk hk)) (base _ ?_ (fun n e h => by rw [Zcl hs] at h; cases h) ⟨_, Zcl hs⟩) ?_
          · unfold Instr.slice
            simp only [Sem.run_bind, run_underlying (Zcl hs), Result.andThen_ok, hv, Option.isSome_none, Bool.false_eq_true, if_false, Sem.run_pure, hrun]
          · have := Rep.str (w := w) (own := own) (bs.extract lk hk)
            rw [ByteArray.data_extract, Array.toList_extract, List.extract_eq_take_drop] at this
            rwa [← List.drop_take] at this
        · cases he
      · cases he
  · rename_i es
    split at he
    · rename_i sz hsz
      obtain ⟨e, inf, hu, hinf, rfl⟩ := Zec hsz
      split at he
      · rename_i hk hhk
        split at he
        · rename_i lk hlk
          cases hok : Zao inf.size (es.take 1) with
          | false => rw [hok] at he; cases he
          | true =>
            rw [hok] at he
            simp only [cond_true, Option.some.injEq] at he
            subst he
            have hna : ∀ n e', C.P.underlying t ≠ some (.array n e') := fun n e' h => by rw [hu] at h; cases h
            by_cases hne : es = []
            · subst hne
              obtain ⟨bs, cap, hv⟩ := hr.slc_len
              obtain ⟨hrun, h1, h2⟩ := Zdp (C := C) (isS := true) (cap := cap) S hl hh hhk hlk (Nat.zero_le _)
              have hk0 : hk = 0 := by simpa using h2
              subst hk0
              have hl0 : lk = 0 := by omega
              subst hl0
              refine ZeR (v := .slice (if cap = 0 then bs else bs.map (·.add (0 * inf.size))) 0 cap) (base _ ?_ hna ⟨_, hu⟩) (by simpa using Rep.slc0 _ _)
              rw [List.length_nil] at hrun hv
              unfold Instr.slice
              simp only [Sem.run_bind, run_underlying hu, Result.andThen_ok, hv, hrun, sizeOf, typeInfo, run_program, hinf, Sem.run_pure, Nat.sub_zero]
            · obtain ⟨b, off, cap, sz, vs, hv, hcap, hsz', hc, hp, h1', hrep⟩ := hr.slc_inv hne
              have hszz : sz = inf.size := by
                cases es with
                | nil => exact absurd rfl hne
                | cons x xs =>
                  have h3 := hsz' x (by simp)
                  simp only [List.take_succ_cons, List.take_zero, Zao, Bool.and_true] at hok
                  rw [← h3]
                  exact Nat.eq_of_beq_eq_true hok
              subst hszz
              obtain ⟨hrun, h1, h2⟩ := Zdp (C := C) (isS := true) (cap := cap) S hl hh hhk hlk hcap
              have hlen : ((es.take hk).drop lk).length = hk - lk := by simp; omega
              have hval : (Instr.slice t (a.eval x) (lo.map a.eval) (hi.map a.eval) none).run C.P w =
                  .ok (.slice (if cap = lk then some ⟨b, off, none⟩ else some ⟨b, off + lk * inf.size, none⟩) (hk - lk) (cap - lk)) w := by
                unfold Instr.slice
                simp only [Sem.run_bind, run_underlying hu, Result.andThen_ok, hv, hrun, sizeOf, typeInfo, run_program, hinf, Sem.run_pure, Option.map_some, Addr.add_lit]
              refine ZeR (base _ hval hna ⟨_, hu⟩) ?_
              by_cases h0 : hk - lk = 0
              · have : (es.take hk).drop lk = [] := List.eq_nil_of_length_eq_zero (by rw [hlen, h0])
                rw [this, h0]
                exact .slc0 _ _
              · rw [if_neg (by omega), ← hlen]
                have hin : ∀ i, i < ((es.take hk).drop lk).length * inf.size → lk * inf.size + i < es.length * inf.size := by
                  intro i hi
                  rw [hlen, Nat.sub_mul] at hi
                  have : hk * inf.size ≤ es.length * inf.size := Nat.mul_le_mul_right _ h2
                  omega
                refine .slc b (off + lk * inf.size) (cap - lk) inf.size _ (fun i => vs (lk * inf.size + i)) (by omega) (fun e he => hsz' e (List.mem_of_mem_take (List.mem_of_mem_drop he)))
                  (fun i hi => by rw [Nat.add_assoc]; exact hc _ (hin i hi)) (fun i hi => by rw [Nat.add_assoc]; exact hp _ (hin i hi)) (fun i hi => h1' _ (hin i hi)) (fun i d hd => hrep _ _ ?_)
                have hd' : i < ((es.take hk).drop lk).length * inf.size := by
                  have := (List.getElem?_eq_some_iff.1 hd).1
                  rwa [Zbr (sz := inf.size) (fun e he => hsz' e (List.mem_of_mem_take (List.mem_of_mem_drop he)))] at this
                rw [Zwo (sz := inf.size) (fun e he => hsz' e (List.mem_of_mem_take he)), List.getElem?_drop, ZoU (sz := inf.size) hsz', List.getElem?_take] at hd
                split at hd
                · exact hd
                · cases hd
        · cases he
      · cases he
    · cases he
  · cases he
def KeyKind (kind : TypeDesc) (kd : DV) : Prop := (kind = .string ∧ ∃ s, kd = .str s) ∨ ∃ k n, kind = .int k ∧ kd = .int k n
theorem Zjx {t : TypeId} {kd : DV} (h : C.keyOk t kd = true) : ∃ kt e kind, C.P.underlying t = some (.map kt e) ∧ C.P.underlying kt = some kind ∧ KeyKind kind kd := by
  unfold Ctx.keyOk at h
  split at h
  · rename_i kt e hu
    split at h
    · rename_i s hk; exact ⟨kt, e, _, hu, hk, .inl ⟨rfl, s, rfl⟩⟩
    · rename_i k b n hk
      split at h
      · rename_i heq; subst heq; exact ⟨kt, e, _, hu, hk, .inr ⟨k, n, rfl, rfl⟩⟩
      · cases h
    · cases h
  · cases h
theorem KeyKind.isKey {kind : TypeDesc} {kd : DV} {k : Value} (h : KeyKind kind kd) (r : Rep w own k kd) : MapKept.IsKey kind k := by
  rcases h with ⟨rfl, s, rfl⟩ | ⟨kk, n, rfl, rfl⟩
  · obtain ⟨bs, rfl, _⟩ := r.str_inv
    trivial
  · rw [r.int_inv]; rfl
theorem Zga {kind : TypeDesc} {kd kd' : DV} {k k' : Value} {b : Bool} (hk : KeyKind kind kd) (r : Rep w own k kd) (r' : Rep w own k' kd')
    (h : ZdT kd kd' = some b) : Instr.sameNow kind k k' = some b := by
  rcases hk with ⟨rfl, s, rfl⟩ | ⟨kk, n, rfl, rfl⟩
  · cases kd' <;> simp only [ZdT] at h <;> try (cases h; done)
    simp only [Option.some.injEq] at h
    subst h
    obtain ⟨b1, rfl, rfl⟩ := r.str_inv
    obtain ⟨b2, rfl, rfl⟩ := r'.str_inv
    simp only [Instr.sameNow, beq_toListBytes, ByteArray.toList_eq]
  · cases kd' <;> simp only [ZdT] at h <;> try (cases h; done)
    split at h
    · rename_i hkk
      simp only [Option.some.injEq] at h
      subst h; subst hkk
      rw [r.int_inv, r'.int_inv]
      simp [Instr.sameNow]
    · cases h
theorem ZlD {α : Type} (R : Value → α → Prop) {kind : TypeDesc} {kd : DV} {k : Value} (hk : KeyKind kind kd) (r : Rep w own k kd) :
    ∀ (l : List MapEntry) (ds : List (DV × α)) (i : Nat) (q : Option α), l.length = ds.length →
      (∀ (j : Nat) e d, l[j]? = some e → ds[j]? = some d → Rep w own e.key d.1 ∧ R e.val d.2) → Zgb kd ds = some q →
      (q = none ∧ Instr.findNow kind k l i = some none) ∨ ∃ v j u, q = some v ∧ Instr.findNow kind k l i = some (some (i + j, u)) ∧ R u v ∧ ∃ e d, l[j]? = some e ∧ ds[j]? = some d ∧ ZdT kd d.1 = some true ∧
        u = e.val ∧ v = d.2 := by
  intro l
  induction l with
  | nil =>
    intro ds i q hl _ hm
    have : ds = [] := List.eq_nil_of_length_eq_zero (by simpa using hl.symm)
    subst this
    simp only [Zgb, Option.some.injEq] at hm
    exact .inl ⟨hm.symm, rfl⟩
  | cons e l ih =>
    intro ds i q hl hp hm
    cases ds with
    | nil => simp at hl
    | cons d ds =>
      obtain ⟨kd', x⟩ := d
      obtain ⟨h1, h2⟩ := hp 0 e (kd', x) rfl rfl
      simp only [Zgb] at hm
      cases hke : ZdT kd kd' with
      | none => rw [hke] at hm; cases hm
      | some b =>
        rw [hke] at hm
        have hsn := Zga hk r h1 hke
        cases b with
        | true =>
          simp only [Option.some.injEq] at hm
          subst hm
          exact .inr ⟨x, 0, e.val, rfl, by simp [Instr.findNow, hsn], h2, e, _, rfl, rfl, hke, rfl, rfl⟩
        | false =>
          simp only at hm
          rcases ih ds (i + 1) q (by simpa using hl) (fun j e' d' he' hd' => hp (j + 1) e' d' (by simpa using he') (by simpa using hd')) hm with ⟨h3, h4⟩ | ⟨v, j, u, h3, h4, h5, e', d', h6, h7, h8⟩
          · exact .inl ⟨h3, by simp [Instr.findNow, hsn, h4]⟩
          · exact .inr ⟨v, j + 1, u, h3, by simp [Instr.findNow, hsn, h4]; omega, h5, e', d', by simpa using h6, by simpa using h7, h8⟩
theorem Zpm {t : TypeId} {z : DV} (h : C.mapZero t = some z) : ∃ kt e zv, C.P.underlying t = some (.map kt e) ∧ (∀ w, (zeroValue e).run C.P w = .ok zv w) ∧ ∀ w own, Rep w own zv z := by
  unfold Ctx.mapZero at h
  split at h
  · rename_i kt e hu
    have hz : C.zero e = some z := by
      split at h
      · exact h
      · exact h
      · cases h
    obtain ⟨zv, h1, _, h2⟩ := Zin hz
    exact ⟨kt, e, zv, hu, h1, h2⟩
  · cases h
theorem Zo4 {h : List AObj} {cs : List Value} {as : List AV} (hl : cs.length = as.length) (hh : ∀ (i : Nat) v x, cs[i]? = some v → as[i]? = some x → ARep C.P w own h v x) :
    ARep C.P w own h (.tuple cs.toArray) (ZbF as) := by
  unfold ZbF
  split
  · rename_i ds hd
    have := ZeF hd
    subst this
    refine .d _ _ (.tup _ _ (by simpa using hl) fun i v x hv hx => ?_)
    exact (hh i v (.d x) (by simpa using hv) (by rw [List.getElem?_map, hx]; rfl)).d_inv
  · exact .tup _ _ (by simpa using hl) fun i v x hv hx => hh i v x (by simpa using hv) hx
theorem Zr0 (S : SRel C.P fa own st a w) {t : TypeId} {x k : Operand} {ok : Bool} {m v : AV} {kd : DV} (hop : o.op = .lookup t x k ok)
    (hx : opA st x = some m) (hk : opD st k = some kd) (he : ZbP C t st.heap m kd ok = some v) : Good C.P own st a w o (.a v) := by
  have hm := Zb8 S hx
  have hkr := Zbv S hk
  unfold ZbP at he
  split at he
  · cases he
  · rename_i z hz
    obtain ⟨kt, e, zv, hu, hzv, hzr⟩ := Zpm hz
    have fin : ∀ (es : Array MapEntry) (q : Option AV), C.keyOk t kd = true → ((a.eval x = .map none ∧ es = #[]) ∨ ∃ b cl, a.eval x = .map (some b) ∧ w.heap[b]? = some (.map es cl)) →
        (∀ kind, KeyKind kind kd → C.P.underlying kt = some kind → (q = none ∧ Instr.findNow kind (a.eval k) es.toList 0 = some none) ∨ ∃ u j vv, q = some u ∧ Instr.findNow kind (a.eval k) es.toList 0 = some (some (j, vv)) ∧ ARep C.P w own st.heap vv u) →
        (match q with
          | some u => some (bif ok then ZbF [u, .d (.bool true)] else u)
          | none => some (.d (bif ok then .tup [z, .bool false] else z)) : Option AV) = some v → Good C.P own st a w o (.a v) := by
      intro es q hok hrun hfind hv
      obtain ⟨kt', e', kind, hu', hkind, hkk⟩ := Zjx hok
      rw [hu] at hu'
      simp only [Option.some.injEq, TypeDesc.map.injEq] at hu'
      obtain ⟨rfl, rfl⟩ := hu'
      have hck := MapKept.run_checkKey (P := C.P) (w := w) hkind (hkk.isKey hkr) es.isEmpty 9999
      have lk : ∀ r, (Instr.lookup t (a.eval x) (a.eval k) ok).run C.P w = .ok r w → ZhL C.P o a w r := by
        intro r hr
        simp only [ZhL, execOp, hop, Sem.run_bind, hr, Result.andThen_ok, Sem.run_pure]
      rcases hfind kind hkk hkind with ⟨rfl, hf⟩ | ⟨u, j, vv, rfl, hf, hrep⟩
      · simp only [Option.some.injEq] at hv
        subst hv
        have hfk := MapKept.run_findKey (P := C.P) (w := w) hkind hf
        refine ⟨if ok then .tuple #[zv, .bool false] else zv, lk _ ?_, fun _ => ?_⟩
        · unfold Instr.lookup
          rcases hrun with ⟨h1, rfl⟩ | ⟨b, cl, h1, h2⟩
          · simp only [Sem.run_bind, run_underlying hu, Result.andThen_ok, h1, hck, hfk, hzv, Sem.run_pure]
          · simp only [Sem.run_bind, run_underlying hu, Result.andThen_ok, h1, Zi8 h2, hck, hfk, hzv, Sem.run_pure]
        · cases ok
          · exact .d _ _ (hzr w own)
          · refine .d _ _ (.tup _ _ rfl fun i v x hv hx => ?_)
            match i with
            | 0 => simp at hv hx; subst hv; subst hx; exact hzr w own
            | 1 => simp at hv hx; subst hv; subst hx; exact .bool false
            | i + 2 => simp at hx
      · simp only [Option.some.injEq] at hv
        subst hv
        have hfk := MapKept.run_findKey (P := C.P) (w := w) hkind hf
        refine ⟨if ok then .tuple #[vv, .bool true] else vv, lk _ ?_, fun _ => ?_⟩
        · unfold Instr.lookup
          rcases hrun with ⟨h1, rfl⟩ | ⟨b, cl, h1, h2⟩
          · simp only [Sem.run_bind, run_underlying hu, Result.andThen_ok, h1, hck, hfk, Sem.run_pure]
          · simp only [Sem.run_bind, run_underlying hu, Result.andThen_ok, h1, Zi8 h2, hck, hfk, Sem.run_pure]
        · cases ok
          · exact hrep
          · exact Zo4 (cs := [vv, .bool true]) rfl fun i v x hv hx => by
              match i with
              | 0 => simp at hv hx; subst hv; subst hx; exact hrep
              | 1 => simp at hv hx; subst hv; subst hx; exact .d _ _ (.bool true)
              | i + 2 => simp at hx
    have close : ∀ (es : Array MapEntry) (q : Option AV), ((a.eval x = .map none ∧ es = #[]) ∨ ∃ b cl, a.eval x = .map (some b) ∧ w.heap[b]? = some (.map es cl)) →
        (∀ kind, KeyKind kind kd → C.P.underlying kt = some kind → (q = none ∧ Instr.findNow kind (a.eval k) es.toList 0 = some none) ∨ ∃ u j vv, q = some u ∧ Instr.findNow kind (a.eval k) es.toList 0 = some (some (j, vv)) ∧ ARep C.P w own st.heap vv u) →
        (match (some q : Option (Option AV)) with
          | some (some v) => bif C.keyOk t kd then some (bif ok then ZbF [v, .d (.bool true)] else v) else none
          | some none => bif C.keyOk t kd then some (.d (bif ok then .tup [z, .bool false] else z)) else none
          | none => none) = some v → Good C.P own st a w o (.a v) := by
      intro es q h1 h2 h3
      cases hok : C.keyOk t kd with
      | false => rw [hok] at h3; cases q <;> simp at h3
      | true =>
        rw [hok] at h3
        refine fin es q hok h1 h2 ?_
        cases q <;> simpa using h3
    cases m with
    | d md =>
      cases md with
      | nilm => exact close #[] none (.inl ⟨hm.d_inv.nilm_inv, rfl⟩) (fun kind hkk hkd => .inl ⟨rfl, rfl⟩) he
      | fmap es =>
        simp only at he
        cases hf : Zgb kd es with
        | none => rw [hf] at he; simp at he
        | some q =>
          rw [hf] at he
          have hd := hm.d_inv
          generalize hxv : a.eval x = xv at hd
          cases hd with
          | fmap b mm cl _ hb ho hst hl hkk hvv =>
            refine close mm (q.map .d) (.inr ⟨b, cl, hxv, hb⟩) (fun kind hkd hkind => ?_) he
            rcases ZlD (w := w) (own := own) (fun u (x : DV) => Rep w own u x) hkd hkr mm.toList es 0 q (by simpa using hl)
              (fun j e d he' hd' => ⟨hkk j e d (by simpa using he') hd', hvv j e d (by simpa using he') hd'⟩) hf with ⟨rfl, h⟩ | ⟨v', j, u, rfl, h, hr, _⟩
            · exact .inl ⟨rfl, h⟩
            · exact .inr ⟨.d v', _, u, rfl, h, .d _ _ hr⟩
      | _ => simp at he
    | mp id =>
      simp only at he
      cases ho : st.heap[id]? with
      | none => rw [ho] at he; simp at he
      | some ob =>
        rw [ho] at he
        cases ob with
        | map es =>
          simp only at he
          cases hf : Zgb kd es with
          | none => rw [hf] at he; simp at he
          | some q =>
            rw [hf] at he
            obtain ⟨_, hl, _⟩ := hm.mp_inv
            obtain ⟨b, hb, hv⟩ := hl es ho
            obtain ⟨mm, cl, hmm, _, hsz, hent⟩ := S.h.objAt ho hb
            refine close mm q (.inr ⟨b, cl, hv, hmm⟩) (fun kind hkd hkind => ?_) he
            rcases ZlD (w := w) (own := own) (fun u (x : AV) => ARep C.P w own st.heap u x) hkd hkr mm.toList es 0 q (by simpa using hsz)
              (fun j e d he' hd' => hent j e d (by simpa using he') hd') hf with ⟨rfl, h⟩ | ⟨v', j, u, rfl, h, hr, _⟩
            · exact .inl ⟨rfl, h⟩
            · exact .inr ⟨v', _, u, rfl, h, hr⟩
        | _ => simp at he
    | _ => simp at he
end
end Go.Abs
