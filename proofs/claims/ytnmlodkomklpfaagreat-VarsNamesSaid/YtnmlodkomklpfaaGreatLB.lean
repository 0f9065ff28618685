/- A certified evaluator for the walked functions, and their contracts, for the laws of the variables. -/
import Derived.Test.YtnmlodkomklpfaaGreatLA
import Derived.Laws.StructEq
import Derived.Laws.Cells
set_option linter.unusedVariables false
set_option linter.unusedSimpArgs false
namespace Go.Abs
theorem Zht {α β : Type} {f : α → Option β} {l : List α} {r : List β} (h : mapO f l = some r) :
    l.length = r.length ∧ ∀ (i : Nat) x y, l[i]? = some x → r[i]? = some y → f x = some y := by
  induction l generalizing r with
  | nil => simp only [mapO, Option.some.injEq] at h; subst h; simp
  | cons a l ih =>
    simp only [mapO] at h
    cases ha : f a with
    | none => rw [ha] at h; cases h
    | some b =>
      rw [ha] at h
      cases hl : mapO f l with
      | none => rw [hl] at h; cases h
      | some bs =>
        rw [hl] at h
        simp only [Option.some.injEq] at h
        subst h
        obtain ⟨h1, h2⟩ := ih hl
        refine ⟨by simp [h1], fun i x y hx hy => ?_⟩
        cases i with
        | zero => simp at hx hy; rw [← hx, ← hy, ha]
        | succ i => simp at hx hy; exact h2 i x y hx hy
section inv
variable {w : World} {own : Own} {v : Value}
theorem Rep.int_inv {k : IntKind} {n : Int} (h : Rep w own v (.int k n)) : v = .int k n := by cases h; rfl
theorem Rep.bool_inv {b : Bool} (h : Rep w own v (.bool b)) : v = .bool b := by cases h; rfl
theorem Rep.str_inv {l : List UInt8} (h : Rep w own v (.str l)) : ∃ s : ByteArray, v = .string s ∧ s.data.toList = l := by cases h with | str s => exact ⟨s, rfl, rfl⟩
theorem Rep.nilm_inv (h : Rep w own v .nilm) : v = .map none := by cases h; rfl
theorem Rep.agg_inv {ds : List DV} (h : Rep w own v (.agg ds)) : ∃ cs : Array Value, v = .agg cs ∧ cs.size = ds.length ∧
    (∀ (i : Nat) u, cs[i]? = some u → u.oneCell' = true) ∧ ∀ (i : Nat) u d, cs[i]? = some u → ds[i]? = some d → Rep w own u d := by
  cases h with | agg cs ds hl h1 h => exact ⟨cs, rfl, hl, h1, h⟩
theorem Rep.tup_inv {ds : List DV} (h : Rep w own v (.tup ds)) : ∃ cs : Array Value, v = .tuple cs ∧ cs.size = ds.length ∧
    ∀ (i : Nat) u d, cs[i]? = some u → ds[i]? = some d → Rep w own u d := by
  cases h with | tup cs ds hl h => exact ⟨cs, rfl, hl, h⟩
theorem Rep.slc_len {es : List DV} (h : Rep w own v (.slc es)) : ∃ base cap, v = .slice base es.length cap := by
  cases h with
  | slc0 a cap => exact ⟨a, cap, rfl⟩
  | slc b o cap sz es vs => exact ⟨_, _, rfl⟩
theorem Rep.slc_inv {es : List DV} (h : Rep w own v (.slc es)) (hne : es ≠ []) : ∃ (b o cap sz : Nat) (vs : Nat → Value), v = .slice (some ⟨b, o, none⟩) es.length cap ∧ es.length ≤ cap ∧ (∀ e ∈ es, e.cells.length = sz) ∧
    (∀ i, i < es.length * sz → w.cell? ⟨b, o + i, none⟩ = some (vs i)) ∧ (∀ i, i < es.length * sz → Zx8 own b (o + i)) ∧
    (∀ i, i < es.length * sz → (vs i).oneCell' = true) ∧ ∀ i d, (es.flatMap DV.cells)[i]? = some d → Rep w own (vs i) d := by
  cases h with
  | slc0 a cap => exact absurd rfl hne
  | slc b o cap sz es vs hcap hsz hc hp h1 hr => exact ⟨b, o, cap, sz, vs, rfl, hcap, hsz, hc, hp, h1, hr⟩
theorem ARep.d_inv {P : Program} {h : List AObj} {x : DV} (r : ARep P w own h v (.d x)) : Rep w own v x := by cases r; assumption
end inv
theorem ZuU {v : Value} {d : DV} (h : Zcg v = some d) : v.oneCell' = true := by
  cases v <;> simp [Zcg, Value.oneCell'] at h ⊢
theorem Zp1 {w : World} {own : Own} {v : Value} {d : DV} (h : Zcg v = some d) : Rep w own v d := by
  unfold Zcg at h
  split at h <;> first | (cases h; done) | (simp only [Option.some.injEq] at h; subst h; constructor)
theorem Zsx {w : World} {own : Own} {v : Value} {d : DV} (h : ZeT v = some d) : Rep w own v d := by
  cases v with
  | agg cs =>
    simp only [ZeT, Option.map_eq_some_iff] at h
    obtain ⟨ds, hd, rfl⟩ := h
    obtain ⟨hl, hg⟩ := Zht hd
    refine .agg cs ds (by simpa using hl) (fun i u hu => ?_) (fun i u x hu hx => ?_)
    · have hi : i < ds.length := by
        rw [← hl]; have := (Array.getElem?_eq_some_iff.1 hu).1; simpa using this
      exact ZuU (hg i u ds[i] (by simpa using hu) (List.getElem?_eq_getElem hi))
    · exact Zp1 (hg i u x (by simpa using hu) hx)
  | _ => exact Zp1 h
theorem Rep.cells {w : World} {own : Own} {v : Value} {d : DV} (h : Rep w own v d) :
    (∀ vs, d ≠ .tup vs) → v.cells.size = d.cells.length ∧ (∀ (i : Nat) u, v.cells[i]? = some u → u.oneCell' = true) ∧
      ∀ (i : Nat) u x, v.cells[i]? = some u → d.cells[i]? = some x → Rep w own u x := by
  intro ht
  have one : ∀ (v : Value) (d : DV), Rep w own v d → v.oneCell' = true → v.cells = #[v] → d.cells = [d] → v.cells.size = d.cells.length ∧
      (∀ (i : Nat) u, v.cells[i]? = some u → u.oneCell' = true) ∧ ∀ (i : Nat) u x, v.cells[i]? = some u → d.cells[i]? = some x → Rep w own u x := by
    intro v d h h1 hv hd
    rw [hv, hd]
    refine ⟨rfl, fun i u hu => ?_, fun i u x hu hx => ?_⟩
    · cases i with
      | zero => simp at hu; subst hu; exact h1
      | succ i => simp at hu
    · cases i with
      | zero => simp at hu hx; subst hu; subst hx; exact h
      | succ i => simp at hu
  cases h with
  | agg cs ds hl h1 h => exact ⟨hl, h1, h⟩
  | tup cs ds hl h => exact absurd rfl (ht ds)
  | bool b => exact one _ _ (.bool b) rfl rfl rfl
  | int k n => exact one _ _ (.int k n) rfl rfl rfl
  | str s => exact one _ _ (.str s) rfl rfl rfl
  | nilp => exact one _ _ .nilp rfl rfl rfl
  | nilm => exact one _ _ .nilm rfl rfl rfl
  | nilf => exact one _ _ .nilf rfl rfl rfl
  | nili => exact one _ _ .nili rfl rfl rfl
  | slc0 a cap => exact one _ _ (.slc0 a cap) rfl rfl rfl
  | slc b o cap sz es vs hcap hsz hc hp h1 hr => exact one _ _ (.slc b o cap sz es vs hcap hsz hc hp h1 hr) rfl rfl rfl
  | fmap b es clock ds hb ho hst hl hk hv => exact one _ _ (.fmap b es clock ds hb ho hst hl hk hv) rfl rfl rfl
  | fn f cs ds hl h => exact one _ _ (.fn f cs ds hl h) rfl rfl rfl
  | iface t v d h => exact one _ _ (.iface t v d h) rfl rfl rfl
section
variable {P : Program} {fa : FA} {own : Own} {st : St} {a : Act} {w : World}
def VRel (P : Program) (w : World) (own : Own) (st : St) (a : Act) (v : Value) (x : XV) : Prop :=
  ∀ t, XRel P w own st.heap st.env (fun s => a.tmps.getD s undef) t v x
theorem Zkw (a : Act) (t : Nat) : a.eval (.tmp t) = a.tmps.getD t undef := rfl
theorem ZwM (S : SRel P fa own st a w) {x : Operand} {y : XV} (h : opx st x = some y) : VRel P w own st a (a.eval x) y := by
  cases x with
  | tmp t =>
    simp only [opx] at h
    rw [Zkw]
    cases ht : Zab st.tmp t with
    | some z =>
      rw [ht] at h
      simp only [Option.some.injEq] at h
      subst h
      have hr := S.tmp t z ht
      intro t'
      cases z with
      | own es => exact .d _ _ (OwnRel.rep hr)
      | a _ => exact hr
      | sp _ _ => exact hr
      | fp _ => exact hr
      | ap _ _ _ _ => exact hr
      | al _ _ => exact hr
      | un => exact hr
    | none =>
      rw [ht] at h
      simp only at h
      cases he : Zab st.env t with
      | none => rw [he] at h; cases h
      | some sv =>
        rw [he] at h
        have hr := S.env t sv he
        cases sv with
        | val v => simp only [Option.some.injEq] at h; subst h; exact fun _ => hr
        | own es =>
          simp only [Option.some.injEq] at h
          subst h
          exact fun _ => ⟨OwnRel.rep hr, fun es' hes => by rw [he] at hes; simp only [Option.some.injEq, SV.own.injEq] at hes; exact ⟨hes.symm, rfl⟩⟩
        | box cs =>
          simp only [Option.some.injEq] at h
          subst h
          obtain ⟨b, c, T, fr, h1, h2, _⟩ := hr
          exact fun _ => ⟨b, h1, h2⟩
  | const v =>
    simp only [opx] at h
    cases hc : ZeT v with
    | none => rw [hc] at h; cases h
    | some d =>
      rw [hc] at h
      simp only [Option.some.injEq] at h
      subst h
      exact fun _ => .d _ _ (Zsx hc)
  | func f =>
    simp only [opx, Option.some.injEq] at h
    subst h
    exact fun _ => .d _ _ (.fn f #[] [] rfl (fun i v d hv => by simp at hv))
  | global g => simp [opx] at h
theorem ZyZ {v : Value} {x : XV} (h : VRel P w own st a v x) : VRel P w own st a v x.flat := by
  cases x with
  | own es => exact fun t => .d _ _ (OwnRel.rep (h t))
  | al s es => exact fun t => .d _ _ (h t).1
  | _ => exact h
theorem Zf0 (S : SRel P fa own st a w) {x : Operand} {y : XV} (h : opd st x = some y) : VRel P w own st a (a.eval x) y := by
  unfold opd at h
  cases hx : opx st x with
  | none => rw [hx] at h; cases h
  | some z =>
    rw [hx] at h
    simp only [Option.some.injEq] at h
    subst h
    exact ZyZ (ZwM S hx)
theorem Zb8 (S : SRel P fa own st a w) {x : Operand} {v : AV} (h : opA st x = some v) : ARep P w own st.heap (a.eval x) v := by
  unfold opA at h
  split at h
  · rename_i u hu
    simp only [Option.some.injEq] at h
    subst h
    exact Zf0 S hu 0
  · cases h
theorem Zbv (S : SRel P fa own st a w) {x : Operand} {v : DV} (h : opD st x = some v) : Rep w own (a.eval x) v := by
  unfold opD at h
  split at h
  · rename_i u hu
    simp only [Option.some.injEq] at h
    subst h
    exact ARep.d_inv (Zf0 S hu 0)
  · cases h
theorem ZmA (S : SRel P fa own st a w) {xs : List Operand} {vs : List AV} (h : ZaL st xs = some vs) : xs.length = vs.length ∧
    ∀ (i : Nat) x v, xs[i]? = some x → vs[i]? = some v → ARep P w own st.heap (a.eval x) v := by
  induction xs generalizing vs with
  | nil => simp only [ZaL, Option.some.injEq] at h; subst h; simp
  | cons x xs ih =>
    simp only [ZaL] at h
    cases hx : opA st x with
    | none => rw [hx] at h; cases h
    | some v =>
      rw [hx] at h
      cases hr : ZaL st xs with
      | none => rw [hr] at h; cases h
      | some us =>
        rw [hr] at h
        simp only [Option.some.injEq] at h
        subst h
        obtain ⟨h1, h2⟩ := ih hr
        refine ⟨by simp [h1], fun i y u hy hu => ?_⟩
        cases i with
        | zero => simp at hy hu; subst hy; subst hu; exact Zb8 S hx
        | succ i => simp at hy hu; exact h2 i y u hy hu
theorem ZkT (S : SRel P fa own st a w) {xs : List (Nat × Operand)} {vs : List (Nat × DV)} (h : ZaE st xs = some vs) : xs.length = vs.length ∧
    ∀ (i : Nat) x v, xs[i]? = some x → vs[i]? = some v → x.1 = v.1 ∧ Rep w own (a.eval x.2) v.2 := by
  induction xs generalizing vs with
  | nil => simp only [ZaE, Option.some.injEq] at h; subst h; simp
  | cons x xs ih =>
    obtain ⟨k, x⟩ := x
    simp only [ZaE] at h
    cases hx : opD st x with
    | none => rw [hx] at h; cases h
    | some v =>
      rw [hx] at h
      cases hr : ZaE st xs with
      | none => rw [hr] at h; cases h
      | some us =>
        rw [hr] at h
        simp only [Option.some.injEq] at h
        subst h
        obtain ⟨h1, h2⟩ := ih hr
        refine ⟨by simp [h1], fun i y u hy hu => ?_⟩
        cases i with
        | zero => simp at hy hu; subst hy; subst hu; exact ⟨rfl, Zbv S hx⟩
        | succ i => simp at hy hu; exact h2 i y u hy hu
end
end Go.Abs
namespace Go.Abs
def ZhL (P : Program) (o : Oper) (a : Act) (w : World) (v : Value) : Prop := (execOp a.eval o).run P w = .ok (.value v) w
def Good (P : Program) (own : Own) (st : St) (a : Act) (w : World) (o : Oper) (x : XV) : Prop := ∃ v, ZhL P o a w v ∧ VRel P w own st a v x
theorem ZeR {P : Program} {own : Own} {st : St} {a : Act} {w : World} {o : Oper} {d : DV} {v : Value} (h : ZhL P o a w v) (r : Rep w own v d) :
    Good P own st a w o (.a (.d d)) := ⟨v, h, fun _ => .d _ _ r⟩
section
variable {C : Ctx} {call : Zaa} {fa : FA} {own : Own} {st : St} {a : Act} {w : World} {o : Oper}
theorem ARep.ptr_inv {P : Program} {h : List AObj} {v : Value} {id off : Nat} (r : ARep P w own h v (.ptr id off)) : id < h.length ∧
    (∀ cs, h[id]? = some (.var cs) → ∃ b, own b = some (.obj id, 0) ∧ v = .pointer (some ⟨b, off, none⟩)) ∧ ∃ b o, v = .pointer (some ⟨b, o, none⟩) := by
  cases r with | ptr v id off hid hl hv => exact ⟨hid, hl, hv⟩
theorem ARep.tup_inv {P : Program} {h : List AObj} {v : Value} {as : List AV} (r : ARep P w own h v (.tup as)) : ∃ cs : Array Value, v = .tuple cs ∧ cs.size = as.length ∧
    ∀ (i : Nat) u x, cs[i]? = some u → as[i]? = some x → ARep P w own h u x := by
  cases r with | tup cs as hl hh => exact ⟨cs, rfl, hl, hh⟩
theorem ARep.mp_inv {P : Program} {h : List AObj} {v : Value} {id : Nat} (r : ARep P w own h v (.mp id)) : id < h.length ∧
    (∀ es, h[id]? = some (.map es) → ∃ b, own b = some (.obj id, 0) ∧ v = .map (some b)) ∧ ∃ b, v = .map (some b) := by
  cases r with | mp v id hid hl hv => exact ⟨hid, hl, hv⟩
theorem ARep.osl_inv {P : Program} {h : List AObj} {v : Value} {id g n : Nat} (r : ARep P w own h v (.osl id g n)) : id < h.length ∧ (∃ base cap, v = .slice base n cap) ∧
    (∀ g' ap es, h[id]? = some (.arr g' ap es) → g ≤ g') ∧
    ∀ ap es, h[id]? = some (.arr g ap es) → ∃ b cap c T fr i, v = .slice (some ⟨b, 0, none⟩) n cap ∧ own b = some (.obj id, 0) ∧
        w.heap[b]? = some (.cells c T fr) ∧ P.info? T = some i ∧ c.size = cap * i.size := by
  cases r with | osl v id g n hid hv hg hl => exact ⟨hid, hv, hg, hl⟩
theorem ZqN (S : SRel C.P fa own st a w) {x : Operand} {y : XV} (hop : o.op = .move x ∨ o.op = .assign x) (he : opx st x = some y) : Good C.P own st a w o y :=
  ⟨a.eval x, by rcases hop with hop | hop <;> simp [ZhL, execOp, hop], ZwM S he⟩
theorem ZvH (S : SRel C.P fa own st a w) {c x y : Operand} {t : Bool} {z : XV} (hop : o.op = .pick c x y) (hc : opD st c = some (.bool t))
    (he : (bif t then opd st x else opd st y) = some z) : Good C.P own st a w o z := by
  have hb := (Zbv S hc).bool_inv
  refine ⟨if t then a.eval x else a.eval y, by simp [ZhL, execOp, hop, hb, asBool], ?_⟩
  cases t
  · exact Zf0 S he
  · exact Zf0 S he
theorem ZnI (S : SRel C.P fa own st a w) {x : Operand} {y z : XV} (hop : o.op = .nilCheck x) (hx : opd st x = some y) (he : Zoa y = some z) :
    Good C.P own st a w o z := by
  have hr := Zf0 S hx
  have key : (∃ p, a.eval x = .pointer (some p)) → ZhL C.P o a w (a.eval x) := by
    rintro ⟨p, hp⟩
    simp [ZhL, execOp, hop, hp]
  unfold Zoa at he
  split at he <;> first | (cases he; done) | (simp only [Option.some.injEq] at he; subst he)
  · refine ⟨a.eval x, key ?_, hr⟩
    obtain ⟨_, _, b, o', hb⟩ := ARep.ptr_inv (hr 0)
    exact ⟨_, hb⟩
  · obtain ⟨b, h1, h2⟩ := hr 0
    exact ⟨a.eval x, key ⟨_, h2⟩, hr⟩
  · obtain ⟨_, ⟨b, o', h2⟩, _⟩ := hr 0
    exact ⟨a.eval x, key ⟨_, h2⟩, hr⟩
  · obtain ⟨b, _, h2, _⟩ := hr 0
    exact ⟨a.eval x, key ⟨_, h2⟩, hr⟩
theorem Zwu (S : SRel C.P fa own st a w) {op : UnOp} {t : TypeId} {x : Operand} {u d : DV} (hop : o.op = .unOp op t x) (hx : opD st x = some u)
    (he : dUn op u = some d) : Good C.P own st a w o (.a (.d d)) := by
  have hr := Zbv S hx
  cases u <;> simp only [dUn] at he <;> try (cases he; done)
  case int k n =>
    split at he <;> simp at he
    subst he
    exact ZeR (by simp [ZhL, execOp, hop, hr.int_inv, Op.unary, Op.intArith]) (.int _ _)
  case bool b =>
    split at he <;> simp at he
    subst he
    exact ZeR (by simp [ZhL, execOp, hop, hr.bool_inv, Op.unary]) (.bool _)
theorem Zpo (S : SRel C.P fa own st a w) {x : Operand} {i : Nat} {u v : AV} (hop : o.op = .extract x i) (hx : opA st x = some u)
    (he : Zam u i = some v) : Good C.P own st a w o (.a v) := by
  have hr := Zb8 S hx
  cases u with
  | d x0 =>
    cases x0 with
    | tup vs =>
      simp only [Zam, Option.map_eq_some_iff] at he
      obtain ⟨d, hd, rfl⟩ := he
      obtain ⟨cs, hv, hl, hh⟩ := hr.d_inv.tup_inv
      have hi : i < vs.length := (List.getElem?_eq_some_iff.1 hd).1
      have hc : cs[i]? = some (cs[i]'(by omega)) := Array.getElem?_eq_getElem (by omega)
      exact ZeR (by simp only [ZhL, execOp, hop, hv, Instr.extract, hc]; rfl) (hh i _ _ hc hd)
    | _ => simp [Zam] at he
  | tup vs =>
    simp only [Zam] at he
    obtain ⟨cs, hv, hl, hh⟩ := hr.tup_inv
    have hi : i < vs.length := (List.getElem?_eq_some_iff.1 he).1
    have hc : cs[i]? = some (cs[i]'(by omega)) := Array.getElem?_eq_getElem (by omega)
    exact ⟨cs[i]'(by omega), by simp only [ZhL, execOp, hop, hv, Instr.extract, hc]; rfl, fun _ => hh i _ _ hc he⟩
  | _ => simp [Zam] at he
end
section
variable {C : Ctx}
theorem ZgM {t : TypeId} {b : Bool} (h : C.isAgg t = some b) (w : World) : (isAgg t).run C.P w = .ok b w := by
  unfold Ctx.isAgg at h
  split at h
  · rename_i fs hu; simp only [Option.some.injEq] at h; subst h; simp [isAgg, run_underlying hu]
  · rename_i n e hu; simp only [Option.some.injEq] at h; subst h; simp [isAgg, run_underlying hu]
  · rename_i d h1 h2 hu
    simp only [Option.some.injEq] at h
    subst h
    simp only [isAgg, Sem.run_bind, run_underlying hu, Result.andThen_ok]
    rfl
  · cases h
theorem ZnU {t : TypeId} {n : Nat} (h : C.size t = some n) (w : World) : (sizeOf t).run C.P w = .ok n w := by
  unfold Ctx.size at h
  simp only [Option.map_eq_some_iff] at h
  obtain ⟨i, hi, rfl⟩ := h
  simp [sizeOf, typeInfo, hi]
theorem Zec {t : TypeId} {n : Nat} (h : C.elemSize t = some n) : ∃ e i, C.P.underlying t = some (.slice e) ∧ C.P.info? e = some i ∧ i.size = n := by
  unfold Ctx.elemSize at h
  split at h
  · rename_i e hu
    simp only [Option.map_eq_some_iff] at h
    obtain ⟨i, hi, rfl⟩ := h
    exact ⟨e, i, hu, hi, rfl⟩
  · cases h
theorem Zcl {t : TypeId} (h : C.isStr t = true) : C.P.underlying t = some .string := by
  unfold Ctx.isStr at h; split at h <;> first | assumption | cases h
theorem ZkO {t : TypeId} (h : C.isBool t = true) : C.P.underlying t = some .bool := by
  unfold Ctx.isBool at h; split at h <;> first | assumption | cases h
theorem ZdO {t : TypeId} (h : C.isMap t = true) : ∃ k e, C.P.underlying t = some (.map k e) := by
  unfold Ctx.isMap at h; split at h <;> first | exact ⟨_, _, by assumption⟩ | cases h
theorem Zqy {t : TypeId} {k : IntKind} (h : C.intKind t = some k) : C.P.underlying t = some (.int k) := by
  unfold Ctx.intKind at h
  split at h
  · rename_i k' hu; simp only [Option.some.injEq] at h; subst h; exact hu
  · cases h
theorem ZgL {t : TypeId} (h : C.isBytes t = true) : ∃ e, C.P.underlying t = some (.slice e) ∧ C.P.underlying e = some (.int .u8) := by
  unfold Ctx.isBytes at h
  split at h
  · rename_i e hu
    split at h
    · rename_i hu'; exact ⟨e, hu, hu'⟩
    · cases h
  · cases h
theorem ZmI {t : TypeId} {f : Nat} {fd : Field} (h : C.field t f = some fd) : ∃ fs, C.P.underlying t = some (.struct fs) ∧ fs[f]? = some fd := by
  unfold Ctx.field at h
  split at h
  · rename_i fs hu; exact ⟨fs, hu, h⟩
  · cases h
theorem ZpS {t : TypeId} (h : C.hasSize t = true) : ∃ i, C.P.info? t = some i ∧ 0 < i.size := by
  unfold Ctx.hasSize at h
  split at h
  · rename_i i hi; exact ⟨i, hi, by simpa [Nat.blt_eq] using h⟩
  · cases h
theorem Zin {t : TypeId} {d : DV} (h : C.zero t = some d) : ∃ z, (∀ w, (zeroValue t).run C.P w = .ok z w) ∧ (∃ i, C.P.info? t = some i ∧ i.zero = some z) ∧ ∀ w own, Rep w own z d := by
  unfold Ctx.zero at h
  cases hi : C.P.info? t with
  | none => simp [hi] at h
  | some i =>
    cases hz : i.zero with
    | none => simp [hi, hz] at h
    | some z =>
      simp only [hi, hz, Option.bind_some] at h
      exact ⟨z, fun w => by simp [zeroValue, typeInfo, hi, hz], ⟨i, rfl, hz⟩, fun w own => Zsx h⟩
variable {w : World} {own : Own}
theorem ZwR {cs : Array Value} {ds : List DV} (hl : cs.size = ds.length) (h : ∀ (i : Nat) u x, cs[i]? = some u → ds[i]? = some x → Rep w own u x)
    {i : Nat} {x : DV} (hx : ds[i]? = some x) : ∃ u, cs[i]? = some u ∧ Rep w own u x := by
  have hi : i < ds.length := (List.getElem?_eq_some_iff.1 hx).1
  exact ⟨cs[i]'(by omega), Array.getElem?_eq_getElem (by omega), h i _ _ (Array.getElem?_eq_getElem (by omega)) hx⟩
theorem Zoh {t : TypeId} {off : Nat} {cs : Array Value} {ds : List DV} {d : DV} (hl : cs.size = ds.length)
    (h1 : ∀ (i : Nat) u, cs[i]? = some u → u.oneCell' = true)
    (h : ∀ (i : Nat) u x, cs[i]? = some u → ds[i]? = some x → Rep w own u x) (he : ZaF C t (ds.drop off) = some d) :
    ∃ v, (part t cs off).run C.P w = .ok v w ∧ Rep w own v d := by
  unfold ZaF at he
  split at he
  · rename_i ha
    split at he
    · rename_i n hn
      cases hb : Nat.ble n (ds.drop off).length with
      | false => rw [hb] at he; cases he
      | true =>
        rw [hb] at he
        simp only [cond_true, Option.some.injEq] at he
        subst he
        have hle : n ≤ ds.length - off := by simpa [Nat.ble_eq] using hb
        refine ⟨.agg (cs.extract off (off + n)), by simp [part, ZgM ha, ZnU hn], .agg _ _ ?_ ?_ ?_⟩
        · simp only [Array.size_extract, List.length_take, List.length_drop, hl]
          omega
        · intro i u hu
          rw [Array.getElem?_extract] at hu
          split at hu
          · exact h1 _ _ hu
          · cases hu
        · intro i u x hu hx
          rw [Array.getElem?_extract] at hu
          rw [List.getElem?_take] at hx
          split at hx
          · split at hu
            · rw [List.getElem?_drop] at hx; exact h _ _ _ hu hx
            · cases hu
          · cases hx
    · cases he
  · rename_i ha
    split at he
    · rename_i v r hd
      simp only [Option.some.injEq] at he
      subst he
      have hx : ds[off]? = some v := by
        have := congrArg (fun l => l[0]?) hd
        simpa using this
      obtain ⟨u, hu, hr⟩ := ZwR hl h hx
      exact ⟨u, by simp [part, ZgM ha, hu], hr⟩
    · cases he
  · cases he
theorem Zsa : ∀ (d D : Nat), d ≤ D → ∀ {t : TypeId} {x y : DV} {u v : Value} {b : Bool}, Zmw C d t x y = some b → Rep w own u x → Rep w own v y →
    (Op.equalIn D t u v).run C.P w = .ok b w := by
  intro d
  induction d with
  | zero => intro D _ t x y u v b h; simp [Zmw] at h
  | succ d ih =>
    intro D hD t x y u v b h hu hv
    obtain ⟨D, rfl⟩ : ∃ E, D = E + 1 := ⟨D - 1, by omega⟩
    unfold Zmw at h
    split at h
    · rename_i k k1 a k2 b' ht
      split at h
      · rename_i hk
        simp only [Option.some.injEq] at h
        subst h; subst hk
        rw [hu.int_inv, hv.int_inv]
        exact run_equalIn_int w D t k1 k a b' ht
      · cases h
    · rename_i a b' ht
      simp only [Option.some.injEq] at h
      subst h
      obtain ⟨s1, rfl, rfl⟩ := hu.str_inv
      obtain ⟨s2, rfl, rfl⟩ := hv.str_inv
      rw [run_equalIn_string w D t s1 s2 ht, ByteArray.toList_eq, ByteArray.toList_eq]
    · rename_i a b' ht
      simp only [Option.some.injEq] at h
      subst h
      rw [hu.bool_inv, hv.bool_inv]
      exact run_equalIn_bool' w D t a b' ht
    · rename_i fs xs ys ht
      cases hs : C.P.stoodInHeld t with
      | true => rw [hs] at h; cases h
      | false =>
        rw [hs] at h
        simp only [cond_false] at h
        obtain ⟨cs, rfl, hl1, ho1, hr1⟩ := hu.agg_inv
        obtain ⟨es, rfl, hl2, ho2, hr2⟩ := hv.agg_inv
        have hf : C.P.fieldsOf t = fs := by simp [Program.fieldsOf, ht]
        rw [run_equalIn_struct w D t cs es (by rw [hf, ht]) hs, hf]
        generalize fs.toList = l at h
        clear ht hf
        induction l with
        | nil => simp only [ZgW, Option.some.injEq] at h; subst h; simp [Op.eqFields]
        | cons f l ihl =>
          simp only [ZgW] at h
          by_cases hn : f.name ≠ "_"
          · rw [if_pos hn] at h
            split at h
            · rename_i a b' ha hb
              obtain ⟨va, hva, hra⟩ := Zoh hl1 ho1 hr1 ha
              obtain ⟨vb, hvb, hrb⟩ := Zoh hl2 ho2 hr2 hb
              simp only [Op.eqFields, if_pos hn, Sem.run_bind, hva, hvb, Result.andThen_ok]
              cases he : Zmw C d f.type a b' with
              | none => rw [he] at h; cases h
              | some r =>
                rw [he] at h
                rw [ih D (by omega) he hra hrb]
                cases r with
                | true => simp only at h; simp only [Result.andThen_ok, Bool.not_true, Bool.false_eq_true, if_false]; exact ihl h
                | false => simp only [Option.some.injEq] at h; subst h; simp
            · cases h
          · rw [if_neg hn] at h
            simp only [Op.eqFields, if_neg hn]
            exact ihl h
    · cases h
theorem Zpq {t k e : TypeId} (ht : C.P.underlying t = some (.map k e)) (D : Nat) (b : Option Nat) (w : World) :
    (Op.equalIn (D + 1) t (.map b) (.map none)).run C.P w = .ok b.isNone w := by
  cases b <;> simp only [Op.equalIn, Sem.run_bind, run_underlying ht, Result.andThen_ok] <;> rfl
theorem Zm7 {t k e : TypeId} (ht : C.P.underlying t = some (.map k e)) (b : Option Nat) (w : World) :
    (Op.equal t (.map b) (.map none)).run C.P w = .ok b.isNone w := Zpq ht 9999 b w
theorem ZeQ {t k e : TypeId} (ht : C.P.underlying t = some (.map k e)) (b : Option Nat) (w : World) :
    (binOp .eql t (.map b) (.map none)).run C.P w = .ok (.bool b.isNone) w := by
  simp only [binOp, Sem.run_bind, Zm7 ht, Result.andThen_ok, Sem.run_pure]
theorem ZeM {t k e : TypeId} (ht : C.P.underlying t = some (.map k e)) (b : Option Nat) (w : World) :
    (binOp .neq t (.map b) (.map none)).run C.P w = .ok (.bool (!b.isNone)) w := by
  simp only [binOp, Sem.run_bind, Zm7 ht, Result.andThen_ok, Sem.run_pure]
theorem ZxW {op : BinOp} {t : TypeId} {x y : DV} {d : DV} {u v : Value} (hu : Rep w own u x) (hv : Rep w own v y) (h : Zep C op t x y = some d)
    (xo yo : Operand) : ∃ r, (do eqGuard op t xo yo u v; binOp op t u v : Sem Value).run C.P w = .ok r w ∧ Rep w own r d := by
  unfold Zep at h
  split at h
  · rename_i k a k' b
    rw [hu.int_inv, hv.int_inv]
    simp only [eqGuard_at_int]
    split at h
    · split at h
      · cases h
      · rename_i hb
        simp only [Option.some.injEq] at h
        subst h
        exact ⟨_, by simp [binOp, Op.shift, hb], .int _ _⟩
    · split at h
      · cases h
      · rename_i hb
        simp only [Option.some.injEq] at h
        subst h
        exact ⟨_, by simp [binOp, Op.shift, hb], .int _ _⟩
    · rename_i hs1 hs2
      split at h
      · rename_i hk
        subst hk
        cases op <;> simp only [ZfC] at h <;> try (cases h; done)
        all_goals try (split at h; · cases h)
        all_goals
          simp only [Option.some.injEq] at h
          subst h
          first
            | (have hb : ¬ b = 0 := by assumption
               refine ⟨_, ?_, .int _ _⟩
               simp [binOp, Op.intDiv, hb]; done)
            | (refine ⟨_, ?_, .int _ _⟩
               simp [binOp, Op.intArith, Op.intBits]; done)
            | (refine ⟨_, ?_, .bool _⟩
               simp [binOp, Op.intCmp]; done)
      · cases h
  · rename_i a b
    obtain ⟨s1, rfl, rfl⟩ := hu.str_inv
    obtain ⟨s2, rfl, rfl⟩ := hv.str_inv
    simp only [eqGuard_at_string]
    split at h
    · cases hb : Nat.ble (s1.data.toList.length + s2.data.toList.length) (2 ^ 40) with
      | false => rw [hb] at h; cases h
      | true =>
        rw [hb] at h
        simp only [cond_true, Option.some.injEq] at h
        subst h
        have hle : s1.size + s2.size ≤ 2 ^ 40 := by
          have := Nat.le_of_ble_eq_true hb
          simp only [Array.length_toList] at this
          exact this
        refine ⟨.string (s1 ++ s2), ?_, ?_⟩
        · simp only [binOp, Op.stringOp]
          rw [if_neg (by simp only [IntKind.max_i64]; omega)]
          simp
        · have := Rep.str (w := w) (own := own) (s1 ++ s2)
          simpa [ByteArray.data_append] using this
    · rename_i hne
      cases op <;> simp only [dCmp, Option.some.injEq] at h <;> try (cases h; done)
      all_goals
        first
          | exact absurd rfl hne
          | (subst h
             exact ⟨_, by simp [binOp, Op.stringOp, ByteArray.toList_eq], .bool _⟩)
  · rename_i a b
    rw [hu.bool_inv, hv.bool_inv]
    simp only [eqGuard_at_bool]
    split at h
    · rename_i hb
      simp only [Option.some.injEq] at h
      subst h
      refine ⟨_, ?_, .bool _⟩
      simp only [binOp, Op.equal, Op.maxDepth, Sem.run_bind, Sem.run_pure, Result.andThen_ok, run_equalIn_bool' w 9999 t a b (ZkO hb)]
    · rename_i hb
      simp only [Option.some.injEq] at h
      subst h
      refine ⟨_, ?_, .bool _⟩
      simp only [binOp, Op.equal, Op.maxDepth, Sem.run_bind, Sem.run_pure, Result.andThen_ok, run_equalIn_bool' w 9999 t a b (ZkO hb)]
      cases a <;> cases b <;> rfl
    · cases h
  · rename_i xs ys
    cases hg : C.P.eqGuardType C.P.depth t with
    | true => rw [hg] at h; cases h
    | false =>
      rw [hg] at h
      simp only [cond_false] at h
      obtain ⟨cs, rfl, _⟩ := hu.agg_inv
      obtain ⟨es, rfl, _⟩ := hv.agg_inv
      split at h
      · rename_i b he
        simp only [Option.some.injEq] at h
        subst h
        refine ⟨_, ?_, .bool _⟩
        simp only [Sem.run_bind, run_eqGuard_agg w _ t xo yo cs es hg, Result.andThen_ok, run_eql_struct, Zsa 100 10000 (by omega) he hu hv]
      · rename_i b he
        simp only [Option.some.injEq] at h
        subst h
        refine ⟨_, ?_, .bool _⟩
        simp only [Sem.run_bind, run_eqGuard_agg w _ t xo yo cs es hg, Result.andThen_ok, run_neq_struct, Zsa 100 10000 (by omega) he hu hv]
      · cases h
  · rename_i es
    rw [hv.nilm_inv]
    cases hu with
    | fmap b m cl ds hb ho hst hl hk hv' =>
      simp only [eqGuard_at_map]
      split at h
      · rename_i hm
        obtain ⟨k, e, ht⟩ := ZdO hm
        simp only [Option.some.injEq] at h
        subst h
        exact ⟨.bool false, by simp only [Sem.run_bind, Sem.run_pure, Result.andThen_ok]; first | exact ZeQ ht _ w | exact ZeM ht _ w, .bool _⟩
      · rename_i hm
        obtain ⟨k, e, ht⟩ := ZdO hm
        simp only [Option.some.injEq] at h
        subst h
        exact ⟨.bool true, by simp only [Sem.run_bind, Sem.run_pure, Result.andThen_ok]; first | exact ZeQ ht _ w | exact ZeM ht _ w, .bool _⟩
      · cases h
  · rw [hu.nilm_inv, hv.nilm_inv]
    simp only [eqGuard_at_map]
    split at h
    · rename_i hm
      obtain ⟨k, e, ht⟩ := ZdO hm
      simp only [Option.some.injEq] at h
      subst h
      exact ⟨.bool true, by simp only [Sem.run_bind, Sem.run_pure, Result.andThen_ok]; first | exact ZeQ ht _ w | exact ZeM ht _ w, .bool _⟩
    · rename_i hm
      obtain ⟨k, e, ht⟩ := ZdO hm
      simp only [Option.some.injEq] at h
      subst h
      exact ⟨.bool false, by simp only [Sem.run_bind, Sem.run_pure, Result.andThen_ok]; first | exact ZeQ ht _ w | exact ZeM ht _ w, .bool _⟩
    · cases h
  · cases h
end
end Go.Abs
