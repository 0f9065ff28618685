/- A certified evaluator for the walked functions, and their contracts, for the laws of the variables. -/
import Derived.Test.YtnmlodkomklpfaaGreatLD
import Derived.Lib.ConvBytes
import Derived.Laws.MakeOwn
import Derived.Laws.OwnMore
import Derived.MapKept
import Derived.Deep.Quiet
set_option linter.unusedVariables false
set_option linter.unusedSimpArgs false
namespace Go.Abs
section
variable {C : Ctx} {call : Zaa} {fa : FA} {own own' : Own} {st st' : St} {a : Act} {w w' : World} {o : Oper}
theorem ZdR {t : TypeId} {sz : Nat} (hs : C.elemSize t = some sz) (h : C.elemOk t sz = true) : ∃ e i z zd, C.P.underlying t = some (.slice e) ∧ C.P.info? e = some i ∧ i.size = sz ∧ i.zero = some z ∧
    z.cells.size = sz ∧ 0 < sz ∧ C.elemZero t = some zd ∧ zd.cells.length = sz ∧ ∀ w own, CellsRel w own z.cells zd.cells := by
  obtain ⟨e, i, hu, hi, rfl⟩ := Zec hs
  unfold Ctx.elemOk at h
  split at h
  · rename_i zd hz
    simp only [Bool.and_eq_true] at h
    obtain ⟨⟨h1, h2⟩, h3⟩ := h
    have hz' : C.zero e = some zd := by
      unfold Ctx.elemZero at hz
      simp only [hu] at hz
      exact hz
    obtain ⟨z, _, ⟨i', hi', hz2⟩, hr⟩ := Zin hz'
    rw [hi] at hi'
    simp only [Option.some.injEq] at hi'
    subst hi'
    have hc : ∀ w own, CellsRel w own z.cells zd.cells := fun w own => .of (hr w own) h2
    have hl : zd.cells.length = i.size := Nat.eq_of_beq_eq_true h1
    exact ⟨e, i, z, zd, hu, hi, rfl, hz2, by rw [(hc default (fun _ => none)).len, hl], by simpa [Nat.blt_eq] using h3, hz, hl, hc⟩
  · cases h
theorem ZdN {t : TypeId} {n : Nat} {e : TypeId} {i : TypeInfo} (hu : C.P.underlying t = some (.slice e)) (hi : C.P.info? e = some i) (h : ZbL C t n = true) :
    n * i.bytes ≤ 2 ^ 47 ∧ n ≤ 2 ^ 47 := by
  unfold ZbL at h
  split at h
  · rename_i b hb
    have : b = i.bytes := by
      unfold Ctx.elemBytes at hb
      simp only [hu, hi, Option.map_some, Option.some.injEq] at hb
      exact hb.symm
    subst this
    simp only [Bool.and_eq_true] at h
    exact ⟨Nat.le_of_ble_eq_true h.1, Nat.le_of_ble_eq_true h.2⟩
  · cases h
theorem Zu4 (S : SRel C.P fa own st a w) {t : TypeId} {l c : Operand} {z : DV} {sz : Nat} {k1 k2 : IntKind} {n : Int} (hop : o.op = .makeSlice t l c) (hz : C.elemZero t = some z) (hsz : C.elemSize t = some sz)
    (hl : opD st l = some (.int k1 n)) (hc : opD st c = some (.int k2 n)) (h0 : 0 ≤ n) (hr : ZbL C t n.toNat = true) (hok : C.elemOk t sz = true) : GoodW C.P own st a w o (.a (.d (.slc (List.replicate n.toNat z)))) := by
  obtain ⟨e, i, zv, zd, hu, hi, rfl, hiz, hzs, hpos, hz2, hzl, hzr⟩ := ZdR hsz hok
  rw [hz] at hz2
  simp only [Option.some.injEq] at hz2
  subst hz2
  obtain ⟨r1, r2⟩ := ZdN hu hi hr
  have hlv := (Zbv S hl).int_inv
  have hcv := (Zbv S hc).int_inv
  have hnn : (n.toNat : Int) = n := Int.toNat_of_nonneg h0
  have hbytes : (i.bytes : Int) * n ≤ 281474976710656 := by
    have : ((n.toNat * i.bytes : Nat) : Int) ≤ ((2 ^ 47 : Nat) : Int) := Int.ofNat_le.2 r1
    rw [Int.natCast_mul, hnn, Int.mul_comm] at this
    omega
  have hrun := run_make (P := C.P) w t e i zv hu hi hiz k1 k2 n n h0 (Int.le_refl _) hbytes (by omega)
  have g := Grow.alloc w (.cells (madeCells zv.cells (n.toNat * i.size)) e)
  have hget : ∀ j, j < n.toNat * i.size → ∃ u, (madeCells zv.cells (n.toNat * i.size))[j]? = some u ∧ zv.cells[j % i.size]? = some u := by
    intro j hj
    have hm : j % i.size < zv.cells.size := by rw [hzs]; exact Nat.mod_lt _ hpos
    refine ⟨zv.cells[j % i.size], ?_, Array.getElem?_eq_getElem hm⟩
    simp only [madeCells, Array.getElem?_map, hzs]
    rw [Array.getElem?_range, if_pos hj]
    simp [hm]
  have hszr : ∀ x ∈ List.replicate n.toNat z, x.cells.length = i.size := by
    intro x hx
    rw [List.eq_of_mem_replicate hx, hzl]
  have hfree : own w.heap.size = none := by
    cases h : own w.heap.size with
    | none => rfl
    | some x => exact absurd (S.h.lt _ _ h) (Nat.lt_irrefl _)
  have hblk : (w.alloc (.cells (madeCells zv.cells (n.toNat * i.size)) e)).heap[w.heap.size]? = some (.cells (madeCells zv.cells (n.toNat * i.size)) e (0, 0)) := by
    show (w.heap.push _)[_]? = _
    simp
  have hv : Rep (w.alloc (.cells (madeCells zv.cells (n.toNat * i.size)) e)) own (.slice (some ⟨w.heap.size, 0, none⟩) n.toNat n.toNat) (.slc (List.replicate n.toNat z)) := by
    have hln : (List.replicate n.toNat z).length = n.toNat := List.length_replicate
    have key : ∀ m, m = n.toNat → Rep (w.alloc (.cells (madeCells zv.cells (n.toNat * i.size)) e)) own (.slice (some ⟨w.heap.size, 0, none⟩) (List.replicate n.toNat z).length m) (.slc (List.replicate n.toNat z)) := by
      intro m hm
      refine .slc w.heap.size 0 m i.size _ (fun j => (madeCells zv.cells (n.toNat * i.size))[j]?.getD undef) (by rw [hln, hm]; exact Nat.le_refl _) hszr (fun j hj => ?_) (fun j hj x f hx => by rw [hfree] at hx; cases hx) (fun j hj => ?_) (fun j d hd => ?_)
      · rw [hln] at hj
        obtain ⟨u, h1, _⟩ := hget j hj
        rw [Nat.zero_add, cell_of_row _ _ j _ e (0, 0) hblk, h1]
        rfl
      · rw [hln] at hj
        obtain ⟨u, h1, h2⟩ := hget j hj
        rw [h1]
        exact (hzr (w.alloc (.cells (madeCells zv.cells (n.toNat * i.size)) e)) own).one _ _ h2
      · have hj : j < n.toNat * i.size := by
          have := (List.getElem?_eq_some_iff.1 hd).1
          rwa [Zbr hszr, hln] at this
        have hq : j / i.size < n.toNat := Nat.div_lt_of_lt_mul (by rw [Nat.mul_comm]; exact hj)
        have hr' : j % i.size < i.size := Nat.mod_lt _ hpos
        have hdec : j / i.size * i.size + j % i.size = j := by rw [Nat.mul_comm]; exact Nat.div_add_mod _ _
        have hf := flat_get hszr (i := j / i.size) (e := z) (by rw [List.getElem?_replicate, if_pos hq]) _ hr'
        rw [hdec, hd] at hf
        obtain ⟨u, h1, h2⟩ := hget j hj
        rw [h1]
        exact (hzr (w.alloc (.cells (madeCells zv.cells (n.toNat * i.size)) e)) own).rep _ _ _ h2 hf.symm
    have := key n.toNat rfl
    rwa [hln] at this
  refine ⟨_, _, ?_, g, fun _ => .d _ _ hv⟩
  simp only [execOp, hop, hlv, hcv, Sem.run_bind, hrun, Result.andThen_ok, Sem.run_pure]
end
end Go.Abs
namespace Go.Abs
def ZhK (own : Own) : Prop := ∀ b x f, own b = some (x, f) → x = .ext ∨ ∃ id, x = .obj id
def Has (P : Program) (f : FuncId) (args : List AV) (h : List AObj) (r : AV) (h' : List AObj) : Prop :=
  (∃ fn, P.funcs[f]? = some fn ∧ fn.body.isSome = true) ∧
  ∀ (w : World) (own : Own) (vs : Array Value), HRel P w own h → ZhK own → vs.size = args.length →
    (∀ (i : Nat) v x, vs[i]? = some v → args[i]? = some x → ARep P w own h v x) →
    Calls P f vs w fun e w' => ∃ v own', e = .returned v ∧ ZhK own' ∧ HRel P w' own' h' ∧ ARep P w' own' h' v r ∧ Frm w own w' own' ∧ ExtA w own h w' own' h'
def Zba (P : Program) (call : Zaa) : Prop := ∀ f args h r h', call f args h = some (r, h') → Has P f args h r h'
def Zbj (P : Program) : Prop := ∀ (f : FuncId) (fn : Func), P.funcs[f]? = some fn → (fn.name == "runtime.NumGoroutine") = false
def Zb2 (L : Nat → Bool) (own : Own) : Own := fun b => match own b with
  | some (.obj id, f) => if L id then none else some (.ext, f)
  | some (_, f) => some (.ext, f)
  | none => none
theorem Za6 (L : Nat → Bool) (own : Own) (b : Nat) : (own b = none ∧ Zb2 L own b = none) ∨ (∃ id f, own b = some (.obj id, f) ∧ L id = true ∧ Zb2 L own b = none) ∨
    ∃ x f, own b = some (x, f) ∧ Zb2 L own b = some (.ext, f) ∧ ∀ id, x = .obj id → L id = false := by
  cases h : own b with
  | none => exact .inl ⟨rfl, by simp [Zb2, h]⟩
  | some y =>
    obtain ⟨x, f⟩ := y
    cases x with
    | obj id =>
      cases hl : L id with
      | true => exact .inr (.inl ⟨id, f, rfl, hl, by simp [Zb2, h, hl]⟩)
      | false => exact .inr (.inr ⟨_, f, rfl, by simp [Zb2, h, hl], fun id' e => by cases e; exact hl⟩)
    | _ => exact .inr (.inr ⟨_, f, rfl, by simp [Zb2, h], fun id e => by cases e⟩)
section
variable {P : Program} {w w' : World} {own : Own} {h : List AObj} {L : Nat → Bool}
theorem Zlp (w : World) (own : Own) (L : Nat → Bool) : Ext w own w (Zb2 L own) := by
  refine ⟨fun b o v hc hp => ⟨hc, fun x f hx => ?_⟩, fun b es c hc hn => ⟨hc, ?_⟩⟩
  · rcases Za6 L own b with ⟨_, h2⟩ | ⟨_, _, _, _, h2⟩ | ⟨x', f', h1, h2, _⟩
    · rw [h2] at hx; cases hx
    · rw [h2] at hx; cases hx
    · rw [h2] at hx
      simp only [Option.some.injEq, Prod.mk.injEq] at hx
      obtain ⟨_, rfl⟩ := hx
      exact hp x' f' h1
  · rcases Za6 L own b with ⟨_, h2⟩ | ⟨_, _, h1, _⟩ | ⟨_, _, h1, _⟩
    · exact h2
    · rw [h1] at hn; cases hn
    · rw [h1] at hn; cases hn
theorem ZjU (H : HRel P w own h) (L : Nat → Bool) : HRel P w (Zb2 L own) [] := by
  refine ⟨fun id x hx => by simp at hx, fun b b' x f f' h1 h2 hne => ?_, fun b x hx => ?_, fun b id f hx => ?_⟩
  · rcases Za6 L own b with ⟨_, h3⟩ | ⟨_, _, _, _, h3⟩ | ⟨_, _, _, h3, _⟩
    · rw [h3] at h1; cases h1
    · rw [h3] at h1; cases h1
    · rw [h3] at h1
      simp only [Option.some.injEq, Prod.mk.injEq] at h1
      exact absurd h1.1.symm hne
  · rcases Za6 L own b with ⟨_, h3⟩ | ⟨_, _, _, _, h3⟩ | ⟨_, _, h1, _⟩
    · rw [h3] at hx; cases hx
    · rw [h3] at hx; cases hx
    · exact H.lt b _ h1
  · rcases Za6 L own b with ⟨_, h3⟩ | ⟨_, _, _, _, h3⟩ | ⟨_, _, _, h3, _⟩
    · rw [h3] at hx; cases hx
    · rw [h3] at hx; cases hx
    · rw [h3] at hx; simp at hx
theorem ZjT (L : Nat → Bool) (own : Own) : ZhK (Zb2 L own) := by
  intro b x f hx
  rcases Za6 L own b with ⟨_, h3⟩ | ⟨_, _, _, _, h3⟩ | ⟨_, _, _, h3, _⟩
  · rw [h3] at hx; cases hx
  · rw [h3] at hx; cases hx
  · rw [h3] at hx
    simp only [Option.some.injEq, Prod.mk.injEq] at hx
    exact .inl hx.1.symm
theorem ZgE {own1 : Own} (F : Frm w (Zb2 L own) w' own1) : Grow w w' := by
  refine ⟨F.os, F.tape, F.output, F.size, fun b hb => (F.blk b hb ?_).1⟩
  rcases Za6 L own b with ⟨_, h2⟩ | ⟨_, _, _, _, h2⟩ | ⟨_, f, _, h2, _⟩
  · exact .inl h2
  · exact .inl h2
  · exact .inr ⟨f, h2⟩
theorem Ze1 {own1 : Own} (F : Frm w (Zb2 L own) w' own1) (b : Nat) (hb : b < w.heap.size) : own1 b = Zb2 L own b := by
  refine (F.blk b hb ?_).2
  rcases Za6 L own b with ⟨_, h2⟩ | ⟨_, _, _, _, h2⟩ | ⟨_, f, _, h2, _⟩
  · exact .inl h2
  · exact .inl h2
  · exact .inr ⟨f, h2⟩
mutual
theorem ZjB : ∀ (d : DV), d.scal = true → ∀ {v : Value} {w w' : World} {own own' : Own}, Rep w own v d → Rep w' own' v d
  | .bool b, _, _, _, _, _, _, r => by cases r; exact .bool b
  | .int k n, _, _, _, _, _, _, r => by cases r; exact .int k n
  | .str s, _, _, _, _, _, _, r => by cases r with | str s => exact .str s
  | .nilp, _, _, _, _, _, _, r => by cases r; exact .nilp
  | .nilm, _, _, _, _, _, _, r => by cases r; exact .nilm
  | .nilf, _, _, _, _, _, _, r => by cases r; exact .nilf
  | .nili, _, _, _, _, _, _, r => by cases r; exact .nili
  | .slc _, h, _, _, _, _, _, _ => by simp [DV.scal] at h
  | .fmap _, h, _, _, _, _, _, _ => by simp [DV.scal] at h
  | .fn _ _, h, _, _, _, _, _, _ => by simp [DV.scal] at h
  | .agg cs, h, _, _, _, _, _, r => by
    cases r with
    | agg vs cs hl h1 hh => exact .agg vs cs hl h1 fun i v d hv hd => ZhQ cs (by simpa [DV.scal] using h) i d hd (hh i v d hv hd)
  | .tup cs, h, _, _, _, _, _, r => by
    cases r with
    | tup vs cs hl hh => exact .tup vs cs hl fun i v d hv hd => ZhQ cs (by simpa [DV.scal] using h) i d hd (hh i v d hv hd)
  | .iface t d, h, _, _, _, _, _, r => by
    cases r with
    | iface t v d hr => exact .iface t v d (ZjB d (by simpa [DV.scal] using h) hr)
theorem ZhQ : ∀ (cs : List DV), DV.scalL cs = true → ∀ (i : Nat) (d : DV), cs[i]? = some d → ∀ {v : Value} {w w' : World} {own own' : Own}, Rep w own v d → Rep w' own' v d
  | [], _, _, _, hd, _, _, _, _, _, _ => by simp at hd
  | c :: cs, h, 0, d, hd, _, _, _, _, _, r => by
    simp only [DV.scalL, Bool.and_eq_true] at h
    simp only [List.getElem?_cons_zero, Option.some.injEq] at hd
    subst hd
    exact ZjB c h.1 r
  | c :: cs, h, i + 1, d, hd, _, _, _, _, _, r => by
    simp only [DV.scalL, Bool.and_eq_true] at h
    simp only [List.getElem?_cons_succ] at hd
    exact ZhQ cs h.2 i d hd r
end
theorem Zg8 : ∀ {cs : List DV}, DV.noMapL cs = true → ∀ {i : Nat} {d : DV}, cs[i]? = some d → d.noMap = true := by
  intro cs
  induction cs with
  | nil => intro _ i d h; simp at h
  | cons c cs ih =>
    intro h i d hd
    simp only [DV.noMapL, Bool.and_eq_true] at h
    cases i with
    | zero => simp at hd; subst hd; exact h.1
    | succ i => simp at hd; exact ih h.2 hd
theorem ZoP : ∀ {es : List DV}, DV.noMapL es = true → DV.noMapL (es.flatMap DV.cells) = true := by
  have app : ∀ (a b : List DV), DV.noMapL a = true → DV.noMapL b = true → DV.noMapL (a ++ b) = true := by
    intro a b ha hb
    induction a with
    | nil => exact hb
    | cons x a ih =>
      simp only [DV.noMapL, Bool.and_eq_true] at ha
      simp only [List.cons_append, DV.noMapL, Bool.and_eq_true]
      exact ⟨ha.1, ih ha.2⟩
  intro es
  induction es with
  | nil => intro _; rfl
  | cons x es ih =>
    intro h
    simp only [DV.noMapL, Bool.and_eq_true] at h
    rw [List.flatMap_cons]
    refine app _ _ ?_ (ih h.2)
    cases x <;> first | (simp only [DV.cells, DV.noMapL, Bool.and_true]; exact h.1) | (simp only [DV.cells]; simpa [DV.noMap] using h.1)
theorem Rep.noMap_mono {w w' : World} {own own' : Own} {v : Value} {d : DV} (r : Rep w own v d)
    (e : ∀ b o v, w.cell? ⟨b, o, none⟩ = some v → Zx8 own b o → w'.cell? ⟨b, o, none⟩ = some v ∧ Zx8 own' b o) : d.noMap = true → Rep w' own' v d := by
  induction r with
  | bool b => intro _; exact .bool b
  | int k n => intro _; exact .int k n
  | str s => intro _; exact .str s
  | nilp => intro _; exact .nilp
  | nilm => intro _; exact .nilm
  | nilf => intro _; exact .nilf
  | nili => intro _; exact .nili
  | slc0 a cap => intro _; exact .slc0 a cap
  | slc b o cap sz es vs hcap hsz hc hp h1 hr ih =>
    intro hm
    exact .slc b o cap sz es vs hcap hsz (fun i hi => (e _ _ _ (hc i hi) (hp i hi)).1) (fun i hi => (e _ _ _ (hc i hi) (hp i hi)).2) h1
      (fun i d hd => ih i d hd (Zg8 (ZoP (by simpa [DV.noMap] using hm)) hd))
  | fmap b es clock ds hb ho hst hl hk hv ihk ihv => intro hm; simp [DV.noMap] at hm
  | fn f cs ds hl h ih => intro hm; exact .fn f cs ds hl fun i v d hv hd => ih i v d hv hd (Zg8 (by simpa [DV.noMap] using hm) hd)
  | agg cs ds hl h1 h ih => intro hm; exact .agg cs ds hl h1 fun i v d hv hd => ih i v d hv hd (Zg8 (by simpa [DV.noMap] using hm) hd)
  | tup cs ds hl h ih => intro hm; exact .tup cs ds hl fun i v d hv hd => ih i v d hv hd (Zg8 (by simpa [DV.noMap] using hm) hd)
  | iface t v d h ih => intro hm; exact .iface t v d (ih (by simpa [DV.noMap] using hm))
theorem Zza {own1 : Own} {v : Value} {r : DV} (H : HRel P w own h) (F : Frm w (Zb2 L own) w' own1) (hr : Rep w' own1 v r) (k : Nat) (hk : Zp0 k r = true)
    (h0 : k = 0 → ∀ id, L id = false) (h1 : k = 1 → ∀ id, L id = true → ∃ es, h[id]? = some (.map es)) : Rep w' own v r := by
  have g := ZgE F
  have cellp : (∀ id b f, own b = some (.obj id, f) → L id = true → ∃ m c, w.heap[b]? = some (.map m c)) → ∀ b o v, w'.cell? ⟨b, o, none⟩ = some v → Zx8 own1 b o → w'.cell? ⟨b, o, none⟩ = some v ∧ Zx8 own b o := by
    intro hmaps b o v hc hp
    refine ⟨hc, fun x f hx => ?_⟩
    have hlt := H.lt b _ hx
    have hb := Ze1 F b hlt
    rcases Za6 L own b with ⟨h2, _⟩ | ⟨id, f', h2, h3, _⟩ | ⟨x', f', h2, h3, _⟩
    · rw [h2] at hx; cases hx
    · obtain ⟨m, c, hm⟩ := hmaps id b f' h2 h3
      have : w'.heap[b]? = some (.map m c) := by rw [g.blk b hlt, hm]
      simp [World.cell?, this] at hc
    · rw [h2] at hx
      simp only [Option.some.injEq, Prod.mk.injEq] at hx
      obtain ⟨_, rfl⟩ := hx
      exact hp .ext f' (by rw [hb, h3])
  match k, hk with
  | 0, _ =>
    refine hr.mono ⟨cellp fun id b f _ hl => ?_, fun b es c hc hn => ⟨hc, ?_⟩⟩
    · rw [h0 rfl id] at hl; cases hl
    · cases hx : own b with
      | none => rfl
      | some y =>
        have hlt := H.lt b _ hx
        have hb := Ze1 F b hlt
        rw [hn] at hb
        rcases Za6 L own b with ⟨h2, _⟩ | ⟨id, f', h2, h3, _⟩ | ⟨x', f', h2, h3, _⟩
        · rw [h2] at hx; cases hx
        · rw [h0 rfl id] at h3; cases h3
        · rw [h3] at hb; cases hb
  | 1, hk =>
    refine hr.noMap_mono (cellp fun id b f hb hl => ?_) hk
    obtain ⟨es, hes⟩ := h1 rfl id hl
    obtain ⟨b', hb', m, cl, hm, _⟩ := H.obj id _ hes
    have : b = b' := H.uniq b b' _ _ _ hb hb' (by simp)
    subst this
    exact ⟨m, cl, hm⟩
  | k + 2, hk => exact ZjB r hk hr
end
end Go.Abs
namespace Go.Abs
section
variable {P : Program} {w : World} {own own1 : Own} {h : List AObj}
theorem ZmN (hE : Ext w own1 w own) (hdrop : ∀ b id f, own1 b = some (.obj id, f) → own b = none) (H : HRel P w own1 h) :
    ∀ (m : Nat) (av : AV) (d : DV) (v : Value), freeze h m av = some d → ARep P w own1 h v av → Rep w own v d := by
  intro m
  induction m with
  | zero =>
    intro av d v hf hr
    cases av <;> simp only [freeze] at hf <;> try (cases hf; done)
    simp only [Option.some.injEq] at hf
    subst hf
    exact hr.d_inv.mono hE
  | succ m ih =>
    intro av d v hf hr
    cases av with
    | raw u => simp [freeze] at hf
    | d x =>
      simp only [freeze, Option.some.injEq] at hf
      subst hf
      exact hr.d_inv.mono hE
    | osl id g n =>
      simp only [freeze] at hf
      split at hf
      · rename_i g' ap es ho
        cases hb : Nat.beq g g' && Nat.ble n es.length with
        | false => rw [hb] at hf; cases hf
        | true =>
          rw [hb] at hf
          simp only [Bool.and_eq_true] at hb
          simp only [cond_true, Option.map_eq_some_iff] at hf
          obtain ⟨ds, hds, rfl⟩ := hf
          have hgg : g = g' := Nat.eq_of_beq_eq_true hb.1
          subst hgg
          have hn : n ≤ es.length := Nat.le_of_ble_eq_true hb.2
          obtain ⟨hid, _, _, hl⟩ := hr.osl_inv
          obtain ⟨b, cap, c, T, fr, inf, hv, hob, hc, hi, hcs⟩ := hl ap es ho
          obtain ⟨b', hob', hor⟩ := H.obj id _ ho
          have hbb : b = b' := H.uniq b b' _ _ _ hob hob' (by simp)
          subst hbb
          obtain ⟨c', T', fr', inf2, hc', hi2, _, _, hsz, hpos, hle, hcells⟩ := hor
          rw [hc] at hc'
          simp only [Option.some.injEq, Obj.cells.injEq] at hc'
          obtain ⟨rfl, rfl, rfl⟩ := hc'
          rw [hi] at hi2
          simp only [Option.some.injEq] at hi2
          subst hi2
          obtain ⟨hlen, hget⟩ := Zht hds
          rw [List.length_take, Nat.min_eq_left hn] at hlen
          have hone : ∀ (q : Nat) e x, es[q]? = some e → ds[q]? = some x → freeze h m e = some x := by
            intro q e x he hx
            have hq : q < n := by rw [hlen]; exact (List.getElem?_eq_some_iff.1 hx).1
            exact hget q e x (by rw [List.getElem?_take, if_pos hq]; exact he) hx
          have hcl : ∀ (e : AV) (x : DV), freeze h m e = some x → e.cellOk = true → (∃ y, e = .d y ∧ x = y) ∨ (e.cells = [e] ∧ x.cells = [x]) := by
            intro e x he hk
            cases m with
            | zero =>
              cases e <;> simp only [freeze] at he <;> try (cases he; done)
              simp only [Option.some.injEq] at he; subst he; exact .inl ⟨_, rfl, rfl⟩
            | succ m =>
              cases e with
              | raw u => simp [freeze] at he
              | d y => simp only [freeze, Option.some.injEq] at he; subst he; exact .inl ⟨_, rfl, rfl⟩
              | osl id g n =>
                simp only [freeze] at he
                split at he
                · cases hb : Nat.beq g ‹Nat› && Nat.ble n (‹List AV›).length
                  all_goals first | (rw [hb] at he; cases he; done) | (rw [hb] at he; simp only [cond_true, Option.map_eq_some_iff] at he; obtain ⟨_, _, rfl⟩ := he; exact .inr ⟨rfl, rfl⟩)
                · cases he
              | mp id =>
                simp only [freeze] at he
                split at he
                · simp only [Option.map_eq_some_iff] at he; obtain ⟨_, _, rfl⟩ := he; exact .inr ⟨rfl, rfl⟩
                · cases he
              | tup vs => simp [AV.cellOk] at hk
              | ptr _ _ => simp [freeze] at he
              | fn _ _ => simp [freeze] at he
          have hnt : ∀ (q : Nat) e, es[q]? = some e → e.cellOk = true := by
            intro q e he
            cases hk : e.cellOk with
            | true => rfl
            | false =>
              exfalso
              have hs1 : e.cells = [e] := by cases e <;> first | rfl | (rename_i y; cases y <;> simp_all [AV.cellOk, DV.cellOk, AV.cells])
              have hsz1 := hsz e (List.mem_of_getElem? he)
              rw [hs1] at hsz1
              obtain ⟨u, hu, ho1, hru⟩ := hcells (q * inf.size + 0) e (by rw [flat_get hsz he 0 hpos, hs1]; rfl)
              cases e with
              | tup vs => obtain ⟨cs, rfl, _⟩ := hru.tup_inv; simp [Value.oneCell'] at ho1
              | d y =>
                cases y <;> simp [AV.cellOk, DV.cellOk] at hk
                obtain ⟨cs, rfl, _⟩ := hru.d_inv.tup_inv
                simp [Value.oneCell'] at ho1
              | _ => simp [AV.cellOk] at hk
          have hszd : ∀ x ∈ ds, x.cells.length = inf.size := by
            intro x hx
            obtain ⟨q, hq, rfl⟩ := List.mem_iff_getElem.1 hx
            have hqe : q < es.length := by omega
            have he := List.getElem?_eq_getElem hqe
            rcases hcl _ _ (hone q _ _ he (List.getElem?_eq_getElem hq)) (hnt q _ he) with ⟨y, h1, h2⟩ | ⟨h1, h2⟩
            · have := hsz es[q] (List.getElem_mem hqe)
              rw [h1] at this
              rw [h2]
              cases y <;> simpa [AV.cells, DV.cells] using this
            · have := hsz es[q] (List.getElem_mem hqe)
              rw [h1] at this
              rw [h2]; exact this
          have hcap : n ≤ cap := by
            have h1 : n * inf.size ≤ cap * inf.size := by rw [← hcs]; exact Nat.le_trans (Nat.mul_le_mul_right _ hn) hle
            exact Nat.le_of_mul_le_mul_right h1 hpos
          have hnone := hdrop b id 0 hob
          rw [hv, hlen]
          refine .slc b 0 cap inf.size ds (fun i => c[i]?.getD undef) (by omega) hszd (fun i hi' => ?_) (fun i _ x f hx => by rw [hnone] at hx; cases hx) (fun i hi' => ?_) (fun i x hx => ?_)
          all_goals have hi3 : i < n * inf.size := by first | (rw [hlen]; exact hi') | (have := (List.getElem?_eq_some_iff.1 hx).1; rw [Zbr hszd] at this; rw [hlen]; exact this)
          all_goals have hq : i / inf.size < n := Nat.div_lt_of_lt_mul (by rw [Nat.mul_comm]; exact hi3)
          all_goals have hr' : i % inf.size < inf.size := Nat.mod_lt _ hpos
          all_goals have hdec : i / inf.size * inf.size + i % inf.size = i := by rw [Nat.mul_comm]; exact Nat.div_add_mod _ _
          all_goals have hqe : i / inf.size < es.length := by omega
          all_goals have he := List.getElem?_eq_getElem hqe
          all_goals have hfl := flat_get hsz he _ hr'
          all_goals rw [hdec] at hfl
          all_goals have hcl2 : i % inf.size < es[i / inf.size].cells.length := by rw [hsz _ (List.getElem_mem hqe)]; exact hr'
          all_goals obtain ⟨u, hu1, hu2, hu3⟩ := hcells i _ (by rw [hfl]; exact List.getElem?_eq_getElem hcl2)
          · rw [Nat.zero_add, cell_of_row w b i c T fr hc, hu1]; rfl
          · rw [hu1]; exact hu2
          · rw [hu1]
            show Rep w own u x
            have hqd : i / inf.size < ds.length := by omega
            have hd := List.getElem?_eq_getElem hqd
            have hfx := flat_get hszd hd _ hr'
            rw [hdec, hx] at hfx
            rcases hcl _ _ (hone _ _ _ he hd) (hnt _ _ he) with ⟨y, h1, h2⟩ | ⟨h1, h2⟩
            · have hgx : es[i / inf.size].cells[i % inf.size]? = some (.d x) := by
                rw [h1]
                rw [h2] at hfx
                have : (AV.d y).cells = y.cells.map .d := by cases y <;> rfl
                rw [this, List.getElem?_map, ← hfx]
                rfl
              rw [List.getElem?_eq_getElem hcl2] at hgx
              simp only [Option.some.injEq] at hgx
              rw [hgx] at hu3
              exact hu3.d_inv.mono hE
            · have hs1 : inf.size = 1 := by
                have := hsz es[i / inf.size] (List.getElem_mem hqe)
                rw [h1] at this; simpa using this.symm
              have h0 : i % inf.size = 0 := by omega
              have hgx : es[i / inf.size].cells[i % inf.size]? = some es[i / inf.size] := by rw [h1, h0]; rfl
              rw [List.getElem?_eq_getElem hcl2] at hgx
              simp only [Option.some.injEq] at hgx
              rw [hgx] at hu3
              rw [h2, h0] at hfx
              simp only [List.getElem?_cons_zero, Option.some.injEq] at hfx
              rw [hfx]
              exact ih _ _ _ (hone _ _ _ he hd) hu3
      · cases hf
    | mp id =>
      simp only [freeze] at hf
      split at hf
      · rename_i es ho
        simp only [Option.map_eq_some_iff] at hf
        obtain ⟨ds, hds, rfl⟩ := hf
        obtain ⟨hid, hl, _⟩ := hr.mp_inv
        obtain ⟨b, hob, hv⟩ := hl es ho
        obtain ⟨b', hob', mm, cl, hm, hst, hsz, hent⟩ := H.obj id _ ho
        have hbb : b = b' := H.uniq b b' _ _ _ hob hob' (by simp)
        subst hbb
        obtain ⟨hlen, hget⟩ := Zht hds
        have key : ∀ (i : Nat) e d, mm[i]? = some e → ds[i]? = some d → Rep w own e.key d.1 ∧ Rep w own e.val d.2 := by
          intro i e d he hd
          have hi : i < es.length := by rw [hlen]; exact (List.getElem?_eq_some_iff.1 hd).1
          have hx := List.getElem?_eq_getElem hi
          have h1 := hget i _ d hx hd
          simp only [Option.map_eq_some_iff] at h1
          obtain ⟨y, hy, rfl⟩ := h1
          obtain ⟨h2, h3⟩ := hent i e _ he hx
          exact ⟨h2.mono hE, ih _ _ _ hy h3⟩
        rw [hv]
        exact .fmap b mm cl ds hm (hdrop b id 0 hob) hst (by rw [hsz, hlen]) (fun i e d he hd => (key i e d he hd).1) (fun i e d he hd => (key i e d he hd).2)
      · cases hf
    | tup vs =>
      simp only [freeze, Option.map_eq_some_iff] at hf
      obtain ⟨ds, hds, rfl⟩ := hf
      obtain ⟨cs, rfl, hl, hh⟩ := hr.tup_inv
      obtain ⟨hlen, hget⟩ := Zht hds
      refine .tup cs ds (by omega) fun i u d hu hd => ?_
      have hi : i < vs.length := by rw [hlen]; exact (List.getElem?_eq_some_iff.1 hd).1
      have hx := List.getElem?_eq_getElem hi
      exact ih _ _ _ (hget i _ d hx hd) (hh i u _ hu hx)
    | ptr _ _ => simp [freeze] at hf
    | fn _ _ => simp [freeze] at hf
end
end Go.Abs
namespace Go.Abs
def ZvK (P : Program) (own : Own) (st : St) (a : Act) (w : World) (o : Oper) (x : XV) : Prop :=
  ∀ (K : Act → World → Prop) (Q : Exit → Act → World → Prop), (∀ v w', Grow w w' → VRel P w' own st a v x → K (a.put o.dst v) w') → o.wp P a w K Q
section
variable {C : Ctx} {call : Zaa} {fa : FA} {own : Own} {st : St} {a : Act} {w : World} {o : Oper}
theorem GoodW.wp {x : XV} (h : GoodW C.P own st a w o x) : ZvK C.P own st a w o x := by
  intro K Q hK
  obtain ⟨v, w', hr, hg, hv⟩ := h
  unfold Oper.wp
  rw [hr]
  exact hK v w' hg hv
theorem Good.wp {x : XV} (h : Good C.P own st a w o x) : ZvK C.P own st a w o x := GoodW.wp h.grown
theorem ZnE {h : List AObj} {v : Value} {fv : AV} {f : FuncId} {caps : List AV} (hr : ARep C.P w own h v fv) (hf : ZeB fv = some (f, caps)) :
    ∃ cs : Array Value, v = .func (.func f) #[] cs ∧ cs.size = caps.length ∧ ∀ (i : Nat) u x, cs[i]? = some u → caps[i]? = some x → ARep C.P w own h u x := by
  unfold ZeB at hf
  split at hf
  · rename_i g ds
    simp only [Option.some.injEq, Prod.mk.injEq] at hf
    obtain ⟨rfl, rfl⟩ := hf
    have := hr.d_inv
    cases this with
    | fn _ cs _ hl hh =>
      refine ⟨cs, rfl, by simpa using hl, fun i u x hu hx => ?_⟩
      rw [List.getElem?_map, Option.map_eq_some_iff] at hx
      obtain ⟨y, hy, rfl⟩ := hx
      exact .d _ _ (hh i u y hu hy)
  · rename_i g cs'
    simp only [Option.some.injEq, Prod.mk.injEq] at hf
    obtain ⟨rfl, rfl⟩ := hf
    cases hr with
    | fn _ cs _ hl hh => exact ⟨cs, rfl, hl, hh⟩
  · cases hf
theorem Zkp (hn : Zbj C.P) {c : Call} {g : Operand} {f : FuncId} {cs : Array Value} {K : Act → World → Prop} {Q : Exit → Act → World → Prop} (hop : o.op = .call c) (hc : c.callee = .value g)
    (hg : a.eval g = .func (.func f) #[] cs) (hb : ∃ fn, C.P.funcs[f]? = some fn ∧ fn.body.isSome = true)
    (h : Calls C.P f (c.args.map a.eval ++ cs) w fun | .returned v, w'' => K (a.put o.dst v) w'' | .panicked chain, w'' => Q (.panic chain) a w'' | .outgrown, _ => LetsOut Q) : o.wp C.P a w K Q := by
  obtain ⟨fn, hfn, hbd⟩ := hb
  have hname := hn f fn hfn
  have hbn : fn.body.isNone = false := by
    cases hbb : fn.body with
    | none => rw [hbb] at hbd; cases hbd
    | some _ => rfl
  have hname' : ¬ (fn.name == "runtime.NumGoroutine") = true := by rw [hname]; simp
  have hrun : (execOp a.eval o).run C.P w = .ok (.enter f (c.args.map a.eval ++ cs)) w := by
    simp only [execOp, hop, resolve, hc, hg, Deferred.ofValue, invoke, callFunc, Sem.run_bind, Sem.run_pure, Result.andThen_ok, run_program, hfn]
    rw [if_neg hname']
    simp only [hbn, Bool.false_eq_true, if_false, Sem.run_pure]
    congr 2
    simp
  unfold Oper.wp
  rw [hrun]
  exact h
theorem Zny (S : SRel C.P fa own st a w) {c : Call} {vs caps : List AV} {cs : Array Value} (hv : ZaL st c.args.toList = some vs) (hl : cs.size = caps.length)
    (hh : ∀ (i : Nat) u x, cs[i]? = some u → caps[i]? = some x → ARep C.P w own st.heap u x) : (c.args.map a.eval ++ cs).size = (vs ++ caps).length ∧
    ∀ (i : Nat) u x, (c.args.map a.eval ++ cs)[i]? = some u → (vs ++ caps)[i]? = some x → ARep C.P w own st.heap u x := by
  obtain ⟨h1, h2⟩ := ZmA S hv
  have hs : c.args.size = vs.length := by simpa using h1
  refine ⟨by simp [hs, hl], fun i u x hu hx => ?_⟩
  rw [Array.getElem?_append] at hu
  simp only [Array.size_map, hs] at hu
  split at hu
  · rename_i hi
    rw [List.getElem?_append_left hi] at hx
    rw [Array.getElem?_map, Option.map_eq_some_iff] at hu
    obtain ⟨y, hy, rfl⟩ := hu
    exact h2 i y x (by simpa using hy) hx
  · rename_i hi
    rw [List.getElem?_append_right (by omega)] at hx
    exact hh _ u x hu hx
theorem Zwg (hK : Zba C.P call) {frz : Bool} {f : FuncId} {ds : List DV} {r : DV} (he : Zcz call frz f ds = some r) :
    ∃ rv hc, Has C.P f (ds.map .d) [] rv hc ∧ ((rv = .d r) ∨ (frz = true ∧ freeze hc 100 rv = some r)) := by
  unfold Zcz at he
  split at he
  · rename_i r' hc hcall
    simp only [Option.some.injEq] at he
    subst he
    exact ⟨_, _, hK _ _ _ _ _ hcall, .inl rfl⟩
  · rename_i rv hc _ hcall
    cases frz with
    | false => cases he
    | true => exact ⟨_, _, hK _ _ _ _ _ hcall, .inr ⟨rfl, he⟩⟩
  · cases he
theorem Zp8 {h : List AObj} : ∀ {vs : List AV} {ds : List DV} {k : Nat}, ZdZ h vs = some (ds, k) → ds.length = vs.length ∧
    ∀ (i : Nat) v, vs[i]? = some v → ∃ x j, ds[i]? = some x ∧ ZqH h v = some (x, j) ∧ j ≤ k := by
  intro vs
  induction vs with
  | nil => intro ds k he; simp only [ZdZ, Option.some.injEq, Prod.mk.injEq] at he; obtain ⟨rfl, rfl⟩ := he; simp
  | cons v vs ih =>
    intro ds k he
    simp only [ZdZ] at he
    split at he
    · rename_i x j hx
      split at he
      · rename_i xs m hxs
        simp only [Option.some.injEq, Prod.mk.injEq] at he
        obtain ⟨rfl, rfl⟩ := he
        obtain ⟨h1, h2⟩ := ih hxs
        refine ⟨by simp [h1], fun i u hu => ?_⟩
        cases i with
        | zero => simp at hu; subst hu; exact ⟨x, j, rfl, hx, Nat.le_max_left _ _⟩
        | succ i =>
          simp at hu
          obtain ⟨y, q, h3, h4, h5⟩ := h2 i u hu
          exact ⟨y, q, by simpa using h3, h4, Nat.le_trans h5 (Nat.le_max_right _ _)⟩
      · cases he
    · cases he
def ZmM (vs : List AV) (id : Nat) : Bool := vs.any fun v => match v with
  | .mp k => k == id
  | .osl k _ _ => k == id
  | _ => false
theorem ZyC (H : HRel C.P w own st.heap) {vs : List AV} {v : AV} {x : DV} {k : Nat} {u : Value} (hm : v ∈ vs) (hl : ZqH st.heap v = some (x, k)) (hr : ARep C.P w own st.heap u v) :
    Rep w (Zb2 (ZmM vs) own) u x ∧ (k = 0 → ∃ y, v = .d y) ∧ (k = 1 → ∀ id, (v = .mp id ∨ ∃ g n, v = .osl id g n) → ∃ es, st.heap[id]? = some (.map es)) ∧ k ≤ 2 := by
  have hE := Zlp w own (ZmM vs)
  have lentNone : ∀ id b, own b = some (.obj id, 0) → ZmM vs id = true → Zb2 (ZmM vs) own b = none := by
    intro id b hb hl
    rcases Za6 (ZmM vs) own b with ⟨h1, _⟩ | ⟨_, _, _, _, h2⟩ | ⟨x', f', h1, h2, h3⟩
    · rw [h1] at hb; cases hb
    · exact h2
    · rw [hb] at h1
      simp only [Option.some.injEq, Prod.mk.injEq] at h1
      have := h3 id h1.1.symm
      rw [hl] at this; cases this
  unfold ZqH at hl
  split at hl
  · rename_i y
    simp only [Option.some.injEq, Prod.mk.injEq] at hl
    obtain ⟨rfl, rfl⟩ := hl
    exact ⟨hr.d_inv.mono hE, fun _ => ⟨_, rfl⟩, fun h => by simp at h, by omega⟩
  · rename_i id
    split at hl
    · rename_i es ho
      simp only [Option.map_eq_some_iff, Prod.mk.injEq] at hl
      obtain ⟨l, hl', rfl, rfl⟩ := hl
      refine ⟨?_, fun h => by simp at h, fun _ id' hid => ?_, by omega⟩
      · obtain ⟨hid, hlv, _⟩ := hr.mp_inv
        obtain ⟨b, hob, hv⟩ := hlv es ho
        obtain ⟨mm, cl, hmm, hst, hsz, hent⟩ := H.objAt ho hob
        obtain ⟨hlen, hget⟩ := Zht hl'
        have key : ∀ (i : Nat) e d, mm[i]? = some e → l[i]? = some d → Rep w own e.key d.1 ∧ Rep w own e.val d.2 := by
          intro i e d he hd
          have hi : i < es.length := by rw [hlen]; exact (List.getElem?_eq_some_iff.1 hd).1
          have hx := List.getElem?_eq_getElem hi
          have h1 := hget i _ d hx hd
          simp only [Option.map_eq_some_iff] at h1
          obtain ⟨y, hy, rfl⟩ := h1
          obtain ⟨h2, h3⟩ := hent i e _ he hx
          refine ⟨h2, ?_⟩
          generalize es[i].2 = av at hy h3
          cases av <;> simp only [AV.toD] at hy <;> try (cases hy; done)
          simp only [Option.some.injEq] at hy
          subst hy
          exact h3.d_inv
        rw [hv]
        refine .fmap b mm cl l hmm (lentNone id b hob ?_) hst (by rw [hsz, hlen]) (fun i e d he hd => ((key i e d he hd).1).mono hE) (fun i e d he hd => ((key i e d he hd).2).mono hE)
        exact List.any_eq_true.2 ⟨_, hm, by simp⟩
      · rcases hid with h | ⟨g, n, h⟩
        · cases h; exact ⟨es, ho⟩
        · cases h
    · cases hl
  · rename_i id g n
    split at hl
    · rename_i g' ap es ho
      cases hb : Nat.beq g g' && Nat.ble n es.length with
      | false => rw [hb] at hl; cases hl
      | true =>
        rw [hb] at hl
        simp only [Bool.and_eq_true] at hb
        simp only [cond_true, Option.map_eq_some_iff, Prod.mk.injEq] at hl
        obtain ⟨l, hl', rfl, rfl⟩ := hl
        refine ⟨?_, fun h => by simp at h, fun h => by simp at h, Nat.le_refl _⟩
        have hgg : g = g' := Nat.eq_of_beq_eq_true hb.1
        subst hgg
        have hn : n ≤ es.length := Nat.le_of_ble_eq_true hb.2
        have hds := ZeF hl'
        obtain ⟨hid, _, _, hlv⟩ := hr.osl_inv
        obtain ⟨b, cap, c, T, fr, inf, hv, hob, hc, hi, hcs⟩ := hlv ap es ho
        obtain ⟨c', T', fr', inf2, hc', hi2, _, _, hsz, hpos, hle, hcells⟩ := H.objAt ho hob
        rw [hc] at hc'
        simp only [Option.some.injEq, Obj.cells.injEq] at hc'
        obtain ⟨rfl, rfl, rfl⟩ := hc'
        rw [hi] at hi2
        simp only [Option.some.injEq] at hi2
        subst hi2
        have hll : l.length = n := by
          have := congrArg List.length hds
          rw [List.length_take, List.length_map] at this; omega
        have hcap : n ≤ cap := by
          have h1 : n * inf.size ≤ cap * inf.size := by rw [← hcs]; exact Nat.le_trans (Nat.mul_le_mul_right _ hn) hle
          exact Nat.le_of_mul_le_mul_right h1 hpos
        have hszl : ∀ y ∈ l, y.cells.length = inf.size := by
          intro y hy
          have : AV.d y ∈ es.take n := by rw [hds]; exact List.mem_map.2 ⟨y, hy, rfl⟩
          have h1 := hsz _ (List.mem_of_mem_take this)
          have h2 : (AV.d y).cells = y.cells.map .d := by cases y <;> rfl
          rw [h2, List.length_map] at h1
          exact h1
        have hfl : ∀ (i : Nat) (x : DV), (l.flatMap DV.cells)[i]? = some x → (es.flatMap AV.cells)[i]? = some (.d x) := by
          intro i x hx
          have h1 : (es.take n).flatMap AV.cells = (l.flatMap DV.cells).map AV.d := by
            rw [hds, List.flatMap_map, List.map_flatMap]
            congr 1
            funext y
            cases y <;> rfl
          have h2 := ZoU hsz n
          rw [h1] at h2
          have h3 : ((l.flatMap DV.cells).map AV.d)[i]? = some (.d x) := by rw [List.getElem?_map, hx]; rfl
          rw [h2, List.getElem?_take] at h3
          split at h3
          · exact h3
          · cases h3
        have hnone := lentNone id b hob (List.any_eq_true.2 ⟨_, hm, by simp⟩)
        rw [hv, ← hll]
        have hin : ∀ i, i < l.length * inf.size → ∃ x u, (l.flatMap DV.cells)[i]? = some x ∧ c[i]? = some u ∧ u.oneCell' = true ∧ Rep w own u x := by
          intro i hi'
          have hlt : i < (l.flatMap DV.cells).length := by rw [Zbr hszl]; exact hi'
          have hx := List.getElem?_eq_getElem hlt
          obtain ⟨u, h1, h2, h3⟩ := hcells i _ (hfl i _ hx)
          exact ⟨_, u, hx, h1, h2, h3.d_inv⟩
        refine .slc b 0 cap inf.size l (fun i => c[i]?.getD undef) (by omega) hszl (fun i hi' => ?_) (fun i _ x f hx => by rw [hnone] at hx; cases hx) (fun i hi' => ?_) (fun i x hx => ?_)
        · obtain ⟨x, u, _, h1, _⟩ := hin i hi'
          rw [Nat.zero_add, cell_of_row w b i c T fr hc, h1]; rfl
        · obtain ⟨x, u, _, h1, h2, _⟩ := hin i hi'
          rw [h1]; exact h2
        · have hi' : i < l.length * inf.size := by
            have := (List.getElem?_eq_some_iff.1 hx).1
            rwa [Zbr hszl] at this
          obtain ⟨x', u, h0, h1, _, h3⟩ := hin i hi'
          rw [hx] at h0
          simp only [Option.some.injEq] at h0
          subst h0
          rw [h1]
          exact h3.mono hE
    · cases hl
  · cases hl
theorem Zyh (H : HRel C.P w own st.heap) {L : Nat → Bool} {w' : World} {own1 : Own} {v : Value} {rv : AV} {hc : List AObj} {r : DV} {k : Nat} (F : Frm w (Zb2 L own) w' own1) (H1 : HRel C.P w' own1 hc)
    (hrr : ARep C.P w' own1 hc v rv) (hok : Zp0 k r = true) (h0 : k = 0 → ∀ id, L id = false) (h1 : k = 1 → ∀ id, L id = true → ∃ es, st.heap[id]? = some (.map es))
    (hr : rv = .d r ∨ (k = 0 ∧ freeze hc 100 rv = some r)) : Rep w' own v r := by
  rcases hr with rfl | ⟨rfl, hf⟩
  · exact Zza H F hrr.d_inv k hok h0 h1
  · have hL := h0 rfl
    have small : ∀ b x f, own b = some (x, f) → own1 b = some (.ext, f) := by
      intro b x f hb
      rw [Ze1 F b (H.lt b _ hb)]
      rcases Za6 L own b with ⟨h2, _⟩ | ⟨id, f', h2, h3, _⟩ | ⟨x', f', h2, h3, _⟩
      · rw [h2] at hb; cases hb
      · rw [hL id] at h3; cases h3
      · rw [h2] at hb
        simp only [Option.some.injEq, Prod.mk.injEq] at hb
        rw [h3, hb.2]
    refine ZmN (own1 := own1) (P := C.P) (h := hc) ⟨fun b o u hcell hp => ⟨hcell, fun x f hx => hp _ _ (small b x f hx)⟩, fun b es c hm hn => ⟨hm, ?_⟩⟩ (fun b id f hb => ?_) H1 100 rv r v hf hrr
    · cases hx : own b with
      | none => rfl
      | some y => obtain ⟨x, f⟩ := y; rw [small b x f hx] at hn; cases hn
    · cases hx : own b with
      | none => rfl
      | some y => obtain ⟨x, f'⟩ := y; rw [small b x f' hx] at hb; simp at hb
theorem ZsC (hn : Zbj C.P) (hK : Zba C.P call) (S : SRel C.P fa own st a w) {c : Call} {g : Operand} {fv : AV} {vs caps : List AV} {f : FuncId} {ds : List DV} {k : Nat} {frz : Bool} {r : DV}
    (hop : o.op = .call c) (hc : c.callee = .value g) (hg : opA st g = some fv) (hv : ZaL st c.args.toList = some vs) (hf : ZeB fv = some (f, caps))
    (he : Zcz call frz f ds = some r) (hl : ZdZ st.heap (vs ++ caps) = some (ds, k)) (hfr : frz = true → k = 0) (hok : Zp0 k r = true) : ZvK C.P own st a w o (.a (.d r)) := by
  intro K Q hKK
  obtain ⟨cs, hgv, hcl, hch⟩ := ZnE (Zb8 S hg) hf
  obtain ⟨ha1, ha2⟩ := Zny S hv hcl hch
  obtain ⟨rv, hcp, ⟨hb, hhas⟩, hr⟩ := Zwg hK he
  obtain ⟨hl1, hl2⟩ := Zp8 hl
  let L := ZmM (vs ++ caps)
  have each : ∀ (i : Nat) v, (vs ++ caps)[i]? = some v → ∃ u x j, (c.args.map a.eval ++ cs)[i]? = some u ∧ ds[i]? = some x ∧ j ≤ k ∧ Rep w (Zb2 L own) u x ∧ (j = 0 → ∃ y, v = .d y) ∧
      (j = 1 → ∀ id, (v = .mp id ∨ ∃ g n, v = .osl id g n) → ∃ es, st.heap[id]? = some (.map es)) := by
    intro i v hv'
    have hi : i < (c.args.map a.eval ++ cs).size := by rw [ha1]; exact (List.getElem?_eq_some_iff.1 hv').1
    have hu := Array.getElem?_eq_getElem hi
    obtain ⟨x, j, h3, h4, h5⟩ := hl2 i v hv'
    obtain ⟨g1, g2, g3, _⟩ := ZyC S.h (List.mem_of_getElem? hv') h4 (ha2 i _ v hu hv')
    exact ⟨_, x, j, hu, h3, h5, g1, g2, g3⟩
  have isL : ∀ id, L id = true → ∃ (i : Nat) (v : AV), (vs ++ caps)[i]? = some v ∧ (v = .mp id ∨ ∃ g n, v = .osl id g n) := by
    intro id hL
    obtain ⟨v, hm, hv'⟩ := List.any_eq_true.1 hL
    obtain ⟨i, hi, rfl⟩ := List.mem_iff_getElem.1 hm
    refine ⟨i, _, List.getElem?_eq_getElem hi, ?_⟩
    generalize (vs ++ caps)[i] = av at hv'
    cases av <;> simp at hv'
    · subst hv'; exact .inr ⟨_, _, rfl⟩
    · subst hv'; exact .inl rfl
  have hk0 : k = 0 → ∀ id, L id = false := by
    intro hk id
    cases hL : L id with
    | false => rfl
    | true =>
      obtain ⟨i, v, hv', hid⟩ := isL id hL
      obtain ⟨u, x, j, _, _, h5, _, h6, _⟩ := each i v hv'
      obtain ⟨y, rfl⟩ := h6 (by omega)
      rcases hid with h | ⟨_, _, h⟩ <;> cases h
  have hk1 : k = 1 → ∀ id, L id = true → ∃ es, st.heap[id]? = some (.map es) := by
    intro hk id hL
    obtain ⟨i, v, hv', hid⟩ := isL id hL
    obtain ⟨u, x, j, _, _, h5, _, h6, h7⟩ := each i v hv'
    rcases Nat.lt_or_ge j 1 with hj | hj
    · obtain ⟨y, rfl⟩ := h6 (by omega)
      rcases hid with h | ⟨_, _, h⟩ <;> cases h
    · exact h7 (by omega) id hid
  refine Zkp hn hop hc hgv hb ?_
  refine (hhas w (Zb2 L own) _ (ZjU S.h L) (ZjT L own) (by rw [ha1, List.length_map, hl1]) (fun i v x hv' hx => ?_)).mono ?_
  · rw [List.getElem?_map, Option.map_eq_some_iff] at hx
    obtain ⟨y, hy, rfl⟩ := hx
    have hi : i < (vs ++ caps).length := by rw [← hl1]; exact (List.getElem?_eq_some_iff.1 hy).1
    obtain ⟨u, x, j, h1, h2, _, h3, _⟩ := each i _ (List.getElem?_eq_getElem hi)
    rw [h1] at hv'
    rw [h2] at hy
    simp only [Option.some.injEq] at hv' hy
    rw [← hv', ← hy]
    exact .d _ _ h3
  · rintro e w' ⟨v, own1, rfl, _, H1, hrr, F, _⟩
    refine hKK v w' (ZgE F) fun _ => .d _ _ ?_
    refine Zyh S.h F H1 hrr hok hk0 hk1 ?_
    rcases hr with h | h
    · exact .inl h
    · exact .inr ⟨hfr h.1, h.2⟩
end
end Go.Abs
namespace Go.Abs
section
variable {C : Ctx} {call : Zaa} {fa : FA} {own : Own} {st st' : St} {a : Act} {w : World} {o : Oper}
theorem Zo9 {h : List AObj} {vs : List AV} {ds : List DV} (hd : ZcF vs = some ds) : ZdZ h vs = some (ds, 0) := by
  have := ZeF hd
  subst this
  clear hd
  induction ds with
  | nil => rfl
  | cons d ds ih => simp only [List.map_cons, ZdZ, ZqH, ih]; rfl
theorem ZkD (hn : Zbj C.P) (hK : Zba C.P call) (S : SRel C.P fa own st a w) {x : XV} (he : ZaQ C call fa o st = some x) : ZvK C.P own st a w o x := by
  unfold ZaQ at he
  split at he
  case h_1 y hop =>
    cases ht : Zbn fa o.dst with
    | true => rw [ht] at he; cases he
    | false => rw [ht] at he; exact (ZqN S (.inl hop) he).wp
  case h_2 y hop =>
    cases ht : Zbn fa o.dst with
    | true => rw [ht] at he; cases he
    | false => rw [ht] at he; exact (ZqN S (.inr hop) he).wp
  case h_3 c y z hop =>
    split at he
    · rename_i t hc; exact (ZvH S hop hc he).wp
    · cases he
  case h_4 t ps hop =>
    cases hb : ZaT C t st ps.toList with
    | none => rw [hb] at he; cases he
    | some d => rw [hb] at he; simp only [oD, Option.some.injEq] at he; subst he; exact (ZtZ S hop hb).wp
  case h_5 t n ps hop =>
    cases ht : Zbn fa o.dst with
    | true => rw [ht] at he; cases he
    | false =>
      rw [ht] at he
      simp only [cond_false] at he
      split at he
      · rename_i es hes; simp only [Option.some.injEq] at he; subst he; exact (Zyk S hop hes).wp
      · split at he
        · simp only [Option.some.injEq] at he; subst he; exact (Zq9 hop (by assumption) (by assumption)).wp
        · cases he
  case h_6 t y hop =>
    split at he
    · rename_i p hp
      cases hl : ZaX C t st p with
      | none => rw [hl] at he; cases he
      | some v => rw [hl] at he; simp only [oA, Option.some.injEq] at he; subst he; exact (ZuW S hop hp hl).wp
    · cases he
  case h_7 y hop =>
    split at he
    · rename_i v hv; exact (ZnI S hop hv he).wp
    · cases he
  case h_8 op t y z yt hop =>
    split at he
    · rename_i u v hu hv
      cases hb : Zem C op t u v with
      | none => rw [hb] at he; cases he
      | some d => rw [hb] at he; simp only [oD, Option.some.injEq] at he; subst he; exact (ZuM S hop hu hv hb).wp
    · cases he
  case h_9 op t y hop =>
    split at he
    · rename_i u hu
      cases hb : dUn op u with
      | none => rw [hb] at he; cases he
      | some d => rw [hb] at he; simp only [oD, Option.some.injEq] at he; subst he; exact (Zwu S hop hu hb).wp
    · cases he
  case h_10 s t y hop =>
    split at he
    · rename_i u hu
      cases hb : Zai C st.heap s t u with
      | none => rw [hb] at he; cases he
      | some d => rw [hb] at he; simp only [oD, Option.some.injEq] at he; subst he; exact (ZpL S hop hu hb).wp
    · cases he
  case h_11 f first cap hop =>
    split at he
    · rename_i vs hf hv; simp only [Option.some.injEq] at he; subst he; exact (Zno S hop hf hv).wp
    · cases he
  case h_12 t y lo hi hop =>
    split at he
    · rename_i u l h hu hl hh
      cases hb : ZaO C t u l h with
      | none => rw [hb] at he; cases he
      | some d => rw [hb] at he; simp only [oD, Option.some.injEq] at he; subst he; exact (Zut S hop hu hl hh hb).wp
    · cases he
  case h_13 t y f hop =>
    split at he
    · rename_i p hp; exact (Zl9 S hop hp he).wp
    · cases he
  case h_14 t y f hop =>
    split at he
    · rename_i u hu
      cases hb : ZaS C t f u with
      | none => rw [hb] at he; cases he
      | some d => rw [hb] at he; simp only [oD, Option.some.injEq] at he; subst he; exact (ZuC S hop hu hb).wp
    · cases he
  case h_15 t y i hop =>
    split at he
    · rename_i v k n hv hi; exact (Zmq S hop hv hi he).wp
    · cases he
  case h_16 t y i hop =>
    split at he
    · rename_i v k n hv hi
      cases hb : ZaV C t v n with
      | none => rw [hb] at he; cases he
      | some d => rw [hb] at he; simp only [oD, Option.some.injEq] at he; subst he; exact (Zt7 S hop hv hi hb).wp
    · cases he
  case h_17 t y k ok hop =>
    split at he
    · rename_i m kd hm hk
      cases hb : ZbP C t st.heap m kd ok with
      | none => rw [hb] at he; cases he
      | some d => rw [hb] at he; simp only [oA, Option.some.injEq] at he; subst he; exact (Zr0 S hop hm hk hb).wp
    · cases he
  case h_18 y i hop =>
    split at he
    · rename_i v hv
      cases hb : Zam v i with
      | none => rw [hb] at he; cases he
      | some d => rw [hb] at he; simp only [oA, Option.some.injEq] at he; subst he; exact (Zpo S hop hv hb).wp
    · cases he
  case h_19 t l c hop =>
    cases hfl : Zaq fa.frz o.dst with
    | false => rw [hfl] at he; cases he
    | true =>
      rw [hfl] at he
      simp only [cond_true] at he
      split at he
      · rename_i z sz k1 n k2 m hz hsz hl hc
        split at he
        · rename_i hcond
          obtain ⟨h0, rfl, hr, hok⟩ := hcond
          simp only [Option.some.injEq] at he
          subst he
          exact (Zu4 S hop hz hsz hl hc h0 hr hok).wp
        · cases he
      · cases he
  case h_20 c hop =>
    split at he
    · rename_i b hb
      cases hd : Zak C st b c.args.toList c.argTypes.toList with
      | none => rw [hd] at he; cases he
      | some d =>
        rw [hd] at he
        simp only [oD, Option.some.injEq] at he
        subst he
        unfold Zak at hd
        split at hd
        · rename_i y t ha ht
          split at hd
          · rename_i v hv; exact (ZyO S hop hb ha ht hv hd).wp
          · cases hd
        · rename_i xs _ _
          split at hd
          · rename_i ds hds; exact (ZtH S hop rfl hds (.inl ⟨hb, hd⟩)).wp
          · cases hd
        · rename_i xs _ _
          split at hd
          · rename_i ds hds; exact (ZtH S hop rfl hds (.inr ⟨hb, hd⟩)).wp
          · cases hd
        · cases hd
    · rename_i g hg
      split at he
      · rename_i fv vs hfv hvs
        split at he
        · rename_i f caps hf
          cases hl : Zaq fa.lend o.dst with
          | true =>
            rw [hl] at he
            simp only [cond_true] at he
            split at he
            · rename_i ds k hld
              split at he
              · rename_i r hr
                cases hok : Zp0 k r with
                | false => rw [hok] at he; cases he
                | true =>
                  rw [hok] at he
                  simp only [cond_true, Option.some.injEq] at he
                  subst he
                  exact ZsC hn hK S hop hg hfv hvs hf hr hld (fun h => by cases h) hok
              · cases he
            · cases he
          | false =>
            rw [hl] at he
            simp only [cond_false] at he
            split at he
            · rename_i ds hds
              cases hr : Zcz call (Zaq fa.frz o.dst) f ds with
              | none => rw [hr] at he; cases he
              | some r =>
                rw [hr] at he
                simp only [oD, Option.some.injEq] at he
                subst he
                exact ZsC hn hK S hop hg hfv hvs hf hr (Zo9 hds) (fun _ => rfl) rfl
            · cases he
        · cases he
      · cases he
    · cases he
  case h_21 => cases he
theorem ZeP {a : Act} {d : Nat} {v : Value} (hd : d < a.tmps.size) (s : Nat) : (a.put (some d) v).tmps.getD s undef = if s = d then v else a.tmps.getD s undef := by
  simp only [Act.put]
  by_cases h : s = d
  · subst h; rw [if_pos rfl]; simp [hd]
  · rw [if_neg h]; simp [Array.getElem?_setIfInBounds_ne (Ne.symm h)]
theorem SRel.put (S : SRel C.P fa own st a w) {dst : Option Tmp} {v : Value} {x : XV} (hx : ∀ t, dst = some t → XRel C.P w own st.heap st.env (fun s => a.tmps.getD s undef) t v x)
    (hp : st.put fa dst x = some st') : SRel C.P fa own st' (a.put dst v) w := by
  cases dst with
  | none => simp only [St.put, Option.some.injEq] at hp; subst hp; exact S
  | some t =>
    simp only [St.put] at hp
    cases hlt : Nat.blt t fa.nt with
    | false => rw [hlt] at hp; cases hp
    | true =>
      rw [hlt] at hp
      have ht : t < a.tmps.size := by rw [S.nt]; simpa [Nat.blt_eq] using hlt
      have hget := fun s => ZeP (v := v) ht s
      have hxt := hx t rfl
      simp only [cond_true] at hp
      cases hk : has fa.keep t with
      | true =>
        rw [hk] at hp
        simp only [cond_true] at hp
        split at hp
        · rename_i av hav
          simp only [Option.some.injEq] at hp
          subst hp
          have hrep : ARep C.P w own st.heap v av := by
            cases x <;> simp only [XV.flat] at hav <;> try (cases hav; done)
            · simp only [XV.a.injEq] at hav; subst hav; exact hxt
            · simp only [XV.a.injEq] at hav; subst hav; exact .d _ _ (OwnRel.rep hxt)
            · simp only [XV.a.injEq] at hav; subst hav; exact .d _ _ hxt.1
          refine ⟨S.h, by simp [Act.put, S.nt], S.defers, fun s sv hs => ?_, S.tk, fun s sv hs => ?_, fun u y hu => ?_⟩
          · rw [ZaN] at hs
            cases hb : Nat.beq t s with
            | true => rw [← Nat.eq_of_beq_eq_true hb]; exact hk
            | false => rw [hb] at hs; exact S.ek s sv hs
          · rw [ZaN] at hs
            rw [hget s]
            cases hb : Nat.beq t s with
            | true =>
              rw [hb] at hs
              simp only [cond_true, Option.some.injEq] at hs
              subst hs
              rw [if_pos (Nat.eq_of_beq_eq_true hb).symm]
              exact hrep
            | false =>
              rw [hb] at hs
              rw [if_neg (Ne.symm (beq_ne.1 hb))]
              exact S.env s sv hs
          · have hut : u ≠ t := by rintro rfl; rw [S.tk u y hu] at hk; cases hk
            rw [hget u, if_neg hut]
            refine (S.tmp u y hu).mono ((Grow.refl w).extA own st.heap) (fun _ _ _ _ hb => hb) ((Grow.refl w).keep S.h _) (fun s es hal es' hes => ?_)
            rw [ZaN] at hes
            cases hb : Nat.beq t s with
            | true => rw [hb] at hes; simp at hes
            | false => rw [hb] at hes; exact ⟨hes, by rw [hget s, if_neg (Ne.symm (beq_ne.1 hb))]⟩
        · cases hp
      | false =>
        rw [hk] at hp
        simp only [cond_false, Option.some.injEq] at hp
        subst hp
        have alfix : ∀ u y, XRel C.P w own st.heap st.env (fun s => a.tmps.getD s undef) u (if u = t then v else a.tmps.getD u undef) y →
            XRel C.P w own st.heap st.env (fun s => (a.put (some t) v).tmps.getD s undef) u (if u = t then v else a.tmps.getD u undef) y := by
          intro u y hy
          refine hy.mono ((Grow.refl w).extA own st.heap) (fun _ _ _ _ hb => hb) ((Grow.refl w).keep S.h _) (fun s es hal es' hes => ⟨hes, ?_⟩)
          have : s ≠ t := by rintro rfl; rw [S.ek s _ hes] at hk; cases hk
          rw [hget s, if_neg this]
        refine ⟨S.h, by simp [Act.put, S.nt], S.defers, S.ek, fun u y hu => ?_, fun s sv hs => ?_, fun u y hu => ?_⟩
        · rw [Za2] at hu
          cases hb : Nat.beq t u with
          | true => rw [← Nat.eq_of_beq_eq_true hb]; exact hk
          | false => rw [hb] at hu; exact S.tk u y hu
        · have : s ≠ t := by rintro rfl; rw [S.ek s sv hs] at hk; cases hk
          rw [hget s, if_neg this]
          exact S.env s sv hs
        · rw [Za2] at hu
          rw [hget u]
          refine alfix u y ?_
          cases hb : Nat.beq t u with
          | true =>
            rw [hb] at hu
            simp only [cond_true, Option.some.injEq] at hu
            subst hu
            have := Nat.eq_of_beq_eq_true hb
            subst this
            rw [if_pos rfl]
            exact hxt
          | false =>
            rw [hb] at hu
            rw [if_neg (Ne.symm (beq_ne.1 hb))]
            exact S.tmp u y hu
end
end Go.Abs
namespace Go.Abs
def ZeV (P : Program) (fa : FA) (own : Own) (h : List AObj) (st' : St) (a : Act) (w : World) (o : Oper) : Prop :=
  ∀ (K : Act → World → Prop) (Q : Exit → Act → World → Prop), (∀ a' w' own', SRel P fa own' st' a' w' → Frm w own w' own' → ExtA w own h w' own' st'.heap → K a' w') → o.wp P a w K Q
section
variable {C : Ctx} {call : Zaa} {fa : FA} {own own' : Own} {st st' : St} {a : Act} {w w' : World} {o : Oper}
theorem Zbi {v : Value} (hr : (execOp a.eval o).run C.P w = .ok (.value v) w') (S : SRel C.P fa own' st' (a.put o.dst v) w') (F : Frm w own w' own') (E : ExtA w own st.heap w' own' st'.heap) : ZeV C.P fa own st.heap st' a w o := by
  intro K Q hK
  unfold Oper.wp
  rw [hr]
  exact hK _ _ _ S F E
theorem ZhW (hr : (execOp a.eval o).run C.P w = .ok .skip w') (S : SRel C.P fa own' st' (a.put o.dst undef) w') (F : Frm w own w' own') (E : ExtA w own st.heap w' own' st'.heap) : ZeV C.P fa own st.heap st' a w o := by
  intro K Q hK
  unfold Oper.wp
  rw [hr]
  exact hK _ _ _ S F E
theorem ZbX {dst : Option Tmp} {x : XV} (hp : st.put fa dst x = some st') : st'.heap = st.heap := by
  unfold St.put at hp
  split at hp
  · simp only [Option.some.injEq] at hp; subst hp; rfl
  · rename_i t
    cases h1 : Nat.blt t fa.nt <;> rw [h1] at hp
    · cases hp
    · cases h2 : has fa.keep t <;> rw [h2] at hp
      · simp only [cond_true, cond_false, Option.some.injEq] at hp; subst hp; rfl
      · simp only [cond_true] at hp
        split at hp
        · simp only [Option.some.injEq] at hp; subst hp; rfl
        · cases hp
theorem Zjf (S : SRel C.P fa own st a w) {x : XV} (hv : ZvK C.P own st a w o x) (hp : st.put fa o.dst x = some st') : ZeV C.P fa own st.heap st' a w o := by
  intro K Q hK
  refine hv K Q fun v w' g hr => ?_
  exact hK _ _ own ((S.grow g).put (fun t _ => hr t) hp) (g.frm own) (by rw [ZbX hp]; exact g.extA own st.heap)
theorem SRel.heapStep (S : SRel C.P fa own st a w) {h' : List AObj} (H : HRel C.P w' own' h') (e : ExtA w own st.heap w' own' h')
    (k : ∀ x, (∀ id, x ≠ .obj id) → Keep w own w' own' x) : SRel C.P fa own' { st with heap := h' } a w' :=
  ⟨H, S.nt, S.defers, S.ek, S.tk, fun s sv hs => (S.env s sv hs).mono e (k _ (by simp)) (k _ (by simp)),
    fun t x ht => (S.tmp t x ht).mono e (fun s _ _ b hb => (k (.box s) (by simp) b 0 hb).1) (k _ (by simp)) (fun _ _ _ _ he => ⟨he, rfl⟩)⟩
def upd (own : Own) (b : Nat) (y : Option (Owner × Nat)) : Own := fun k => if k = b then y else own k
theorem Yb3 (H : HRel C.P w own st.heap) : own w.heap.size = none := by
  cases h : own w.heap.size with
  | none => rfl
  | some x => exact absurd (H.lt _ _ h) (Nat.lt_irrefl _)
theorem ZnC {P : Program} {h h' : List AObj} (H : HRel P w own h) (g : Grow w w') (y : Option (Owner × Nat)) (hlen : h.length ≤ h'.length)
    (hk : ∀ (id : Nat) (x x' : AObj), h[id]? = some x → h'[id]? = some x' → x = x') : ExtA w own h w' (upd own w.heap.size y) h' := by
  have hu : ∀ b, b < w.heap.size → upd own w.heap.size y b = own b := fun b hb => by simp [upd, Nat.ne_of_lt hb]
  refine ⟨⟨fun b o v hc hp => ⟨by rw [Zcc (g.blk b (Zdj hc)), hc], fun x f hx => hp x f (by rwa [hu b (Zdj hc)] at hx)⟩,
    fun b es c hc hp => ⟨by rw [g.blk b (Za4 hc), hc], by rw [hu b (Za4 hc), hp]⟩⟩, hlen, fun id x x' h1 h2 => ?_, fun b id x x' hb h1 h2 _ => ?_⟩
  · rw [hk id x x' h1 h2]; exact AObj.later_refl x'
  · exact ⟨by rw [hu b (H.lt b _ hb), hb], fun c T fr hc => ⟨c, by rw [g.blk b (Za4 hc), hc], rfl⟩⟩
theorem Zku {P : Program} {h : List AObj} (H : HRel P w own h) (g : Grow w w') (y : Option (Owner × Nat)) (x : Owner) : Keep w own w' (upd own w.heap.size y) x :=
  fun b f hb => ⟨by simp [upd, Nat.ne_of_lt (H.lt b _ hb), hb], g.blk b (H.lt b _ hb)⟩
theorem ZgK (g : Grow w w') (y : Option (Owner × Nat)) : Frm w own w' (upd own w.heap.size y) :=
  ⟨g.os, g.tape, g.output, g.size, fun b hb _ => ⟨g.blk b hb, by simp [upd, Nat.ne_of_lt hb]⟩⟩
theorem SRel.newObj (S : SRel C.P fa own st a w) (g : Grow w w') (hlt : w.heap.size < w'.heap.size) {x : AObj}
    (hx : ∀ own', ExtA w own st.heap w' own' (st.heap ++ [x]) → own' w.heap.size = some (.obj st.heap.length, 0) → ORel C.P w' own' (st.heap ++ [x]) w.heap.size x) :
    SRel C.P fa (upd own w.heap.size (some (.obj st.heap.length, 0))) { st with heap := st.heap ++ [x] } a w' ∧
      ExtA w own st.heap w' (upd own w.heap.size (some (.obj st.heap.length, 0))) (st.heap ++ [x]) := by
  have hold : ∀ id y, st.heap[id]? = some y → (st.heap ++ [x])[id]? = some y := fun id y hy => by rw [List.getElem?_append_left (List.getElem?_eq_some_iff.1 hy).1, hy]
  have e := ZnC S.h g (some (.obj st.heap.length, 0)) (h' := st.heap ++ [x]) (by simp) (fun id y y' h1 h2 => by rw [hold id y h1] at h2; simpa using h2)
  have hu : ∀ b, b < w.heap.size → upd own w.heap.size (some (.obj st.heap.length, 0)) b = own b := fun b hb => by simp [upd, Nat.ne_of_lt hb]
  have hnew : upd own w.heap.size (some (.obj st.heap.length, 0)) w.heap.size = some (.obj st.heap.length, 0) := by simp [upd]
  have cases' : ∀ b z, upd own w.heap.size (some (.obj st.heap.length, 0)) b = some z → (b = w.heap.size ∧ z = (.obj st.heap.length, 0)) ∨ own b = some z := by
    intro b z hz
    unfold upd at hz
    split at hz
    · simp only [Option.some.injEq] at hz; exact .inl ⟨by assumption, hz.symm⟩
    · exact .inr hz
  refine ⟨S.heapStep ⟨fun id y hy => ?_, fun b b' z f f' h1 h2 hne => ?_, fun b z hz => ?_, fun b id f hb => ?_⟩ e (fun z _ => Zku S.h g _ z), e⟩
  · rcases Nat.lt_or_ge id st.heap.length with hid | hid
    · rw [List.getElem?_append_left hid] at hy
      obtain ⟨b, hb, hr⟩ := S.h.obj id y hy
      have hlt' := S.h.lt b _ hb
      exact ⟨b, by rw [hu b hlt', hb], hr.mono e (g.blk b hlt')⟩
    · rw [List.getElem?_append_right hid] at hy
      have : id = st.heap.length := by
        have := (List.getElem?_eq_some_iff.1 hy).1
        simp at this; omega
      subst this
      simp at hy
      subst hy
      exact ⟨w.heap.size, hnew, hx _ e hnew⟩
  · rcases cases' b _ h1 with ⟨rfl, hz⟩ | hz <;> rcases cases' b' _ h2 with ⟨rfl, hz'⟩ | hz'
    · rfl
    · simp only [Prod.mk.injEq] at hz
      rw [hz.1] at hz'
      exact absurd (S.h.idlt _ _ _ hz').1 (Nat.lt_irrefl _)
    · simp only [Prod.mk.injEq] at hz'
      rw [hz'.1] at hz
      exact absurd (S.h.idlt _ _ _ hz).1 (Nat.lt_irrefl _)
    · exact S.h.uniq b b' z f f' hz hz' hne
  · rcases cases' b _ hz with ⟨rfl, _⟩ | hz
    · exact hlt
    · exact Nat.lt_of_lt_of_le (S.h.lt b _ hz) g.size
  · rcases cases' b _ hb with ⟨rfl, hz⟩ | hz
    · simp only [Prod.mk.injEq, Owner.obj.injEq] at hz; exact ⟨by simp [hz.1], hz.2⟩
    · have := S.h.idlt b id f hz; exact ⟨by simp; omega, this.2⟩
theorem ZdV (w : World) (x : Obj) : (w.alloc x).heap.size = w.heap.size + 1 := by simp
theorem ZeA (w : World) (x : Obj) : (w.alloc x).heap[w.heap.size]? = some x := by
  show (w.heap.push x)[_]? = _
  simp
theorem ZrA (S : SRel C.P fa own st a w) {t : TypeId} (hop : o.op = .makeMap t none)
    (he : St.put fa { st with heap := st.heap ++ [AObj.map []] } o.dst (.a (.mp st.heap.length)) = some st') : ZeV C.P fa own st.heap st' a w o := by
  have g := Grow.alloc w (.map #[] 0)
  have S1 := S.newObj g (by rw [ZdV]; omega) (x := .map []) (fun own' _ _ => ⟨#[], 0, ZeA w _, ⟨by simp, by simp⟩, rfl, fun j e x he => by simp at he⟩)
  refine Zbi (v := .map (some w.heap.size)) (w' := w.alloc (.map #[] 0)) (by simp [execOp, hop, Instr.makeMap]) (S1.1.put (fun t _ => ?_) he) (ZgK g _) (by rw [ZbX he]; exact S1.2)
  exact .mp _ _ (by simp) (fun es _ => ⟨w.heap.size, by simp [upd], rfl⟩) ⟨_, rfl⟩
theorem Yab {h : List AObj} {v : Value} {x : AV} (hr : ARep C.P w own h v x) (hk : x.cellOk = true) : v.cells.size = x.cells.length ∧
    (∀ (i : Nat) u, v.cells[i]? = some u → u.oneCell' = true) ∧ ∀ (i : Nat) u y, v.cells[i]? = some u → x.cells[i]? = some y → ARep C.P w own h u y := by
  have one : v.oneCell' = true → v.cells = #[v] → x.cells = [x] → v.cells.size = x.cells.length ∧
    (∀ (i : Nat) u, v.cells[i]? = some u → u.oneCell' = true) ∧ ∀ (i : Nat) u y, v.cells[i]? = some u → x.cells[i]? = some y → ARep C.P w own h u y := by
    intro h1 hv hx
    rw [hv, hx]
    refine ⟨rfl, fun i u hu => ?_, fun i u y hu hy => ?_⟩
    · cases i with
      | zero => simp at hu; subst hu; exact h1
      | succ i => simp at hu
    · cases i with
      | zero => simp at hu hy; subst hu; subst hy; exact hr
      | succ i => simp at hu
  cases x with
  | d y =>
    have hc : (AV.d y).cells = y.cells.map .d := by cases y <;> rfl
    obtain ⟨h1, h2, h3⟩ := CellsRel.of hr.d_inv (d := y) hk
    rw [hc]
    refine ⟨by simp [h1], h2, fun i u z hu hz => ?_⟩
    rw [List.getElem?_map, Option.map_eq_some_iff] at hz
    obtain ⟨z', hz', rfl⟩ := hz
    exact .d _ _ (h3 i u z' hu hz')
  | tup vs => simp [AV.cellOk] at hk
  | ptr id off => obtain ⟨_, _, b, o', rfl⟩ := hr.ptr_inv; exact one rfl rfl rfl
  | osl id g n => obtain ⟨_, ⟨_, _, rfl⟩, _⟩ := hr.osl_inv; exact one rfl rfl rfl
  | mp id => obtain ⟨_, _, b, rfl⟩ := hr.mp_inv; exact one rfl rfl rfl
  | fn f as => cases hr with | fn f cs as hl hh => exact one rfl rfl rfl
  | raw u =>
    cases hr with
    | raw v h1 => exact one h1 (by cases v <;> first | rfl | simp [Value.oneCell'] at h1) rfl
theorem Zun (S : SRel C.P fa own st a w) {t : TypeId} {v : Value} {x : AV} (hr : ARep C.P w own st.heap v x) (hk : x.cellOk = true)
    (hrun : (execOp a.eval o).run C.P w = .ok (.value (.pointer (some ⟨w.heap.size, 0, none⟩))) (w.alloc (.cells v.cells t)))
    (he : St.put fa { st with heap := st.heap ++ [AObj.var x.cells] } o.dst (.a (.ptr st.heap.length 0)) = some st') : ZeV C.P fa own st.heap st' a w o := by
  have g := Grow.alloc w (.cells v.cells t)
  obtain ⟨h1, h2, h3⟩ := Yab hr hk
  have S1 := S.newObj g (by rw [ZdV]; omega) (x := .var x.cells) (fun own' e _ => ⟨v.cells, t, (0, 0), ZeA w _, fun j _ hj => by simp at hj, h1, fun j y hy => by
    have hj : j < v.cells.size := by rw [h1]; exact (List.getElem?_eq_some_iff.1 hy).1
    have hu := Array.getElem?_eq_getElem hj
    exact ⟨_, hu, h2 j _ hu, (h3 j _ y hu hy).mono e⟩⟩)
  refine Zbi hrun (S1.1.put (fun t _ => ?_) he) (ZgK g _) (by rw [ZbX he]; exact S1.2)
  exact .ptr _ _ _ (by simp) (fun cs _ => ⟨w.heap.size, by simp [upd], rfl⟩) ⟨_, _, rfl⟩
def ZuY (own : Own) (b s : Nat) : Own := fun k => if k = b then some (.box s, 0) else match own k with
  | some (x, f) => if x = .box s then none else some (x, f)
  | none => none
theorem Zu3 {s : Nat} : ∀ {l : List (Nat × XV)}, Zd2 s l = true → ∀ t k off, Zab l t = some (.sp k off) → k ≠ s := by
  intro l
  induction l with
  | nil => intro _ t k off h; simp [Zab] at h
  | cons e l ih =>
    obtain ⟨u, x⟩ := e
    intro h t k off hk
    have tail : Zd2 s l = true := by
      cases x <;> simp only [Zd2] at h <;> try exact h
      cases hb : Nat.beq _ s with
      | true => rw [hb] at h; cases h
      | false => rw [hb] at h; exact h
    simp only [Zab] at hk
    cases hb : Nat.beq u t with
    | true =>
      rw [hb] at hk
      simp only [cond_true, Option.some.injEq] at hk
      subst hk
      simp only [Zd2] at h
      cases hb' : Nat.beq k s with
      | true => rw [hb'] at h; cases h
      | false => exact beq_ne.1 hb'
    | false => rw [hb] at hk; exact ih tail t k off hk
theorem ZtY (S : SRel C.P fa own st a w) {t : TypeId} {v : Value} {x : DV} {s : Nat} (hr : Rep w own v x) (hk : x.cellOk = true)
    (hrun : (execOp a.eval o).run C.P w = .ok (.value (.pointer (some ⟨w.heap.size, 0, none⟩))) (w.alloc (.cells v.cells t)))
    (hd : o.dst = some s) (hks : has fa.keep s = true) (hns : Zd2 s st.tmp = true) (hlt : Nat.blt s fa.nt = true) : ZeV C.P fa own st.heap { st with env := Zdk st.env s (.box x.cells) } a w o := by
  have g := Grow.alloc w (.cells v.cells t)
  obtain ⟨h1, h2, h3⟩ := CellsRel.of hr hk
  have hst : s < a.tmps.size := by rw [S.nt]; simpa [Nat.blt_eq] using hlt
  have hnew := Yb3 S.h
  let own' := ZuY own w.heap.size s
  have cs : ∀ b z, own' b = some z → (b = w.heap.size ∧ z = (.box s, 0)) ∨ (own b = some z ∧ z.1 ≠ .box s) := by
    intro b z hz
    simp only [own', ZuY] at hz
    split at hz
    · simp only [Option.some.injEq] at hz; exact .inl ⟨by assumption, hz.symm⟩
    · split at hz
      · rename_i y f hy
        split at hz
        · cases hz
        · rename_i hne; simp only [Option.some.injEq] at hz; subst hz; exact .inr ⟨hy, hne⟩
      · cases hz
  have old : ∀ b z, own b = some z → z.1 ≠ .box s → own' b = some z := by
    intro b z hz hne
    have : b ≠ w.heap.size := Nat.ne_of_lt (S.h.lt b _ hz)
    obtain ⟨y, f⟩ := z
    simp only [own', ZuY, if_neg this, hz]
    rw [if_neg hne]
  have e : ExtA w own st.heap (w.alloc (.cells v.cells t)) own' st.heap := by
    refine ⟨⟨fun b i u hc hp => ⟨by rw [Zcc (g.blk b (Zdj hc)), hc], fun y f hy => ?_⟩, fun b es c hc hp => ⟨by rw [g.blk b (Za4 hc), hc], ?_⟩⟩, Nat.le_refl _,
      fun id y y' h1 h2 => by rw [h1] at h2; simp only [Option.some.injEq] at h2; subst h2; exact AObj.later_refl y, fun b id y y' hb _ _ _ =>
        ⟨old b _ hb (by simp), fun c T fr hc => ⟨c, by rw [g.blk b (Za4 hc), hc], rfl⟩⟩⟩
    · rcases cs b _ hy with ⟨rfl, _⟩ | ⟨hy, _⟩
      · exact absurd (Zdj hc) (Nat.lt_irrefl _)
      · exact hp y f hy
    · cases hx : own' b with
      | none => rfl
      | some z =>
        rcases cs b _ hx with ⟨rfl, _⟩ | ⟨hy, _⟩
        · exact absurd (Za4 hc) (Nat.lt_irrefl _)
        · rw [hp] at hy; cases hy
  have keep : ∀ y, y ≠ .box s → Keep w own (w.alloc (.cells v.cells t)) own' y := fun y hy b f hb => ⟨old b _ hb hy, g.blk b (S.h.lt b _ hb)⟩
  have H : HRel C.P (w.alloc (.cells v.cells t)) own' st.heap := by
    refine ⟨fun id y hy => ?_, fun b b' z f f' h1 h2 hne => ?_, fun b z hz => ?_, fun b id f hb => ?_⟩
    · obtain ⟨b, hb, hr⟩ := S.h.obj id y hy
      exact ⟨b, old b _ hb (by simp), hr.mono e (g.blk b (S.h.lt b _ hb))⟩
    · rcases cs b _ h1 with ⟨rfl, hz⟩ | ⟨hz, hzn⟩ <;> rcases cs b' _ h2 with ⟨rfl, hz'⟩ | ⟨hz', hzn'⟩
      · rfl
      · simp only [Prod.mk.injEq] at hz; exact absurd hz.1 hzn'
      · simp only [Prod.mk.injEq] at hz'; exact absurd hz'.1 hzn
      · exact S.h.uniq b b' z f f' hz hz' hne
    · rcases cs b _ hz with ⟨rfl, _⟩ | ⟨hz, _⟩
      · rw [ZdV]; omega
      · exact Nat.lt_of_lt_of_le (S.h.lt b _ hz) g.size
    · rcases cs b _ hb with ⟨_, hz⟩ | ⟨hz, _⟩
      · simp at hz
      · exact S.h.idlt b id f hz
  have hget := fun u => ZeP (v := .pointer (some ⟨w.heap.size, 0, none⟩)) hst u
  have htk : ∀ u y, Zab st.tmp u = some y → u ≠ s := by
    rintro u y hu rfl
    rw [S.tk u y hu] at hks; cases hks
  refine Zbi (own' := own') hrun ?_ ⟨g.os, g.tape, g.output, g.size, fun b hb ho => ⟨g.blk b hb, ?_⟩⟩ e
  · rw [hd]
    refine ⟨H, by simp [Act.put, S.nt], S.defers, fun u sv hu => ?_, S.tk, fun u sv hu => ?_, fun u y hu => ?_⟩
    · simp only at hu
      rw [ZaN] at hu
      cases hb : Nat.beq s u with
      | true => rw [← Nat.eq_of_beq_eq_true hb]; exact hks
      | false => rw [hb] at hu; exact S.ek u sv hu
    · simp only at hu
      rw [ZaN] at hu
      rw [hget u]
      cases hb : Nat.beq s u with
      | true =>
        rw [hb] at hu
        simp only [cond_true, Option.some.injEq] at hu
        subst hu
        have := Nat.eq_of_beq_eq_true hb
        subst this
        rw [if_pos rfl]
        refine ⟨w.heap.size, v.cells, t, (0, 0), by simp [own', ZuY], rfl, ZeA w _, fun j _ hj => by simp at hj, h1, fun j y hy => ?_⟩
        have hj : j < v.cells.size := by rw [h1]; exact (List.getElem?_eq_some_iff.1 hy).1
        have hu := Array.getElem?_eq_getElem hj
        exact ⟨_, hu, h2 j _ hu, (h3 j _ y hu hy).mono e.ext⟩
      | false =>
        rw [hb] at hu
        have hne := beq_ne.1 hb
        rw [if_neg (Ne.symm hne)]
        exact (S.env u sv hu).mono e (keep _ (by simp; exact Ne.symm hne)) (keep _ (by simp))
    · rw [hget u, if_neg (htk u y hu)]
      refine (S.tmp u y hu).mono e (fun k off hk b hb => old b _ hb ?_) (keep _ (by simp)) (fun k es hk es' hes => ?_)
      · subst hk
        have := Zu3 hns u k off hu
        simpa using this
      · simp only at hes
        rw [ZaN] at hes
        cases hb : Nat.beq s k with
        | true => rw [hb] at hes; simp at hes
        | false => rw [hb] at hes; exact ⟨hes, by rw [hget k, if_neg (Ne.symm (beq_ne.1 hb))]⟩
  · rcases ho with ho | ⟨f, ho⟩
    · rw [ho]
      simp only [own', ZuY, if_neg (Nat.ne_of_lt hb), ho]
    · rw [ho]; exact old b _ ho (by simp)
theorem ZpI (S : SRel C.P fa own st a w) {t : TypeId} {v : Value} {x : AV} (hr : ARep C.P w own st.heap v x)
    (hrun : (execOp a.eval o).run C.P w = .ok (.value (.pointer (some ⟨w.heap.size, 0, none⟩))) (w.alloc (.cells v.cells t)))
    (he : ZaU fa st o.dst x = some st') : ZeV C.P fa own st.heap st' a w o := by
  unfold ZaU at he
  cases hk : x.cellOk with
  | false => rw [hk] at he; cases he
  | true =>
  rw [hk] at he
  simp only [Bool.not_true, cond_false] at he
  cases hh : ZaG fa o.dst with
  | true => rw [hh] at he; exact Zun S hr hk hrun he
  | false =>
    rw [hh] at he
    simp only [cond_false] at he
    split at he
    · rename_i s u hd
      cases hb : has fa.keep s && Zd2 s st.tmp && Nat.blt s fa.nt with
      | false => rw [hb] at he; cases he
      | true =>
        rw [hb] at he
        simp only [cond_true, Option.some.injEq] at he
        subst he
        simp only [Bool.and_eq_true] at hb
        exact ZtY S hr.d_inv hk hrun hd hb.1.1 hb.1.2 hb.2
    · cases he
end
end Go.Abs
namespace Go.Abs
theorem ZcD {P : Program} (g o : Nat) (t : TypeId) (fr : Nat × Nat) : ∀ (vs : List Value) (i : Nat) (cur : Array Value) (w : World), w.heap[g]? = some (.cells cur t fr) → Zf3 cur fr →
    o + i + vs.length ≤ cur.size → (∀ v ∈ vs, v.oneCell' = true) →
    ∃ c' : Array Value, (storeCells ⟨g, o, none⟩ vs i).run P w = .ok () (w.setRow g c') ∧ c'.size = cur.size ∧
      ∀ j : Nat, c'[j]? = if o + i ≤ j ∧ j < o + i + vs.length then vs[j - (o + i)]? else cur[j]?
  | [], i, cur, w, hg, _, _, _ => by
    refine ⟨cur, by rw [setRow_self w g cur t fr hg]; rfl, rfl, fun j => ?_⟩
    rw [if_neg (by simp)]
  | v :: rest, i, cur, w, hg, hnf, hl, h1 => by
    have hi : o + i < cur.size := by simp at hl; omega
    have hcell : w.cell? ⟨g, o + i, none⟩ = some cur[o + i] := by simp [World.cell?, hg, hi]
    have hfro : w.frozen? ⟨g, o + i, none⟩ = false := by
      have := hnf (o + i) hi
      simp only [World.frozen?, hg]
      simpa using this
    have hst : (store ((⟨g, o, none⟩ : Addr).add i) v).run P w = .ok () (w.setRow g (cur.setIfInBounds (o + i) v)) := by
      rw [Addr.add_lit, run_store P w _ v _ (h1 v (by simp)), hcell]
      simp [hfro, setCell_eq_setRow w g (o + i) cur t fr v hg]
    obtain ⟨c', e1, e2, e3⟩ := ZcD (P := P) g o t fr rest (i + 1) (cur.setIfInBounds (o + i) v) (w.setRow g (cur.setIfInBounds (o + i) v)) (setRow_heap w g cur _ t _ hg)
      (fun j hj => hnf j (by simpa using hj)) (by simp at hl ⊢; omega) (fun x hx => h1 x (by simp [hx]))
    refine ⟨c', ?_, by rw [e2]; simp, fun j => ?_⟩
    · simp only [storeCells, Sem.run_bind, hst, Result.andThen_ok, e1, setRow_setRow]
    · rw [e3 j]
      by_cases h : o + (i + 1) ≤ j ∧ j < o + (i + 1) + rest.length
      · rw [if_pos h, if_pos (by simp only [List.length_cons]; omega)]
        rw [show j - (o + i) = (j - (o + (i + 1))) + 1 by omega, List.getElem?_cons_succ]
      · rw [if_neg h]
        by_cases hj : j = o + i
        · subst hj
          rw [if_pos (by simp only [List.length_cons]; omega)]
          simp [hi]
        · rw [if_neg (by simp only [List.length_cons]; omega)]
          simp [Array.getElem?_setIfInBounds_ne (Ne.symm hj)]
section
variable {C : Ctx} {call : Zaa} {fa : FA} {own own' : Own} {st st' : St} {a : Act} {w w' : World} {o : Oper}
theorem size_setRow (w : World) (g : Nat) (c : Array Value) : (w.setRow g c).heap.size = w.heap.size := by simp [World.setRow]
theorem Zjp {h h' : List AObj} {b : Nat} {x : Owner} {c c' : Array Value} {T : TypeId} {fr : Nat × Nat} (hb : own b = some (x, 0)) (hc : w.heap[b]? = some (.cells c T fr)) (hs : c'.size = c.size)
    (hlen : h.length ≤ h'.length) (hk : ∀ (id : Nat) (y y' : AObj), h[id]? = some y → h'[id]? = some y' → y.later y') : ExtA w own h (w.setRow b c') own h' := by
  have other : ∀ k, k ≠ b → (w.setRow b c').heap[k]? = w.heap[k]? := fun k hk => setRow_other w b k c' hk
  refine ⟨⟨fun k i v hv hp => ?_, fun k es cl hm hn => ?_⟩, hlen, hk, fun k id y y' hb' _ _ _ => ⟨hb', fun c0 T0 fr0 hc0 => ?_⟩⟩
  · have hne : k ≠ b := by rintro rfl; exact absurd (hp x 0 hb) (Nat.not_lt_zero _)
    exact ⟨by rw [Zcc (other k hne), hv], hp⟩
  · have hne : k ≠ b := by rintro rfl; rw [hb] at hn; cases hn
    exact ⟨by rw [other k hne, hm], hn⟩
  · by_cases hne : k = b
    · subst hne
      rw [hc] at hc0
      simp only [Option.some.injEq, Obj.cells.injEq] at hc0
      obtain ⟨rfl, rfl, rfl⟩ := hc0
      exact ⟨c', setRow_heap w k c c' T fr hc, hs⟩
    · exact ⟨c0, by rw [other k hne, hc0], rfl⟩
theorem ZcC {b : Nat} {x : Owner} {c' : Array Value} (hb : own b = some (x, 0)) (y : Owner) (hy : y ≠ x) : Keep w own (w.setRow b c') own y := by
  intro k f hk
  have hne : k ≠ b := by rintro rfl; rw [hb] at hk; simp only [Option.some.injEq, Prod.mk.injEq] at hk; exact hy hk.1.symm
  exact ⟨hk, setRow_other w b k c' hne⟩
theorem ZrZ {b : Nat} {x : Owner} {c' : Array Value} (hb : own b = some (x, 0)) (hx : x ≠ .ext) : Frm w own (w.setRow b c') own := by
  refine ⟨rfl, rfl, rfl, by rw [size_setRow]; exact Nat.le_refl _, fun k _ hk => ?_⟩
  have hne : k ≠ b := by
    rintro rfl
    rcases hk with hk | ⟨f, hk⟩
    · rw [hb] at hk; cases hk
    · rw [hb] at hk; simp only [Option.some.injEq, Prod.mk.injEq] at hk; exact hx hk.1
  exact ⟨setRow_other w b k c' hne, rfl⟩
theorem ZeS {t : TypeId} {v : Value} {n b off : Nat} {c : Array Value} {T : TypeId} {fr : Nat × Nat} (hn : C.size t = some n) (hv : v.cells.size = n) (hone : ∀ (i : Nat) u, v.cells[i]? = some u → u.oneCell' = true)
    (hc : w.heap[b]? = some (.cells c T fr)) (hnf : Zf3 c fr) (hle : off + n ≤ c.size) :
    ∃ c' : Array Value, (Instr.storeAt t (.pointer (some ⟨b, off, none⟩)) v).run C.P w = .ok () (w.setRow b c') ∧ c'.size = c.size ∧
      ∀ j : Nat, c'[j]? = if off ≤ j ∧ j < off + n then v.cells[j - off]? else c[j]? := by
  obtain ⟨c', h1, h2, h3⟩ := ZcD (P := C.P) b off T fr v.cells.toList 0 c w hc hnf (by simpa [hv] using hle) (fun u hu => by
    obtain ⟨i, hi, rfl⟩ := List.mem_iff_getElem.1 hu
    exact hone i _ (by rw [← Array.getElem?_toList]; exact List.getElem?_eq_getElem hi))
  refine ⟨c', ?_, h2, fun j => ?_⟩
  · simp only [Instr.storeAt, Instr.sureAddr, Sem.run_bind, Sem.run_pure, Result.andThen_ok, storeVar, ZnU hn]
    rw [if_neg (by simp [hv])]
    exact h1
  · rw [h3 j]
    simp only [Nat.add_zero, Array.length_toList, hv, Array.getElem?_toList]
theorem Zma {e e' : AV} {cs : List AV} (h : Zed e cs = some e') : e'.cells = cs := by
  unfold Zed at h
  split at h
  · simp only [Option.map_eq_some_iff] at h
    obtain ⟨ds, hd, rfl⟩ := h
    exact (ZeF hd).symm
  · split at h
    · rename_i v
      cases hs : v.single with
      | false => rw [hs] at h; cases h
      | true =>
        rw [hs] at h
        simp only [cond_true, Option.some.injEq] at h
        subst h
        cases v <;> first | rfl | (rename_i x; cases x <;> first | rfl | simp [AV.single] at hs)
    · cases h
theorem ZvU (S : SRel C.P fa own st a w) {t : TypeId} {x y : Operand} {p : XV} {v : AV} {st1 : St} (hop : o.op = .store t x y) (hx : opd st x = some p) (hy : opA st y = some v)
    (he : ZaZ C t st p v = some st1) (hput : st1.put fa o.dst .un = some st') : ZeV C.P fa own st.heap st' a w o := by
  have hp := Zf0 S hx 0
  have hv := Zb8 S hy
  unfold ZaZ at he
  split at he
  · cases he
  · rename_i n hn
    cases hb : Nat.beq n v.cells.length && v.cellOk with
    | false => rw [hb] at he; cases he
    | true =>
      rw [hb] at he
      simp only [Bool.and_eq_true] at hb
      have hlen : n = v.cells.length := Nat.eq_of_beq_eq_true hb.1
      obtain ⟨g1, g2, g3⟩ := Yab hv hb.2
      have hvs : (a.eval y).cells.size = n := by rw [g1, hlen]
      simp only [cond_true] at he
      have fin : ∀ (b off : Nat) (c' : Array Value) (xo : Owner), a.eval x = .pointer (some ⟨b, off, none⟩) → (Instr.storeAt t (.pointer (some ⟨b, off, none⟩)) (a.eval y)).run C.P w = .ok () (w.setRow b c') →
          own b = some (xo, 0) → xo ≠ .ext → ExtA w own st.heap (w.setRow b c') own st1.heap → SRel C.P fa own st1 a (w.setRow b c') → ZeV C.P fa own st.heap st' a w o := by
        intro b off c' xo h1 h2 h3 h4 E S1
        refine ZhW (w' := w.setRow b c') ?_ (S1.put (x := XV.un) (fun t _ => rfl) hput) (ZrZ h3 h4) (by rw [ZbX hput]; exact E)
        simp only [execOp, hop, h1, Sem.run_bind, h2, Result.andThen_ok, Sem.run_pure]
      cases p with
      | sp s off =>
        simp only at he
        split at he
        · rename_i cs hs
          split at he
          · rename_i ds hds
            split at he
            · rename_i cs' hsp
              simp only [Option.some.injEq] at he
              subst he
              obtain ⟨b, hob, hxv⟩ := hp
              obtain ⟨b', c, T, fr, hob', hsv, hc, hnf, hsz, hcs⟩ := S.env s _ hs
              have hbb : b = b' := S.h.uniq b b' _ _ _ hob hob' (by simp)
              subst hbb
              obtain ⟨s1, s2, s3⟩ := Zhc hsp
              have hvd := ZeF hds
              have hdl : ds.length = n := by rw [hlen, hvd, List.length_map]
              obtain ⟨c', r1, r2, r3⟩ := ZeS hn hvs g2 hc hnf (b := b) (off := off) (by rw [hsz]; omega)
              have e := Zjp (h := st.heap) (h' := st.heap) hob hc r2 (Nat.le_refl _) (fun id y y' h1 h2 => by rw [h1] at h2; simp only [Option.some.injEq] at h2; subst h2; exact AObj.later_refl y)
              refine fin b off c' _ hxv r1 hob (by simp) e ?_
              have H : HRel C.P (w.setRow b c') own st.heap := by
                refine ⟨fun id y hy => ?_, S.h.uniq, fun k z hz => by rw [size_setRow]; exact S.h.lt k z hz, S.h.idlt⟩
                obtain ⟨k, hk, hr⟩ := S.h.obj id y hy
                exact ⟨k, hk, hr.mono e (ZcC hob _ (by simp) k 0 hk).2⟩
              refine ⟨H, S.nt, S.defers, fun u sv hu => ?_, S.tk, fun u sv hu => ?_, fun u z hu => ?_⟩
              · simp only at hu
                rw [ZaN] at hu
                cases hbu : Nat.beq s u with
                | true => rw [← Nat.eq_of_beq_eq_true hbu]; exact S.ek s _ hs
                | false => rw [hbu] at hu; exact S.ek u sv hu
              · simp only at hu
                rw [ZaN] at hu
                cases hbu : Nat.beq s u with
                | true =>
                  rw [hbu] at hu
                  simp only [cond_true, Option.some.injEq] at hu
                  subst hu
                  have := Nat.eq_of_beq_eq_true hbu
                  subst this
                  refine ⟨b, c', T, fr, hob, hsv, setRow_heap w b c c' T fr hc, fun j hj => hnf j (by omega), by rw [r2, hsz, s2], fun j d hd => ?_⟩
                  rw [s3 j] at hd
                  rw [r3 j]
                  by_cases hj : off ≤ j ∧ j < off + n
                  · rw [if_pos (by omega)] at hd
                    rw [if_pos hj]
                    have hlt : j - off < (a.eval y).cells.size := by omega
                    have hu := Array.getElem?_eq_getElem hlt
                    have hvc : v.cells[j - off]? = some (.d d) := by rw [hvd, List.getElem?_map, hd]; rfl
                    exact ⟨_, hu, g2 _ _ hu, ((g3 _ _ _ hu hvc).d_inv).mono e.ext⟩
                  · rw [if_neg (by omega)] at hd
                    rw [if_neg hj]
                    obtain ⟨u, h1, h2, h3⟩ := hcs j d hd
                    exact ⟨u, h1, h2, h3.mono e.ext⟩
                | false =>
                  rw [hbu] at hu
                  have hne := beq_ne.1 hbu
                  exact (S.env u sv hu).mono e (ZcC hob _ (by simp; exact Ne.symm hne)) (ZcC hob _ (by simp))
              · refine (S.tmp u z hu).mono e (fun _ _ _ _ hb => hb) (ZcC hob _ (by simp)) (fun k es hk es' hes => ?_)
                simp only at hes
                rw [ZaN] at hes
                cases hbu : Nat.beq s k with
                | true => rw [hbu] at hes; simp at hes
                | false => rw [hbu] at hes; exact ⟨hes, rfl⟩
            · cases he
          · cases he
        · cases he
      | ap id g i off =>
        simp only at he
        split at he
        · rename_i es hes
          obtain ⟨ap, ho⟩ := Ze0 hes
          split at he
          · rename_i e0 hei
            split at he
            · rename_i cs' hsp
              split at he
              · rename_i e' hpk
                have hset : ZqJ st.heap id (es.set i e') = st.heap.set id (.arr g ap (es.set i e')) := by simp only [ZqJ, ho]
                rw [hset] at he
                simp only [Option.some.injEq] at he
                subst he
                obtain ⟨hid, _, _, hl⟩ := hp
                obtain ⟨b, c, T, fr, inf, hob, hc, hi, hxv⟩ := hl ap es ho
                obtain ⟨c2, T2, fr2, inf2, hc2, hi2, hnf, hap, hsz, hpos, hle, hcells⟩ := S.h.objAt ho hob
                rw [hc] at hc2
                simp only [Option.some.injEq, Obj.cells.injEq] at hc2
                obtain ⟨rfl, rfl, rfl⟩ := hc2
                rw [hi] at hi2
                simp only [Option.some.injEq] at hi2
                subst hi2
                obtain ⟨s1, s2, s3⟩ := Zhc hsp
                have hm : e0 ∈ es := List.mem_of_getElem? hei
                have hlt : i < es.length := (List.getElem?_eq_some_iff.1 hei).1
                have hin : (i + 1) * inf.size ≤ es.length * inf.size := Nat.mul_le_mul_right _ (by omega)
                rw [Nat.succ_mul] at hin
                have hoff : off + n ≤ inf.size := by rw [hlen, ← hsz e0 hm]; exact s1
                obtain ⟨c', r1, r2, r3⟩ := ZeS hn hvs g2 hc hnf (b := b) (off := i * inf.size + off) (by omega)
                have hpkc := Zma hpk
                have hgs : ∀ k, (st.heap.set id (.arr g ap (es.set i e')))[k]? = if k = id then some (.arr g ap (es.set i e')) else st.heap[k]? := by
                  intro k
                  rw [List.getElem?_set]
                  by_cases hk : k = id
                  · subst hk; simp [hid]
                  · rw [if_neg (Ne.symm hk), if_neg hk]
                have e := Zjp (h := st.heap) (h' := st.heap.set id (.arr g ap (es.set i e'))) hob hc r2 (by simp) (fun k y y' h1 h2 => by
                  rw [hgs k] at h2
                  split at h2
                  · rename_i hk; subst hk; rw [ho] at h1; simp only [Option.some.injEq] at h1 h2; subst h1; subst h2; exact ⟨Nat.le_refl _, rfl⟩
                  · rw [h1] at h2; simp only [Option.some.injEq] at h2; subst h2; exact AObj.later_refl y)
                refine fin b _ c' _ hxv r1 hob (by simp) e ?_
                refine S.heapStep ?_ e (fun y hy => ZcC hob y (hy id))
                refine ⟨fun k y hy => ?_, S.h.uniq, fun k z hz => by rw [size_setRow]; exact S.h.lt k z hz, fun k id' f hk => by have := S.h.idlt k id' f hk; exact ⟨by simpa using this.1, this.2⟩⟩
                rw [hgs k] at hy
                split at hy
                · rename_i hk
                  subst hk
                  simp only [Option.some.injEq] at hy
                  subst hy
                  have hszs : ∀ x ∈ es.set i e', x.cells.length = inf.size := by
                    intro x hx
                    rcases List.mem_or_eq_of_mem_set hx with h | h
                    · exact hsz x h
                    · rw [h, hpkc, s2, hsz e0 hm]
                  refine ⟨b, hob, c', T, fr, inf, setRow_heap w b c c' T fr hc, hi, fun j hj => hnf j (by omega), (fun h => ⟨(hap h).1, fun hn => by rw [r2]; exact (hap h).2 (List.eq_nil_of_length_eq_zero (by have := congrArg List.length hn; simpa using this))⟩), hszs, hpos, by simpa [r2] using hle, fun j z hz => ?_⟩
                  have hjl : j < es.length * inf.size := by
                    have := (List.getElem?_eq_some_iff.1 hz).1
                    rw [Zbr hszs] at this
                    simpa using this
                  have hq : j / inf.size < es.length := Nat.div_lt_of_lt_mul (by rw [Nat.mul_comm]; exact hjl)
                  have hr' : j % inf.size < inf.size := Nat.mod_lt _ hpos
                  have hdec : j / inf.size * inf.size + j % inf.size = j := by rw [Nat.mul_comm]; exact Nat.div_add_mod _ _
                  rw [r3 j]
                  by_cases hqi : j / inf.size = i
                  · have hget : (es.set i e')[i]? = some e' := by simp [hlt]
                    have hdec' : i * inf.size + j % inf.size = j := by rw [← hqi]; exact hdec
                    have hf := flat_get hszs hget (j % inf.size) hr'
                    rw [hdec', hpkc, s3] at hf
                    rw [hz] at hf
                    by_cases hjo : off ≤ j % inf.size ∧ j % inf.size < off + v.cells.length
                    · rw [if_pos hjo] at hf
                      rw [if_pos (by omega)]
                      have hlt2 : j - (i * inf.size + off) < (a.eval y).cells.size := by omega
                      have hu := Array.getElem?_eq_getElem hlt2
                      refine ⟨_, hu, g2 _ _ hu, (g3 _ _ z hu ?_).mono e⟩
                      rw [show j - (i * inf.size + off) = j % inf.size - off by omega]
                      exact hf.symm
                    · rw [if_neg hjo] at hf
                      rw [if_neg (by omega)]
                      have hold := flat_get hsz hei (j % inf.size) hr'
                      rw [hdec', ← hf] at hold
                      obtain ⟨u, h1, h2, h3⟩ := hcells j z hold
                      exact ⟨u, h1, h2, h3.mono e⟩
                  · have hget : (es.set i e')[j / inf.size]? = es[j / inf.size]? := by rw [List.getElem?_set, if_neg (Ne.symm hqi)]
                    have hq2 := List.getElem?_eq_getElem hq
                    rw [hq2] at hget
                    have hf := flat_get hszs hget (j % inf.size) hr'
                    have hold := flat_get hsz hq2 (j % inf.size) hr'
                    rw [hdec] at hf hold
                    rw [← hf, hz] at hold
                    have hnot : ¬ (i * inf.size + off ≤ j ∧ j < i * inf.size + off + n) := by
                      rintro ⟨h1, h2⟩
                      apply hqi
                      have : i * inf.size ≤ j := by omega
                      have h3 : j < (i + 1) * inf.size := by rw [Nat.succ_mul]; omega
                      exact Nat.div_eq_of_lt_le (by rw [Nat.mul_comm] at this; rw [Nat.mul_comm]; exact this) h3
                    rw [if_neg hnot]
                    obtain ⟨u, h1, h2, h3⟩ := hcells j z hold
                    exact ⟨u, h1, h2, h3.mono e⟩
                · rename_i hk
                  obtain ⟨q, hq, hr⟩ := S.h.obj k y hy
                  exact ⟨q, hq, hr.mono e (ZcC hob (.obj k) (by simpa using hk) q 0 hq).2⟩
              · cases he
            · cases he
          · cases he
        · cases he
      | a pv =>
        cases pv with
        | ptr id off =>
          simp only at he
          split at he
          · rename_i cs ho
            split at he
            · rename_i cs' hsp
              simp only [Option.some.injEq] at he
              subst he
              obtain ⟨hid, hl, _⟩ := ARep.ptr_inv hp
              obtain ⟨b, hob, hxv⟩ := hl cs ho
              obtain ⟨c, T, fr, hc, hnf, hsz, hcs⟩ := S.h.objAt ho hob
              obtain ⟨s1, s2, s3⟩ := Zhc hsp
              obtain ⟨c', r1, r2, r3⟩ := ZeS hn hvs g2 hc hnf (b := b) (off := off) (by omega)
              have hgs : ∀ k, (st.heap.set id (.var cs'))[k]? = if k = id then some (.var cs') else st.heap[k]? := by
                intro k
                rw [List.getElem?_set]
                by_cases hk : k = id
                · subst hk; simp [hid]
                · rw [if_neg (Ne.symm hk), if_neg hk]
              have e := Zjp (h := st.heap) (h' := st.heap.set id (.var cs')) hob hc r2 (by simp) (fun k y y' h1 h2 => by
                rw [hgs k] at h2
                split at h2
                · rename_i hk; subst hk; rw [ho] at h1; simp only [Option.some.injEq] at h1 h2; subst h1; subst h2; trivial
                · rw [h1] at h2; simp only [Option.some.injEq] at h2; subst h2; exact AObj.later_refl y)
              refine fin b _ c' _ hxv r1 hob (by simp) e ?_
              refine S.heapStep ?_ e (fun y hy => ZcC hob y (hy id))
              refine ⟨fun k y hy => ?_, S.h.uniq, fun k z hz => by rw [size_setRow]; exact S.h.lt k z hz, fun k id' f hk => by have := S.h.idlt k id' f hk; exact ⟨by simpa using this.1, this.2⟩⟩
              rw [hgs k] at hy
              split at hy
              · rename_i hk
                subst hk
                simp only [Option.some.injEq] at hy
                subst hy
                refine ⟨b, hob, c', T, fr, setRow_heap w b c c' T fr hc, fun j hj => hnf j (by omega), by rw [r2, hsz, s2], fun j z hz => ?_⟩
                rw [s3 j] at hz
                rw [r3 j]
                by_cases hj : off ≤ j ∧ j < off + n
                · rw [if_pos (by omega)] at hz
                  rw [if_pos hj]
                  have hlt : j - off < (a.eval y).cells.size := by omega
                  have hu := Array.getElem?_eq_getElem hlt
                  exact ⟨_, hu, g2 _ _ hu, (g3 _ _ _ hu hz).mono e⟩
                · rw [if_neg (by omega)] at hz
                  rw [if_neg hj]
                  obtain ⟨u, h1, h2, h3⟩ := hcs j z hz
                  exact ⟨u, h1, h2, h3.mono e⟩
              · rename_i hk
                obtain ⟨q, hq, hr⟩ := S.h.obj k y hy
                exact ⟨q, hq, hr.mono e (ZcC hob (.obj k) (by simpa using hk) q 0 hq).2⟩
            · cases he
          · cases he
        | _ => simp at he
      | _ => simp at he
end
end Go.Abs
namespace Go.Abs
section
variable {C : Ctx} {call : Zaa} {fa : FA} {own own' : Own} {st st' : St} {a : Act} {w w' : World} {o : Oper}
theorem ZtI : ∀ (b : List UInt8) (i : Nat), (ZdA b)[i]? = (b[i]?).map fun x => AV.d (.int .u8 x.toNat) := by
  intro b
  induction b with
  | nil => intro i; simp [ZdA]
  | cons x b ih => intro i; cases i with
    | zero => simp [ZdA]
    | succ i => simp [ZdA, ih]
theorem Zt9 (b : List UInt8) : (ZdA b).length = b.length := by
  induction b with
  | nil => rfl
  | cons x b ih => simp [ZdA, ih]
theorem ZoV (b : List UInt8) : (ZdA b).flatMap AV.cells = ZdA b := by
  induction b with
  | nil => rfl
  | cons x b ih => simp only [ZdA, List.flatMap_cons, ih]; rfl
theorem ZtT (b : List UInt8) : ∀ e ∈ ZdA b, e.cells.length = 1 := by
  induction b with
  | nil => intro e he; simp [ZdA] at he
  | cons x b ih =>
    intro e he
    simp only [ZdA, List.mem_cons] at he
    rcases he with rfl | he
    · rfl
    · exact ih e he
theorem Zue (w : World) (e : TypeId) (s : ByteArray) : Grow w (Lib.bytesWorld w e s) :=
  ⟨rfl, rfl, rfl, by rw [Lib.bytesWorld_size]; omega, fun b hb => Lib.bytesWorld_at_old w e s b hb⟩
theorem Zq4 (S : SRel C.P fa own st a w) {s t : TypeId} {x : Operand} {b : List UInt8} (hop : o.op = .convert s t x) (hx : opD st x = some (.str b)) (hs : C.isStr s = true) (ht : C.isBytes t = true)
    (he1 : C.elemOne t = true) (he : St.put fa { st with heap := st.heap ++ [AObj.arr 0 false (ZdA b)] } o.dst (.a (.osl st.heap.length 0 b.length)) = some st') : ZeV C.P fa own st.heap st' a w o := by
  obtain ⟨bs, hv, rfl⟩ := (Zbv S hx).str_inv
  obtain ⟨e, hte, hee⟩ := ZgL ht
  have hes : C.elemSize t = some 1 := by
    unfold Ctx.elemOne at he1
    split at he1
    · rename_i n hn; rw [hn, Nat.eq_of_beq_eq_true he1]
    · cases he1
  obtain ⟨e', i, hu, hi, h1⟩ := Zec hes
  rw [hte] at hu
  simp only [Option.some.injEq, TypeDesc.slice.injEq] at hu
  subst hu
  have g := Zue w e bs
  have hblk := Lib.bytesWorld_at_new w e bs
  have hsz : (Lib.bytesCells w e bs).size = grownCap w bs.size 0 e := by
    have := grownCap_ge w bs.size 0 e
    simp only [Lib.bytesCells, Array.size_append, Array.size_map, Array.size_replicate]
    have h2 : bs.data.size = bs.size := rfl
    omega
  have S1 := S.newObj g (by rw [Lib.bytesWorld_size]; omega) (x := .arr 0 false (ZdA bs.data.toList)) (fun own' _ _ => by
    refine ⟨_, e, _, i, hblk, hi, (fun j hj hj2 => by omega), (fun h => by cases h), (fun x hx => by rw [h1]; exact ZtT _ x hx), (by omega), ?_, fun j y hy => ?_⟩
    · rw [h1, Nat.mul_one, Zt9, hsz]
      have := grownCap_ge w bs.size 0 e
      simpa using this
    · rw [ZoV, ZtI, Option.map_eq_some_iff] at hy
      obtain ⟨b, hb, rfl⟩ := hy
      have hj : j < bs.size := by
        have := (List.getElem?_eq_some_iff.1 hb).1
        simpa using this
      have hjd : j < bs.data.size := hj
      refine ⟨.int .u8 b.toNat, ?_, rfl, .d _ _ (.int _ _)⟩
      simp only [Lib.bytesCells]
      rw [Array.getElem?_append_left (by simpa using hjd), Array.getElem?_map, ← Array.getElem?_toList, hb]
      rfl)
  refine Zbi (v := .slice (some ⟨w.heap.size, 0, none⟩) bs.size (grownCap w bs.size 0 e)) (w' := Lib.bytesWorld w e bs) ?_ (S1.1.put (fun t' _ => ?_) he) (ZgK g _) (by rw [ZbX he]; exact S1.2)
  · simp only [execOp, hop, hv, Sem.run_bind, Lib.run_convert_string_bytes w s t e bs (Zcl hs) hte hee, Result.andThen_ok, Sem.run_pure]
  · have hl : bs.data.toList.length = bs.size := Array.length_toList
    rw [hl]
    refine .osl _ _ _ _ (by simp) ⟨_, _, rfl⟩ (fun g' ap es h => Nat.zero_le _) (fun ap es h => ?_)
    exact ⟨w.heap.size, _, _, e, _, i, rfl, by simp [upd], hblk, hi, by rw [h1, Nat.mul_one, hsz]⟩
theorem ZnO (S : SRel C.P fa own st a w) {t : TypeId} {l c : Operand} {z : DV} {sz : Nat} {k1 k2 : IntKind} {n : Int} (hop : o.op = .makeSlice t l c) (hz : C.elemZero t = some z) (hsz : C.elemSize t = some sz)
    (hl : opD st l = some (.int k1 n)) (hc : opD st c = some (.int k2 n)) (h0 : 0 ≤ n) (hr : ZbL C t n.toNat = true) (hok : C.elemOk t sz = true)
    (he : St.put fa { st with heap := st.heap ++ [AObj.arr 0 true (List.replicate n.toNat (.d z))] } o.dst (.a (.osl st.heap.length 0 n.toNat)) = some st') : ZeV C.P fa own st.heap st' a w o := by
  obtain ⟨e, i, zv, zd, hu, hi, rfl, hiz, hzs, hpos, hz2, hzl, hzr⟩ := ZdR hsz hok
  rw [hz] at hz2
  simp only [Option.some.injEq] at hz2
  subst hz2
  obtain ⟨r1, r2⟩ := ZdN hu hi hr
  have hlv := (Zbv S hl).int_inv
  have hcv := (Zbv S hc).int_inv
  have hnn : (n.toNat : Int) = n := Int.toNat_of_nonneg h0
  have hbytes : (i.bytes : Int) * n ≤ 281474976710656 := by
    have : ((n.toNat * i.bytes : Nat) : Int) ≤ ((2 ^ 47 : Nat) : Int) := Int.ofNat_le.2 r1
    rw [Int.natCast_mul, hnn, Int.mul_comm] at this
    omega
  have hrun := run_make (P := C.P) w t e i zv hu hi hiz k1 k2 n n h0 (Int.le_refl _) hbytes (by omega)
  have g := Grow.alloc w (.cells (madeCells zv.cells (n.toNat * i.size)) e)
  have hget : ∀ j, j < n.toNat * i.size → ∃ u, (madeCells zv.cells (n.toNat * i.size))[j]? = some u ∧ zv.cells[j % i.size]? = some u := by
    intro j hj
    have hm : j % i.size < zv.cells.size := by rw [hzs]; exact Nat.mod_lt _ hpos
    refine ⟨zv.cells[j % i.size], ?_, Array.getElem?_eq_getElem hm⟩
    simp only [madeCells, Array.getElem?_map, hzs]
    rw [Array.getElem?_range, if_pos hj]
    simp [hm]
  have hszr : ∀ x ∈ List.replicate n.toNat (AV.d z), x.cells.length = i.size := by
    intro x hx
    rw [List.eq_of_mem_replicate hx]
    have : (AV.d z).cells = z.cells.map .d := by cases z <;> rfl
    rw [this, List.length_map, hzl]
  have hnil : List.replicate n.toNat (AV.d z) = [] → (madeCells zv.cells (n.toNat * i.size)).size = 0 := by
    intro hn
    have h1 := congrArg List.length hn
    rw [List.length_replicate] at h1
    rw [size_madeCells, h1]
    exact Nat.zero_mul _
  have S1 := S.newObj g (by rw [ZdV]; omega) (x := .arr 0 true (List.replicate n.toNat (.d z))) (fun own' _ _ => by
    refine ⟨_, e, (0, 0), i, ZeA w _, hi, (fun j _ hj => by simp at hj), (fun _ => ⟨rfl, hnil⟩), hszr, hpos, by rw [List.length_replicate, size_madeCells]; exact Nat.le_refl _, fun j y hy => ?_⟩
    have hj : j < n.toNat * i.size := by
      have := (List.getElem?_eq_some_iff.1 hy).1
      rwa [Zbr hszr, List.length_replicate] at this
    have hq : j / i.size < n.toNat := Nat.div_lt_of_lt_mul (by rw [Nat.mul_comm]; exact hj)
    have hr' : j % i.size < i.size := Nat.mod_lt _ hpos
    have hdec : j / i.size * i.size + j % i.size = j := by rw [Nat.mul_comm]; exact Nat.div_add_mod _ _
    have hf := flat_get hszr (i := j / i.size) (e := .d z) (by rw [List.getElem?_replicate, if_pos hq]) _ hr'
    have hcz : (AV.d z).cells = z.cells.map .d := by cases z <;> rfl
    rw [hdec, hy, hcz, List.getElem?_map] at hf
    obtain ⟨y', hy', hyy⟩ := Option.map_eq_some_iff.1 hf.symm
    obtain ⟨u, hu1, hu2⟩ := hget j hj
    have cr := hzr (w.alloc (.cells (madeCells zv.cells (n.toNat * i.size)) e)) own'
    rw [← hyy]
    exact ⟨u, hu1, cr.one _ _ hu2, .d _ _ (cr.rep _ _ _ hu2 hy')⟩)
  refine Zbi (v := .slice (some ⟨w.heap.size, 0, none⟩) n.toNat n.toNat) (w' := _) ?_ (S1.1.put (fun t' _ => ?_) he) (ZgK g _) (by rw [ZbX he]; exact S1.2)
  · simp only [execOp, hop, hlv, hcv, Sem.run_bind, hrun, Result.andThen_ok, Sem.run_pure]
  · refine .osl _ _ _ _ (by simp) ⟨_, _, rfl⟩ (fun g' ap es h => Nat.zero_le _) (fun ap es h => ?_)
    exact ⟨w.heap.size, _, _, e, _, i, rfl, by simp [upd], ZeA w _, hi, by rw [size_madeCells]⟩
theorem Zw4 {w : World} {b : Nat} {x y : Obj} (h : w.heap[b]? = some x) : ({ w with heap := w.heap.setIfInBounds b y } : World).heap[b]? = some y := by
  have hlt := Za4 h
  simp [hlt]
theorem ZpO {w : World} {b k : Nat} {y : Obj} (h : k ≠ b) : ({ w with heap := w.heap.setIfInBounds b y } : World).heap[k]? = w.heap[k]? := by
  simp [Array.getElem?_setIfInBounds_ne (Ne.symm h)]
theorem SRel.setMap (S : SRel C.P fa own st a w) {id b cl cl' : Nat} {es es' : List (DV × AV)} {m m' : Array MapEntry} (ho : st.heap[id]? = some (.map es)) (hob : own b = some (.obj id, 0)) (hm : w.heap[b]? = some (.map m cl))
    (hst : ZgF m' cl') (hl : m'.size = es'.length) (hent : ∀ (w' : World) (h' : List AObj), ExtA w own st.heap w' own h' → ∀ (j : Nat) e x, m'[j]? = some e → es'[j]? = some x → Rep w' own e.key x.1 ∧ ARep C.P w' own h' e.val x.2) :
    SRel C.P fa own { st with heap := st.heap.set id (.map es') } a { w with heap := w.heap.setIfInBounds b (.map m' cl') } ∧
      Frm w own { w with heap := w.heap.setIfInBounds b (.map m' cl') } own ∧ ExtA w own st.heap { w with heap := w.heap.setIfInBounds b (.map m' cl') } own (st.heap.set id (.map es')) := by
  have hid : id < st.heap.length := (List.getElem?_eq_some_iff.1 ho).1
  have hgs : ∀ k, (st.heap.set id (.map es'))[k]? = if k = id then some (.map es') else st.heap[k]? := by
    intro k
    rw [List.getElem?_set]
    by_cases hk : k = id
    · subst hk; simp [hid]
    · rw [if_neg (Ne.symm hk), if_neg hk]
  have other : ∀ k, k ≠ b → ({ w with heap := w.heap.setIfInBounds b (.map m' cl') } : World).heap[k]? = w.heap[k]? := fun k hk => ZpO hk
  have e : ExtA w own st.heap { w with heap := w.heap.setIfInBounds b (.map m' cl') } own (st.heap.set id (.map es')) := by
    refine ⟨⟨fun k i v hv hp => ?_, fun k ms c hms hn => ?_⟩, by simp, fun k y y' h1 h2 => ?_, fun k id' y y' hb' _ _ _ => ⟨hb', fun c T fr hc => ⟨c, ?_, rfl⟩⟩⟩
    · have hne : k ≠ b := by rintro rfl; exact absurd (hp _ 0 hob) (Nat.not_lt_zero _)
      exact ⟨by rw [Zcc (other k hne), hv], hp⟩
    · have hne : k ≠ b := by rintro rfl; rw [hob] at hn; cases hn
      exact ⟨by rw [other k hne, hms], hn⟩
    · rw [hgs k] at h2
      split at h2
      · rename_i hk; subst hk; rw [ho] at h1; simp only [Option.some.injEq] at h1 h2; subst h1; subst h2; trivial
      · rw [h1] at h2; simp only [Option.some.injEq] at h2; subst h2; exact AObj.later_refl y
    · have hne : k ≠ b := by rintro rfl; rw [hm] at hc; cases hc
      rw [other k hne, hc]
  have keep : ∀ y, y ≠ .obj id → Keep w own { w with heap := w.heap.setIfInBounds b (.map m' cl') } own y := by
    intro y hy k f hk
    have hne : k ≠ b := by rintro rfl; rw [hob] at hk; simp only [Option.some.injEq, Prod.mk.injEq] at hk; exact hy hk.1.symm
    exact ⟨hk, other k hne⟩
  refine ⟨S.heapStep ⟨fun k y hy => ?_, S.h.uniq, fun k z hz => by simpa using S.h.lt k z hz, fun k id' f hk => by have := S.h.idlt k id' f hk; exact ⟨by simpa using this.1, this.2⟩⟩ e (fun y hy => keep y (hy id)), ⟨rfl, rfl, rfl, by simp, fun k _ hk => ⟨other k ?_, rfl⟩⟩, e⟩
  · rw [hgs k] at hy
    split at hy
    · rename_i hk
      subst hk
      simp only [Option.some.injEq] at hy
      subst hy
      exact ⟨b, hob, m', cl', Zw4 hm, hst, hl, hent _ _ e⟩
    · rename_i hk
      obtain ⟨q, hq, hr⟩ := S.h.obj k y hy
      exact ⟨q, hq, hr.mono e (keep (.obj k) (by simpa using hk) q 0 hq).2⟩
  · rintro rfl
    rcases hk with hk | ⟨f, hk⟩
    · rw [hob] at hk; cases hk
    · rw [hob] at hk; simp at hk
end
end Go.Abs
namespace Go.Abs
section
variable {C : Ctx} {call : Zaa} {fa : FA} {own own' : Own} {st st' : St} {a : Act} {w w' : World} {o : Oper}
theorem Zyz {kind : TypeDesc} {kd kd' : DV} {k k' : Value} (hk : KeyKind kind kd) (r : Rep w own k kd) (r' : Rep w own k' kd') (h : ZdT kd kd' = some true) : k' = k := by
  have h1 := Zga hk r r' h
  have hk' : KeyKind kind kd' := by
    rcases hk with ⟨rfl, s, rfl⟩ | ⟨kk, n, rfl, rfl⟩
    · cases kd' <;> simp only [ZdT] at h <;> try (cases h; done)
      exact .inl ⟨rfl, _, rfl⟩
    · cases kd' <;> simp only [ZdT] at h <;> try (cases h; done)
      split at h
      · rename_i hkk; subst hkk; exact .inr ⟨_, _, rfl, rfl⟩
      · cases h
  obtain ⟨b, hb, hi⟩ := MapKept.sameNow_of_keys (hk.isKey r) (hk'.isKey r')
  rw [h1] at hb
  simp only [Option.some.injEq] at hb
  exact (hi.1 hb.symm).symm
theorem Zwx {kind : TypeDesc} {kd : DV} {k : Value} {v : AV} (hk : KeyKind kind kd) (r : Rep w own k kd) : ∀ (l : List MapEntry) (ds es' : List (DV × AV)) (i : Nat), l.length = ds.length →
    (∀ (j : Nat) e d, l[j]? = some e → ds[j]? = some d → Rep w own e.key d.1) → ZqW kd v ds = some es' →
    (Instr.findNow kind k l i = some none ∧ es' = ds ++ [(kd, v)]) ∨
      ∃ j e, Instr.findNow kind k l i = some (some (i + j, e.val)) ∧ l[j]? = some e ∧ e.key = k ∧ j < ds.length ∧ es' = ds.set j (kd, v) := by
  intro l
  induction l with
  | nil =>
    intro ds es' i hl _ hm
    have : ds = [] := List.eq_nil_of_length_eq_zero (by simpa using hl.symm)
    subst this
    simp only [ZqW, Option.some.injEq] at hm
    subst hm
    exact .inl ⟨rfl, rfl⟩
  | cons e l ih =>
    intro ds es' i hl hp hm
    cases ds with
    | nil => simp at hl
    | cons d ds =>
      obtain ⟨kd', x⟩ := d
      have h1 := hp 0 e (kd', x) rfl rfl
      simp only [ZqW] at hm
      cases hke : ZdT kd kd' with
      | none => rw [hke] at hm; cases hm
      | some b =>
        rw [hke] at hm
        have hsn := Zga hk r h1 hke
        cases b with
        | true =>
          simp only [Option.some.injEq] at hm
          subst hm
          exact .inr ⟨0, e, by simp [Instr.findNow, hsn], rfl, Zyz hk r h1 hke, by simp, rfl⟩
        | false =>
          simp only [Option.map_eq_some_iff] at hm
          obtain ⟨es1, hm, rfl⟩ := hm
          rcases ih ds es1 (i + 1) (by simpa using hl) (fun j e' d' he' hd' => hp (j + 1) e' d' (by simpa using he') (by simpa using hd')) hm with ⟨h3, rfl⟩ | ⟨j, e', h3, h4, h5, h6, rfl⟩
          · exact .inl ⟨by simp [Instr.findNow, hsn, h3], rfl⟩
          · exact .inr ⟨j + 1, e', by simp [Instr.findNow, hsn, h3]; omega, by simpa using h4, h5, by simp; omega, rfl⟩
theorem Zwd {kind : TypeDesc} {kd : DV} {k : Value} (hk : KeyKind kind kd) (r : Rep w own k kd) : ∀ (l : List MapEntry) (ds es' : List (DV × AV)) (i : Nat), l.length = ds.length →
    (∀ (j : Nat) e d, l[j]? = some e → ds[j]? = some d → Rep w own e.key d.1) → ZxD kd ds = some es' →
    (Instr.findNow kind k l i = some none ∧ es' = ds) ∨
      ∃ j e, Instr.findNow kind k l i = some (some (i + j, e.val)) ∧ l[j]? = some e ∧ j < ds.length ∧ es' = ds.eraseIdx j := by
  intro l
  induction l with
  | nil =>
    intro ds es' i hl _ hm
    have : ds = [] := List.eq_nil_of_length_eq_zero (by simpa using hl.symm)
    subst this
    simp only [ZxD, Option.some.injEq] at hm
    subst hm
    exact .inl ⟨rfl, rfl⟩
  | cons e l ih =>
    intro ds es' i hl hp hm
    cases ds with
    | nil => simp at hl
    | cons d ds =>
      obtain ⟨kd', x⟩ := d
      have h1 := hp 0 e (kd', x) rfl rfl
      simp only [ZxD] at hm
      cases hke : ZdT kd kd' with
      | none => rw [hke] at hm; cases hm
      | some b =>
        rw [hke] at hm
        have hsn := Zga hk r h1 hke
        cases b with
        | true =>
          simp only [Option.some.injEq] at hm
          subst hm
          exact .inr ⟨0, e, by simp [Instr.findNow, hsn], rfl, by simp, rfl⟩
        | false =>
          simp only [Option.map_eq_some_iff] at hm
          obtain ⟨es1, hm, rfl⟩ := hm
          rcases ih ds es1 (i + 1) (by simpa using hl) (fun j e' d' he' hd' => hp (j + 1) e' d' (by simpa using he') (by simpa using hd')) hm with ⟨h3, rfl⟩ | ⟨j, e', h3, h4, h6, rfl⟩
          · exact .inl ⟨by simp [Instr.findNow, hsn, h3], rfl⟩
          · exact .inr ⟨j + 1, e', by simp [Instr.findNow, hsn, h3]; omega, by simpa using h4, by simp; omega, rfl⟩
theorem ZrE {es : Array MapEntry} {clock : Nat} (h : ZgF es clock) {key val : Value} : ZgF (es.push { key, val, born := clock }) (clock + 1) := by
  obtain ⟨h1, h2⟩ := h
  refine ⟨fun x hx => ?_, ?_⟩
  · simp only [Array.toList_push, List.mem_append, List.mem_singleton] at hx
    rcases hx with hx | rfl
    · exact Nat.lt_succ_of_lt (h1 x hx)
    · exact Nat.lt_succ_self _
  · simp only [Array.toList_push, List.map_append, List.map_cons, List.map_nil]
    refine List.nodup_append.2 ⟨h2, by simp, ?_⟩
    intro a ha b hb
    simp only [List.mem_singleton] at hb
    subst hb
    obtain ⟨x, hx, rfl⟩ := List.mem_map.1 ha
    exact Nat.ne_of_lt (h1 x hx)
theorem Zol {es : Array MapEntry} {clock : Nat} (h : ZgF es clock) (i : Nat) (f : MapEntry → MapEntry) (hb : ∀ e, (f e).born = e.born) : ZgF (es.modify i f) clock := by
  have hborn : (es.modify i f).toList.map (·.born) = es.toList.map (·.born) := by
    apply List.ext_getElem?
    intro j
    simp only [List.getElem?_map, Array.getElem?_toList, Array.getElem?_modify]
    by_cases hij : i = j
    · subst hij
      cases he : es[i]? with
      | none => simp
      | some e => simp [hb e]
    · simp [hij]
  obtain ⟨h1, h2⟩ := h
  refine ⟨fun x hx => ?_, hborn ▸ h2⟩
  have : x.born ∈ (es.modify i f).toList.map (·.born) := List.mem_map.2 ⟨x, hx, rfl⟩
  rw [hborn] at this
  obtain ⟨y, hy, e⟩ := List.mem_map.1 this
  rw [← e]; exact h1 y hy
theorem Zqw {es : Array MapEntry} {clock : Nat} (h : ZgF es clock) (i : Nat) : ZgF (es.eraseIdxIfInBounds i) clock := by
  have hs : (es.eraseIdxIfInBounds i).toList.Sublist es.toList := by
    unfold Array.eraseIdxIfInBounds
    split
    · simp only [Array.toList_eraseIdx]; exact List.eraseIdx_sublist _ _
    · exact List.Sublist.refl _
  obtain ⟨h1, h2⟩ := h
  exact ⟨fun x hx => h1 x (hs.subset hx), (hs.map _).nodup h2⟩
theorem ZoG (S : SRel C.P fa own st a w) {t : TypeId} {m k x : Operand} {z : DV} {id : Nat} {kd : DV} {v : AV} {es es' : List (DV × AV)} (hop : o.op = .mapUpdate t m k x) (hz : C.mapZero t = some z)
    (hm : opA st m = some (.mp id)) (hk : opD st k = some kd) (hx : opA st x = some v) (hcell : v.cellOk = true) (ho : st.heap[id]? = some (.map es)) (hs : ZqW kd v es = some es') (hok : C.keyOk t kd = true)
    (he : St.put fa { st with heap := st.heap.set id (.map es') } o.dst .un = some st') : ZeV C.P fa own st.heap st' a w o := by
  obtain ⟨kt, e, kind, hu, hkt, hkk⟩ := Zjx hok
  have hkr := Zbv S hk
  have hvr := Zb8 S hx
  obtain ⟨hid, hl, _⟩ := (Zb8 S hm).mp_inv
  obtain ⟨b, hob, hmv⟩ := hl es ho
  obtain ⟨ms, cl, hmm, hst, hsz, hent⟩ := S.h.objAt ho hob
  have hchk := MapKept.run_checkKey (P := C.P) (w := w) hkt (hkk.isKey hkr) false 9999
  have hput : ∀ {w1 : World}, SRel C.P fa own { st with heap := st.heap.set id (.map es') } a w1 → SRel C.P fa own st' (a.put o.dst undef) w1 := fun S1 => S1.put (x := XV.un) (fun t _ => rfl) he
  rcases Zwx hkk hkr ms.toList es es' 0 (by simpa using hsz) (fun j e d h1 h2 => (hent j e d (by simpa using h1) h2).1) hs with ⟨h1, rfl⟩ | ⟨j, e0, h1, h2, h3, h4, rfl⟩
  · have hrun : (execOp a.eval o).run C.P w = .ok .skip { w with heap := w.heap.setIfInBounds b (.map (ms.push { key := a.eval k, val := a.eval x, born := cl }) (cl + 1)) } := by
      simp only [execOp, hop, hmv, Instr.mapUpdate, Sem.run_bind, run_underlying hu, Result.andThen_ok, MapKept.run_getObj_map hmm, hchk, MapKept.run_findKey hkt h1, MapKept.run_setObj_map _ hmm, Sem.run_pure]
    have := S.setMap (m' := ms.push { key := a.eval k, val := a.eval x, born := cl }) (cl' := cl + 1) (es' := es ++ [(kd, v)]) ho hob hmm (ZrE hst) (by simp [hsz]) (fun w' h' e' j e1 x1 he1 hx1 => by
      rw [Array.getElem?_push] at he1
      split at he1
      · rename_i hj
        simp only [Option.some.injEq] at he1
        subst he1
        rw [List.getElem?_append_right (by omega)] at hx1
        rw [hj, hsz, Nat.sub_self] at hx1
        simp at hx1
        subst hx1
        exact ⟨hkr.mono e'.ext, hvr.mono e'⟩
      · rename_i hj
        have hlt := (Array.getElem?_eq_some_iff.1 he1).1
        rw [List.getElem?_append_left (by omega)] at hx1
        obtain ⟨y1, y2⟩ := hent j e1 x1 he1 hx1
        exact ⟨y1.mono e'.ext, y2.mono e'⟩)
    exact ZhW hrun (hput this.1) this.2.1 (by rw [ZbX he]; exact this.2.2)
  · have hj : ms[j]? = some e0 := by simpa using h2
    have hrun : (execOp a.eval o).run C.P w = .ok .skip { w with heap := w.heap.setIfInBounds b (.map (ms.modify j fun e => { e with key := a.eval k, val := a.eval x }) cl) } := by
      simp only [execOp, hop, hmv, Instr.mapUpdate, Sem.run_bind, run_underlying hu, Result.andThen_ok, MapKept.run_getObj_map hmm, hchk, MapKept.run_findKey hkt h1, Nat.zero_add, hj, Option.map_some, Option.getD_some, h3,
        MapKept.run_keyThatStays (hkk.isKey hkr), MapKept.run_setObj_map _ hmm, Sem.run_pure]
    have := S.setMap (m' := ms.modify j fun e => { e with key := a.eval k, val := a.eval x }) (cl' := cl) (es' := es.set j (kd, v)) ho hob hmm (Zol hst _ _ fun _ => rfl) (by simp [hsz]) (fun w' h' e' i e1 x1 he1 hx1 => by
      rw [Array.getElem?_modify] at he1
      rw [List.getElem?_set] at hx1
      split at he1
      · rename_i hij
        subst hij
        rw [hj] at he1
        simp only [Option.map_some, Option.some.injEq] at he1
        subst he1
        simp [h4] at hx1
        subst hx1
        exact ⟨hkr.mono e'.ext, hvr.mono e'⟩
      · rename_i hij
        rw [if_neg hij] at hx1
        obtain ⟨y1, y2⟩ := hent i e1 x1 he1 hx1
        exact ⟨y1.mono e'.ext, y2.mono e'⟩)
    exact ZhW hrun (hput this.1) this.2.1 (by rw [ZbX he]; exact this.2.2)
theorem Zv1 {α : Type} (m : Array α) (j i : Nat) (hj : j < m.size) : (m.eraseIdxIfInBounds j)[i]? = (m.toList.eraseIdx j)[i]? := by
  unfold Array.eraseIdxIfInBounds
  rw [dif_pos hj, ← Array.getElem?_toList, Array.toList_eraseIdx]
theorem Zuq (S : SRel C.P fa own st a w) {t : TypeId} {c : Call} {ts : List TypeId} {m k : Operand} {id : Nat} {kd : DV} {es es' : List (DV × AV)} (hop : o.op = .call c) (hc : c.callee = .builtin .delete)
    (ha : c.args.toList = [m, k]) (ht : c.argTypes.toList = t :: ts)
    (hm : opA st m = some (.mp id)) (hk : opD st k = some kd) (ho : st.heap[id]? = some (.map es)) (hs : ZxD kd es = some es') (hok : C.keyOk t kd = true)
    (he : St.put fa { st with heap := st.heap.set id (.map es') } o.dst (.a (.d (.tup []))) = some st') : ZeV C.P fa own st.heap st' a w o := by
  obtain ⟨kt, e, kind, hu, hkt, hkk⟩ := Zjx hok
  have hkr := Zbv S hk
  obtain ⟨hid, hl, _⟩ := (Zb8 S hm).mp_inv
  obtain ⟨b, hob, hmv⟩ := hl es ho
  obtain ⟨ms, cl, hmm, hst, hsz, hent⟩ := S.h.objAt ho hob
  have ha' : c.args = #[m, k] := by rw [← Array.toList_inj, ha]
  have ht' : c.argTypes[0]? = some t := by rw [← Array.getElem?_toList, ht]; rfl
  have hchk := fun em => MapKept.run_checkKey (P := C.P) (w := w) hkt (hkk.isKey hkr) em 9999
  have hres : ∀ (w1 : World), (Builtin.delete_ c.argTypes o.type #[.map (some b), a.eval k]).run C.P w = .ok (.tuple #[]) w1 → (execOp a.eval o).run C.P w = .ok (.value (.tuple #[])) w1 := by
    intro w1 h
    simp only [execOp, hop, resolve, hc, invoke, builtin, ha', List.map_toArray, List.map_cons, List.map_nil, hmv, Sem.run_bind, Sem.run_pure, Result.andThen_ok, h]
  have hput : ∀ {w1 : World}, SRel C.P fa own { st with heap := st.heap.set id (.map es') } a w1 → SRel C.P fa own st' (a.put o.dst (.tuple #[])) w1 :=
    fun S1 => S1.put (x := XV.a (.d (.tup []))) (fun t _ => .d _ _ (.tup #[] [] rfl (fun i v d h _ => by simp at h))) he
  rcases Zwd hkk hkr ms.toList es es' 0 (by simpa using hsz) (fun j e d h1 h2 => (hent j e d (by simpa using h1) h2).1) hs with ⟨h1, rfl⟩ | ⟨j, e0, h1, h2, h4, rfl⟩
  · have hrun : (Builtin.delete_ c.argTypes o.type #[.map (some b), a.eval k]).run C.P w = .ok (.tuple #[]) { w with heap := w.heap.setIfInBounds b (.map ms cl) } := by
      simp [Builtin.delete_, ht', run_underlying hu, MapKept.run_getObj_map hmm, hchk, MapKept.run_findKey hkt h1, MapKept.run_setObj_map _ hmm]
    have := S.setMap (m' := ms) (cl' := cl) (es' := es') ho hob hmm hst hsz (fun w' h' e' i e1 x1 he1 hx1 => by
      obtain ⟨y1, y2⟩ := hent i e1 x1 he1 hx1
      exact ⟨y1.mono e'.ext, y2.mono e'⟩)
    exact Zbi (hres _ hrun) (hput this.1) this.2.1 (by rw [ZbX he]; exact this.2.2)
  · have hjm : j < ms.size := by omega
    have hrun : (Builtin.delete_ c.argTypes o.type #[.map (some b), a.eval k]).run C.P w = .ok (.tuple #[]) { w with heap := w.heap.setIfInBounds b (.map (ms.eraseIdxIfInBounds j) cl) } := by
      simp [Builtin.delete_, ht', run_underlying hu, MapKept.run_getObj_map hmm, hchk, MapKept.run_findKey hkt h1, MapKept.run_setObj_map _ hmm]
    have := S.setMap (m' := ms.eraseIdxIfInBounds j) (cl' := cl) (es' := es.eraseIdx j) ho hob hmm (Zqw hst j) (by
        rw [Array.eraseIdxIfInBounds, dif_pos hjm, Array.size_eraseIdx, List.length_eraseIdx_of_lt h4, hsz]) (fun w' h' e' i e1 x1 he1 hx1 => by
      rw [Zv1 ms j i hjm, List.getElem?_eraseIdx] at he1
      rw [List.getElem?_eraseIdx] at hx1
      split at he1
      · rename_i hi
        rw [if_pos hi] at hx1
        obtain ⟨y1, y2⟩ := hent i e1 x1 (by simpa using he1) hx1
        exact ⟨y1.mono e'.ext, y2.mono e'⟩
      · rename_i hi
        rw [if_neg hi] at hx1
        obtain ⟨y1, y2⟩ := hent (i + 1) e1 x1 (by simpa using he1) hx1
        exact ⟨y1.mono e'.ext, y2.mono e'⟩)
    exact Zbi (hres _ hrun) (hput this.1) this.2.1 (by rw [ZbX he]; exact this.2.2)
end
end Go.Abs
namespace Go.Abs
section
variable {C : Ctx} {call : Zaa} {fa : FA} {own own' : Own} {st st' : St} {a : Act} {w w' : World} {o : Oper}
def Yd4 (st : St) : Owner → Prop
  | .own s => ∃ es, Zab st.env s = some (.own es)
  | .tmp t => ∃ es, Zab st.tmp t = some (.own es)
  | .pend => False
  | _ => True
theorem SRel.loseEnv (S : SRel C.P fa own st a w) (s : Nat) : SRel C.P fa own (st.loseEnv s) a w := by
  unfold St.loseEnv
  split
  · rename_i es hes
    have hr := S.env s _ hes
    refine ⟨S.h, S.nt, S.defers, fun u sv hu => ?_, S.tk, fun u sv hu => ?_, fun t x ht => ?_⟩
    · simp only at hu
      rw [ZaN] at hu
      cases hb : Nat.beq s u with
      | true => rw [← Nat.eq_of_beq_eq_true hb]; exact S.ek s _ hes
      | false => rw [hb] at hu; exact S.ek u sv hu
    · simp only at hu
      rw [ZaN] at hu
      cases hb : Nat.beq s u with
      | true =>
        rw [hb] at hu
        simp only [cond_true, Option.some.injEq] at hu
        subst hu
        rw [← Nat.eq_of_beq_eq_true hb]
        exact .d _ _ (OwnRel.rep hr)
      | false => rw [hb] at hu; exact S.env u sv hu
    · refine (S.tmp t x ht).mono ((Grow.refl w).extA own st.heap) (fun _ _ _ _ hb => hb) ((Grow.refl w).keep S.h _) (fun k es' hk es2 hes2 => ?_)
      simp only at hes2
      rw [ZaN] at hes2
      cases hb : Nat.beq s k with
      | true => rw [hb] at hes2; simp at hes2
      | false => rw [hb] at hes2; exact ⟨hes2, rfl⟩
  · exact S
theorem ZjX (st : St) (s : Nat) : ¬ Yd4 (st.loseEnv s) (.own s) := by
  rintro ⟨es, h⟩
  unfold St.loseEnv at h
  split at h
  · simp only at h
    rw [ZaN] at h
    simp at h
  · rename_i hn
    exact hn es h
theorem Zqt (st : St) (s : Nat) : (st.loseEnv s).heap = st.heap := by
  unfold St.loseEnv; split <;> rfl
theorem Zl2 (st : St) (x : Operand) : (st.lose x).heap = st.heap := by
  unfold St.lose
  repeat' split
  all_goals first | rfl | exact Zqt _ _
theorem Zna (S : SRel C.P fa own st a w) {x : Operand} {es : List DV} (h : Zbx st x = some es) : SRel C.P fa own (st.lose x) a w ∧
    ∃ z : Owner, OwnRel C.P w own z (a.eval x) es ∧ ¬ Yd4 (st.lose x) z := by
  unfold Zbx at h
  split at h
  · rename_i t
    rw [Zkw]
    split at h
    · rename_i es' ht
      simp only [Option.some.injEq] at h
      subst h
      have hr := S.tmp t _ ht
      have hl : st.lose (.tmp t) = { st with tmp := ins st.tmp t (.a (.d (.slc es'))) } := by simp only [St.lose, ht]
      rw [hl]
      refine ⟨⟨S.h, S.nt, S.defers, S.ek, fun u y hu => ?_, S.env, fun u y hu => ?_⟩, .tmp t, hr, ?_⟩
      · simp only at hu
        rw [Za2] at hu
        cases hb : Nat.beq t u with
        | true => rw [← Nat.eq_of_beq_eq_true hb]; exact S.tk t _ ht
        | false => rw [hb] at hu; exact S.tk u y hu
      · simp only at hu
        rw [Za2] at hu
        cases hb : Nat.beq t u with
        | true =>
          rw [hb] at hu
          simp only [cond_true, Option.some.injEq] at hu
          subst hu
          rw [← Nat.eq_of_beq_eq_true hb]
          exact .d _ _ (OwnRel.rep hr)
        | false => rw [hb] at hu; exact S.tmp u y hu
      · rintro ⟨es2, h2⟩
        simp only at h2
        rw [Za2] at h2
        simp at h2
    · rename_i s es0 ht
      split at h
      · rename_i es' hes
        simp only [Option.some.injEq] at h
        subst h
        have hr := S.tmp t _ ht
        obtain ⟨h1, h2⟩ := hr
        obtain ⟨h3, h4⟩ := h2 _ hes
        have hl : st.lose (.tmp t) = st.loseEnv s := by simp only [St.lose, ht]
        rw [hl]
        refine ⟨S.loseEnv s, .own s, ?_, ZjX st s⟩
        rw [← h4]
        exact S.env s _ hes
      · cases h
    · cases h
    · rename_i ht
      split at h
      · rename_i es' hes
        simp only [Option.some.injEq] at h
        subst h
        have hl : st.lose (.tmp t) = st.loseEnv t := by simp only [St.lose, ht]
        rw [hl]
        exact ⟨S.loseEnv t, .own t, S.env t _ hes, ZjX st t⟩
      · cases h
  · simp only [Option.some.injEq] at h
    subst h
    exact ⟨S, .pend, .inl ⟨rfl, none, rfl⟩, fun h => h⟩
  · cases h
def Zc0 (own : Own) (b : Nat) (y : Owner) (f : Nat) : Own := fun k => if k = b then some (y, f) else match own k with
  | some (z, g) => if z = y then none else some (z, g)
  | none => none
theorem ZcE (own : Own) (b : Nat) (y : Owner) (f : Nat) : Zc0 own b y f b = some (y, f) := by simp [Zc0]
theorem Zfl {own : Own} {b k : Nat} {y z : Owner} {f g : Nat} (h : own k = some (z, g)) (hk : k ≠ b) (hz : z ≠ y) : Zc0 own b y f k = some (z, g) := by
  simp [Zc0, hk, h, hz]
theorem Zhj {own : Own} {b k : Nat} {y : Owner} {f : Nat} (h : own k = none) (hk : k ≠ b) : Zc0 own b y f k = none := by simp [Zc0, hk, h]
theorem ZbW {own : Own} {b k : Nat} {y z : Owner} {f g : Nat} (h : Zc0 own b y f k = some (z, g)) : (k = b ∧ z = y ∧ g = f) ∨ (k ≠ b ∧ own k = some (z, g) ∧ z ≠ y) := by
  unfold Zc0 at h
  split at h
  · rename_i hk
    simp only [Option.some.injEq, Prod.mk.injEq] at h
    exact .inl ⟨hk, h.1.symm, h.2.symm⟩
  · rename_i hk
    split at h
    · rename_i z' g' hz
      split at h
      · cases h
      · rename_i hne
        simp only [Option.some.injEq, Prod.mk.injEq] at h
        obtain ⟨rfl, rfl⟩ := h
        exact .inr ⟨hk, hz, hne⟩
    · cases h
structure Turns (w : World) (own : Own) (D : Owner → Prop) (w' : World) (b f : Nat) : Prop where
  os : w'.os = w.os
  tape : w'.tape = w.tape
  output : w'.output = w.output
  size : w.heap.size ≤ w'.heap.size
  blk : ∀ k, k < w.heap.size → k ≠ b → w'.heap[k]? = w.heap[k]?
  here : b < w'.heap.size
  from_ : w.heap.size ≤ b ∨ ∃ x f0, own b = some (x, f0) ∧ D x ∧ f0 ≤ f ∧ ∀ j v, j < f0 → w.cell? ⟨b, j, none⟩ = some v → w'.cell? ⟨b, j, none⟩ = some v
theorem Turns.frm {D : Owner → Prop} {b f : Nat} {y : Owner} (T : Turns w own D w' b f) (hD : ¬ D .ext) (hy : y ≠ .ext) : Frm w own w' (Zc0 own b y f) := by
  refine ⟨T.os, T.tape, T.output, T.size, fun k hk ho => ?_⟩
  have hne : k ≠ b := by
    rintro rfl
    rcases T.from_ with h | ⟨x, f0, h1, h2, _⟩
    · omega
    · rcases ho with ho | ⟨g, ho⟩
      · rw [h1] at ho; cases ho
      · rw [h1] at ho; simp only [Option.some.injEq, Prod.mk.injEq] at ho; rw [ho.1] at h2; exact hD h2
  refine ⟨T.blk k hk hne, ?_⟩
  rcases ho with ho | ⟨g, ho⟩
  · rw [ho]; exact Zhj ho hne
  · rw [ho]; exact Zfl ho hne (Ne.symm hy)
theorem Turns.keep {D : Owner → Prop} {b f : Nat} {y z : Owner} {P : Program} {h : List AObj} (T : Turns w own D w' b f) (H : HRel P w own h) (hz : ¬ D z) (hy : z ≠ y) : Keep w own w' (Zc0 own b y f) z := by
  intro k g hk
  have hlt := H.lt k _ hk
  have hne : k ≠ b := by
    rintro rfl
    rcases T.from_ with h | ⟨x, f0, h1, h2, _⟩
    · omega
    · rw [h1] at hk; simp only [Option.some.injEq, Prod.mk.injEq] at hk; rw [hk.1] at h2; exact hz h2
  exact ⟨Zfl hk hne hy, T.blk k hlt hne⟩
theorem Turns.extA' {D : Owner → Prop} {b f : Nat} {y : Owner} {P : Program} {h h' : List AObj} (T : Turns w own D w' b f) (H : HRel P w own h) (hD : ∀ id, ¬ D (.obj id)) (hy : ∀ (id : Nat) (x x' : AObj), h[id]? = some x → h'[id]? = some x' → x.stays x' → y ≠ .obj id)
    (hlen : h.length ≤ h'.length) (hk : ∀ (id : Nat) (x x' : AObj), h[id]? = some x → h'[id]? = some x' → x.later x') : ExtA w own h w' (Zc0 own b y f) h' := by
  have bs : ∀ k z g, own k = some (z, g) → w.heap.size ≤ b → k ≠ b := fun k z g hk hb => by have := H.lt k _ hk; omega
  refine ⟨⟨fun k i v hc hp => ?_, fun k es c hc hn => ?_⟩, hlen, hk, fun k id x x' hb h1 h2 h3 => ?_⟩
  · have hlt := Zdj hc
    by_cases hkb : k = b
    · subst hkb
      rcases T.from_ with h | ⟨x, f0, h1, h2, h3, h4⟩
      · omega
      · have hi : i < f0 := hp x f0 h1
        refine ⟨h4 i v hi hc, fun z g hz => ?_⟩
        rw [ZcE] at hz
        simp only [Option.some.injEq, Prod.mk.injEq] at hz
        omega
    · refine ⟨by rw [Zcc (T.blk k hlt hkb), hc], fun z g hz => ?_⟩
      rcases ZbW hz with ⟨h1, _⟩ | ⟨_, h2, _⟩
      · exact absurd h1 hkb
      · exact hp z g h2
  · have hlt := Za4 hc
    have hkb : k ≠ b := by
      rintro rfl
      rcases T.from_ with h | ⟨x, f0, h1, _⟩
      · omega
      · rw [h1] at hn; cases hn
    exact ⟨by rw [T.blk k hlt hkb, hc], Zhj hn hkb⟩
  · have hid := (List.getElem?_eq_some_iff.1 h1).1
    obtain ⟨e1, e2⟩ := T.keep H (hD id) (fun e => hy id x x' h1 h2 h3 e.symm) k 0 hb
    exact ⟨e1, fun c T' fr hc => ⟨c, by rw [e2, hc], rfl⟩⟩
theorem Turns.extA {D : Owner → Prop} {b f : Nat} {y : Owner} {P : Program} {h h' : List AObj} (T : Turns w own D w' b f) (H : HRel P w own h) (hD : ∀ id, ¬ D (.obj id)) (hy : ∀ id, id < h.length → y ≠ .obj id)
    (hlen : h.length ≤ h'.length) (hk : ∀ (id : Nat) (x x' : AObj), h[id]? = some x → h'[id]? = some x' → x = x') : ExtA w own h w' (Zc0 own b y f) h' :=
  T.extA' H hD (fun id x x' h1 _ _ => hy id (List.getElem?_eq_some_iff.1 h1).1) hlen (fun id x x' h1 h2 => by rw [hk id x x' h1 h2]; exact AObj.later_refl x')
theorem Turns.uniq {D : Owner → Prop} {b f : Nat} {y : Owner} {P : Program} {h : List AObj} (T : Turns w own D w' b f) (H : HRel P w own h) :
    ∀ k k' x g g', Zc0 own b y f k = some (x, g) → Zc0 own b y f k' = some (x, g') → x ≠ .ext → k = k' := by
  intro k k' x g g' h1 h2 hne
  rcases ZbW h1 with ⟨rfl, e, _⟩ | ⟨_, e1, e2⟩ <;> rcases ZbW h2 with ⟨rfl, e', _⟩ | ⟨_, e1', e2'⟩
  · rfl
  · exact absurd e e2'
  · exact absurd e' e2
  · exact H.uniq k k' x g g' e1 e1' hne
theorem Turns.lt {D : Owner → Prop} {b f : Nat} {y : Owner} {P : Program} {h : List AObj} (T : Turns w own D w' b f) (H : HRel P w own h) :
    ∀ k x, Zc0 own b y f k = some x → k < w'.heap.size := by
  rintro k ⟨z, g⟩ hk
  rcases ZbW hk with ⟨rfl, _⟩ | ⟨_, e, _⟩
  · exact T.here
  · exact Nat.lt_of_lt_of_le (H.lt k _ e) T.size
theorem SRel.putOwn (S : SRel C.P fa own st a w) {y : Owner} {dst : Option Tmp} {v : Value} {es : List DV} (H : HRel C.P w' own' st.heap) (e : ExtA w own st.heap w' own' st.heap)
    (hk : ∀ z, Yd4 st z → (∀ t, dst = some t → z ≠ .own t ∧ z ≠ .tmp t) → (∀ id, z ≠ .obj id) → Keep w own w' own' z)
    (hy : ∀ t, dst = some t → OwnRel C.P w' own' (if has fa.keep t then .own t else .tmp t) v es) (hp : st.putOwn fa dst es = some st') : SRel C.P fa own' st' (a.put dst v) w' := by
  unfold St.putOwn at hp
  cases dst with
  | none => cases hp
  | some t =>
    simp only at hp
    have hyt := hy t rfl
    cases hlt : Nat.blt t fa.nt with
    | false => rw [hlt] at hp; cases hp
    | true =>
      rw [hlt] at hp
      simp only [cond_true] at hp
      have ht : t < a.tmps.size := by rw [S.nt]; simpa [Nat.blt_eq] using hlt
      have hget := fun s => ZeP (v := v) ht s
      have kbox : ∀ s, Keep w own w' own' (.box s) := fun s => hk _ trivial (fun t' _ => ⟨by simp, by simp⟩) (by simp)
      have env : ∀ u sv, Zab st.env u = some sv → u ≠ t → SVRel C.P w' own' st.heap u ((a.put (some t) v).tmps.getD u undef) sv := by
        intro u sv hu hne
        rw [hget u, if_neg hne]
        have hr := S.env u sv hu
        cases sv with
        | val x => exact ARep.mono hr e
        | box cs => exact BoxRel.mono hr e.ext (kbox u)
        | own es' => exact OwnRel.mono hr e.ext (hk (.own u) ⟨es', hu⟩ (fun t' ht' => by cases ht'; exact ⟨by simpa using hne, by simp⟩) (by simp))
      cases hkt : has fa.keep t with
      | true =>
        rw [hkt] at hp hyt
        simp only [cond_true, if_true, Option.some.injEq] at hp hyt
        subst hp
        refine ⟨H, by simp [Act.put, S.nt], S.defers, fun u sv hu => ?_, fun u x hu => ?_, fun u sv hu => ?_, fun u x hu => ?_⟩
        · simp only at hu
          rw [ZaN] at hu
          cases hb : Nat.beq t u with
          | true => rw [← Nat.eq_of_beq_eq_true hb]; exact hkt
          | false => rw [hb] at hu; exact S.ek u sv hu
        · simp only at hu
          rw [Zg2] at hu
          obtain ⟨x0, h0, _⟩ := Option.map_eq_some_iff.1 hu
          exact S.tk u x0 h0
        · simp only at hu
          rw [ZaN] at hu
          cases hb : Nat.beq t u with
          | true =>
            rw [hb] at hu
            simp only [cond_true, Option.some.injEq] at hu
            subst hu
            have := Nat.eq_of_beq_eq_true hb
            subst this
            rw [hget t, if_pos rfl]
            exact hyt
          | false =>
            rw [hb] at hu
            exact env u sv hu (Ne.symm (beq_ne.1 hb))
        · simp only at hu
          rw [Zg2] at hu
          obtain ⟨x0, h0, hx⟩ := Option.map_eq_some_iff.1 hu
          have hut : u ≠ t := by rintro rfl; rw [S.tk u x0 h0] at hkt; cases hkt
          rw [hget u, if_neg hut]
          have hr := S.tmp u x0 h0
          have kown : ∀ es', x0 = .own es' → Keep w own w' own' (.tmp u) := fun es' h => hk (.tmp u) ⟨es', by rw [h0, h]⟩ (fun t' ht' => by cases ht'; exact ⟨by simp, by simpa using hut⟩) (by simp)
          cases x0 with
          | al k es' =>
            simp only at hx
            cases hb : Nat.beq k t with
            | true =>
              rw [hb] at hx
              simp only [cond_true] at hx
              subst hx
              exact .d _ _ (hr.1.mono e.ext)
            | false =>
              rw [hb] at hx
              simp only [cond_false] at hx
              subst hx
              refine ⟨hr.1.mono e.ext, fun es2 h2 => ?_⟩
              simp only at h2
              rw [ZaN] at h2
              have hne : Nat.beq t k = false := beq_ne.2 (Ne.symm (beq_ne.1 hb))
              rw [hne] at h2
              obtain ⟨y1, y2⟩ := hr.2 es2 h2
              exact ⟨y1, by show (a.put (some t) v).tmps.getD k undef = _; rw [hget k, if_neg (beq_ne.1 hb)]; exact y2⟩
          | a v => simp only at hx; subst hx; exact ARep.mono hr e
          | sp s off => simp only at hx; subst hx; obtain ⟨b, hb, hv⟩ := hr; exact ⟨b, (kbox s b 0 hb).1, hv⟩
          | fp cs => simp only at hx; subst hx; exact FpRel.mono hr e.ext
          | ap id g i off => simp only at hx; subst hx; exact ApRel.mono hr e
          | own es' => simp only at hx; subst hx; exact OwnRel.mono hr e.ext (kown es' rfl)
          | un => simp only at hx; subst hx; exact hr
      | false =>
        rw [hkt] at hp hyt
        simp only [cond_false, Bool.false_eq_true, if_false, Option.some.injEq] at hp hyt
        subst hp
        have et : ∀ u sv, Zab st.env u = some sv → u ≠ t := fun u sv hu => by rintro rfl; rw [S.ek u sv hu] at hkt; cases hkt
        refine ⟨H, by simp [Act.put, S.nt], S.defers, S.ek, fun u x hu => ?_, fun u sv hu => env u sv hu (et u sv hu), fun u x hu => ?_⟩
        · simp only at hu
          rw [Za2] at hu
          cases hb : Nat.beq t u with
          | true => rw [← Nat.eq_of_beq_eq_true hb]; exact hkt
          | false => rw [hb] at hu; exact S.tk u x hu
        · simp only at hu
          rw [Za2] at hu
          cases hb : Nat.beq t u with
          | true =>
            rw [hb] at hu
            simp only [cond_true, Option.some.injEq] at hu
            subst hu
            have := Nat.eq_of_beq_eq_true hb
            subst this
            rw [hget t, if_pos rfl]
            exact hyt
          | false =>
            rw [hb] at hu
            have hut : u ≠ t := Ne.symm (beq_ne.1 hb)
            rw [hget u, if_neg hut]
            have hr := S.tmp u x hu
            cases x with
            | al k es' => exact ⟨hr.1.mono e.ext, fun es2 h2 => by
                obtain ⟨y1, y2⟩ := hr.2 es2 h2
                exact ⟨y1, by show (a.put (some t) v).tmps.getD k undef = _; rw [hget k, if_neg (et k _ h2)]; exact y2⟩⟩
            | a v => exact ARep.mono hr e
            | sp s off => obtain ⟨b, hb, hv⟩ := hr; exact ⟨b, (kbox s b 0 hb).1, hv⟩
            | fp cs => exact FpRel.mono hr e.ext
            | ap id g i off => exact ApRel.mono hr e
            | own es' => exact OwnRel.mono hr e.ext (hk (.tmp u) ⟨es', hu⟩ (fun t' ht' => by cases ht'; exact ⟨by simp, by simpa using hut⟩) (by simp))
            | un => exact hr
theorem ZhT {dst : Option Tmp} {es : List DV} (hp : st.putOwn fa dst es = some st') : st'.heap = st.heap := by
  unfold St.putOwn at hp
  split at hp
  · cases hp
  · rename_i t
    cases h1 : Nat.blt t fa.nt <;> rw [h1] at hp
    · cases hp
    · cases h2 : has fa.keep t <;> rw [h2] at hp <;> simp only [cond_true, cond_false, Option.some.injEq] at hp <;> subst hp <;> rfl
theorem SRel.turnOwn (S : SRel C.P fa own st a w) {D : Owner → Prop} {b f : Nat} {dst : Option Tmp} {v : Value} {es : List DV} (T : Turns w own D w' b f) (hD : ∀ z, D z → ¬ Yd4 st z)
    (hy : ∀ y own', (∀ t, dst = some t → y = if has fa.keep t then .own t else .tmp t) → own' = Zc0 own b y f → ExtA w own st.heap w' own' st.heap → OwnRel C.P w' own' y v es) (hp : st.putOwn fa dst es = some st') :
    ∃ own', SRel C.P fa own' st' (a.put dst v) w' ∧ Frm w own w' own' ∧ ExtA w own st.heap w' own' st'.heap := by
  cases dst with
  | none => cases hp
  | some t =>
    have hDo : ∀ id, ¬ D (.obj id) := fun id h => hD _ h trivial
    have key : ∀ y : Owner, (y = if has fa.keep t then .own t else .tmp t) → (∀ id, y ≠ .obj id) ∧ y ≠ .ext ∧ (y = .own t ∨ y = .tmp t) := by
      intro y hy
      split at hy <;> subst hy <;> simp
    obtain ⟨k1, k2, k3⟩ := key _ rfl
    generalize hyy : (if has fa.keep t then Owner.own t else Owner.tmp t) = y at k1 k2 k3
    have e := T.extA (y := y) S.h hDo (fun id _ => k1 id) (Nat.le_refl _) (fun id x x' h1 h2 => by rw [h1] at h2; simpa using h2)
    refine ⟨Zc0 own b y f, ?_, T.frm (fun h => hD _ h trivial) k2, by rw [ZhT hp]; exact e⟩
    refine S.putOwn (y := y) (own' := Zc0 own b y f) ⟨fun id x hx => ?_, T.uniq S.h, T.lt S.h, fun k id g hk => ?_⟩ e (fun z hz hn ho => T.keep S.h (fun h => hD z h hz) ?_) (fun t' ht' => ?_) hp
    · obtain ⟨k, hk, hr⟩ := S.h.obj id x hx
      obtain ⟨e1, e2⟩ := T.keep (y := y) S.h (hDo id) (fun h => k1 id h.symm) k 0 hk
      exact ⟨k, e1, hr.mono e e2⟩
    · rcases ZbW hk with ⟨_, h, _⟩ | ⟨_, h, _⟩
      · exact absurd h.symm (k1 id)
      · exact S.h.idlt k id g h
    · rintro rfl
      obtain ⟨n1, n2⟩ := hn t rfl
      rcases k3 with h | h
      · exact n1 h
      · exact n2 h
    · cases ht'
      rw [hyy]
      exact hy y _ (fun t' ht' => by cases ht'; exact hyy.symm) rfl e
theorem ZzM (S : SRel C.P fa own st a w) {x : Operand} {es : List DV} (hop : o.op = .move x ∨ o.op = .assign x) (hx : Zbx st x = some es) (hp : (st.lose x).putOwn fa o.dst es = some st') : ZeV C.P fa own st.heap st' a w o := by
  obtain ⟨S1, z, hr, hd⟩ := Zna S hx
  have hrun : (execOp a.eval o).run C.P w = .ok (.value (a.eval x)) w := by rcases hop with h | h <;> simp [execOp, h]
  have hheap := Zl2 st x
  rcases hr with ⟨rfl, q, hv⟩ | ⟨b, cap, c, T, i, hne, hv, hob, hc, hi, hpos, hle, hmax, hsz, hrep, hes⟩
  · refine Zbi (own' := own) hrun (S1.putOwn (y := z) (by rw [hheap]; exact S.h) (by rw [hheap]; exact (Grow.refl w).extA own _) (fun z _ _ _ => (Grow.refl w).keep S.h z) (fun t _ => .inl ⟨rfl, q, hv⟩) hp) (.refl w own) (by rw [ZhT hp, hheap]; exact (Grow.refl w).extA own _)
  · have T' : Turns w own (fun x => x = z) w b (es.length * i.size) := ⟨rfl, rfl, rfl, Nat.le_refl _, fun _ _ _ => rfl, Za4 hc, .inr ⟨z, _, hob, rfl, Nat.le_refl _, fun j v _ h => h⟩⟩
    obtain ⟨own', S2, F, E⟩ := S1.turnOwn (dst := o.dst) (v := a.eval x) (es := es) T' (fun y hy => by rw [hy]; exact hd) (fun y own' _ ho e => .inr ⟨b, cap, c, T, i, hne, hv, by rw [ho, ZcE], hc, hi, hpos, hle, hmax, hsz, hrep.mono e.ext, hes⟩) hp
    exact Zbi hrun S2 F (by rw [← hheap]; exact E)
end
end Go.Abs
namespace Go.Abs
section
variable {C : Ctx} {call : Zaa} {fa : FA} {own own' : Own} {st st' : St} {a : Act} {w w' : World} {o : Oper}
theorem ZeZ {sz : Nat} : ∀ {l : List DV}, Zao sz l = true → ∀ e ∈ l, e.cells.length = sz := by
  intro l
  induction l with
  | nil => intro _ e he; simp at he
  | cons v l ih =>
    intro h e he
    simp only [Zao, Bool.and_eq_true] at h
    simp only [List.mem_cons] at he
    rcases he with rfl | he
    · exact Nat.eq_of_beq_eq_true h.1
    · exact ih h.2 e he
theorem ZoF {x : Value} {new : List DV} {sz : Nat} (r : Rep w own x (.slc new)) (hsz : ∀ e ∈ new, e.cells.length = sz) : ∃ xb cap, ∃ news : List Value, x = .slice xb new.length cap ∧ news.length = new.length * sz ∧
    (∀ w', w'.heap = w.heap → (Builtin.firstCells sz new.length x).run C.P w' = .ok news.toArray w') ∧ (∀ u ∈ news, u.oneCell' = true) ∧
    ∀ (j : Nat) u d, news[j]? = some u → (new.flatMap DV.cells)[j]? = some d → Rep w own u d := by
  by_cases hne : new = []
  · subst hne
    obtain ⟨xb, cap, hx⟩ := r.slc_len
    refine ⟨xb, cap, [], hx, by simp, fun w' hw => ?_, by simp, fun j u d h => by simp at h⟩
    rw [hx]
    cases xb with
    | none => exact run_firstCells_none _ _ _ _ _
    | some a => exact run_firstCells_some _ _ _ _ _ _ [] (by simp) (fun j v h => by simp at h)
  · obtain ⟨b, off, cap, sz', vs, hx, hcap, hs, hc, hp, h1, hr⟩ := r.slc_inv hne
    have hsz' : sz' = sz := by
      obtain ⟨e, he⟩ := List.exists_mem_of_ne_nil _ hne
      rw [← hs e he, hsz e he]
    subst hsz'
    let news := (List.range (new.length * sz')).map vs
    have hg : ∀ (j : Nat) u, news[j]? = some u → j < new.length * sz' ∧ u = vs j := by
      intro j u hu
      simp only [news, List.getElem?_map, Option.map_eq_some_iff] at hu
      obtain ⟨k, hk, rfl⟩ := hu
      have hj : j < new.length * sz' := by
        have := (List.getElem?_eq_some_iff.1 hk).1
        simpa using this
      rw [List.getElem?_range hj] at hk
      simp only [Option.some.injEq] at hk
      subst hk
      exact ⟨hj, rfl⟩
    refine ⟨some ⟨b, off, none⟩, cap, news, hx, by simp [news], fun w' hw => ?_, fun u hu => ?_, fun j u d hu hd => ?_⟩
    · rw [hx]
      refine run_firstCells_some _ _ _ _ _ _ news (by simp [news]) (fun j v h => ?_)
      obtain ⟨hj, rfl⟩ := hg j v h
      rw [Addr.add_lit, Zcc (w := w) (w' := w') (by rw [hw])]
      exact hc j hj
    · obtain ⟨j, hj, rfl⟩ := List.mem_iff_getElem.1 hu
      obtain ⟨h2, h3⟩ := hg j _ (List.getElem?_eq_getElem hj)
      rw [h3]; exact h1 j h2
    · obtain ⟨_, rfl⟩ := hg j u hu
      exact hr j d hd
theorem ZgQ {t ty e : TypeId} {i : TypeInfo} (ht : C.P.underlying t = some (.slice e)) (hi : C.P.info? e = some i) {b n cap m : Nat} {c : Array Value} {T : TypeId} {fr : Nat × Nat}
    (hc : w.heap[b]? = some (.cells c T fr)) (hnf : Zf3 c fr) {xb : Option Addr} {xc : Nat} {news : List Value} (hl : news.length = m * i.size)
    (hf : (Builtin.firstCells i.size m (.slice xb m xc)).run C.P w = .ok news.toArray w) (h1 : ∀ u ∈ news, u.oneCell' = true) (hroom : n + m ≤ cap) (hfit : cap * i.size ≤ c.size) :
    ∃ c' : Array Value, (Builtin.append_ #[t, t] ty #[.slice (some ⟨b, 0, none⟩) n cap, .slice xb m xc]).run C.P w = .ok (.slice (some ⟨b, 0, none⟩) (n + m) cap) (w.setRow b c') ∧ c'.size = c.size ∧
      ∀ j : Nat, c'[j]? = if n * i.size ≤ j ∧ j < n * i.size + m * i.size then news[j - n * i.size]? else c[j]? := by
  have hle : n * i.size + m * i.size ≤ c.size := by rw [← Nat.add_mul]; exact Nat.le_trans (Nat.mul_le_mul_right _ hroom) hfit
  obtain ⟨c', g1, g2, g3⟩ := ZcD (P := C.P) b (n * i.size) T fr news 0 c w hc hnf (by omega) h1
  refine ⟨c', ?_, g2, fun j => by rw [g3 j, Nat.add_zero, hl]⟩
  simp [Builtin.append_, run_underlying ht, sizeOf, typeInfo, hi, Builtin.lenOf, hroom, hf, Addr.add_lit, g1]
theorem Znd {t ty e : TypeId} {i : TypeInfo} (ht : C.P.underlying t = some (.slice e)) (hi : C.P.info? e = some i) {xb : Option Addr} {xc : Nat}
    (hf : (Builtin.firstCells i.size 0 (.slice xb 0 xc)).run C.P w = .ok #[] w) (q : Option Addr) : (Builtin.append_ #[t, t] ty #[.slice q 0 0, .slice xb 0 xc]).run C.P w = .ok (.slice q 0 0) w := by
  cases q <;> simp [Builtin.append_, run_underlying ht, sizeOf, typeInfo, hi, Builtin.lenOf, hf, storeCells]
theorem ZjP (sz : Nat) (q : Option Addr) : (Builtin.firstCells sz 0 (.slice q 0 0)).run C.P w = .ok #[] w := by
  cases q with
  | none => exact run_firstCells_none _ _ _ _ _
  | some b => exact run_firstCells_some _ _ _ _ _ _ [] (by simp) (fun j v h => by simp at h)
theorem Zdz {t ty e : TypeId} {i : TypeInfo} {z : Value} (ht : C.P.underlying t = some (.slice e)) (hi : C.P.info? e = some i) (hz : i.zero = some z) (hzs : z.cells.size = i.size)
    {sb : Option Addr} {n cap m : Nat} {olds : List Value} (ho : ∀ w', w'.heap = w.heap → (Builtin.firstCells i.size n (.slice sb n cap)).run C.P w' = .ok olds.toArray w') (hol : olds.length = n * i.size)
    {xb : Option Addr} {xc : Nat} {news : List Value} (hl : news.length = m * i.size)
    (hf : ∀ w', w'.heap = w.heap → (Builtin.firstCells i.size m (.slice xb m xc)).run C.P w' = .ok news.toArray w') (hroom : cap < n + m) (h63 : n + m ≤ 2 ^ 47) (hb : (n + m) * i.bytes ≤ 2 ^ 47) :
    ∃ (nc : Nat) (c' : Array Value), (Builtin.append_ #[t, t] ty #[.slice sb n cap, .slice xb m xc]).run C.P w = .ok (.slice (some ⟨w.heap.size, 0, none⟩) (n + m) nc) (w.drew.alloc (.cells c' e)) ∧
      n + m ≤ nc ∧ nc ≤ maxLen ∧ c'.size = nc * i.size ∧ (∀ j : Nat, j < (n + m) * i.size → c'[j]? = (olds ++ news)[j]?) := by
  have hn : ¬ (n + m ≤ cap) := by omega
  have h63' : ¬ (9223372036854775807 < ((n : Int) + (m : Int))) := by omega
  have h48' : ¬ (281474976710656 < Builtin.nextslicecap (n + m) cap * i.bytes) := by
    have := growslice_fits (bytes := i.bytes) hroom (by omega)
    omega
  have hge := grownCap_ge w (n + m) cap e
  have hmax := grownCap_le_maxLen w (n + m) cap e (by simp only [maxLen]; omega)
  refine ⟨grownCap w (n + m) cap e, olds.toArray ++ news.toArray ++ Builtin.zeroCells z.cells (grownCap w (n + m) cap e - (n + m)), ?_, hge, hmax, ?_, fun j hj => ?_⟩
  · simp [Builtin.append_, run_underlying ht, sizeOf, typeInfo, zeroValue, hi, hz, Builtin.lenOf, hn, h63', h48', Question.forced, hf w.drew rfl, ho w.drew rfl, newRow, grownCap]
    congr 2
    apply Array.ext'
    simp [List.append_assoc]
  · have hzc : (Builtin.zeroCells z.cells (grownCap w (n + m) cap e - (n + m))).size = (grownCap w (n + m) cap e - (n + m)) * i.size := by rw [size_zeroCells, hzs]
    rw [Array.size_append, Array.size_append, hzc]
    simp only [List.size_toArray, hol, hl]
    rw [← Nat.add_mul, ← Nat.add_mul]
    congr 1
    omega
  · have hlt : j < (olds ++ news).length := by rw [List.length_append, hol, hl, ← Nat.add_mul]; exact hj
    rw [Array.getElem?_append_left (by simpa using hlt)]
    simp
theorem ZoE {b cap n : Nat} {c : Array Value} {T : TypeId} {fr : Nat × Nat} {sz : Nat} {es : List DV} (hc : w.heap[b]? = some (.cells c T fr)) (hn : es.length = n) (hcap : n ≤ cap) (hsz : ∀ e ∈ es, e.cells.length = sz)
    (hp : ∀ x f, own b = some (x, f) → n * sz ≤ f) (hr : ∀ (j : Nat) d, (es.flatMap DV.cells)[j]? = some d → ∃ u, c[j]? = some u ∧ u.oneCell' = true ∧ Rep w own u d) : Rep w own (.slice (some ⟨b, 0, none⟩) n cap) (.slc es) := by
  subst hn
  have hin : ∀ i, i < es.length * sz → ∃ d u, (es.flatMap DV.cells)[i]? = some d ∧ c[i]? = some u ∧ u.oneCell' = true ∧ Rep w own u d := by
    intro i hi
    have hlt : i < (es.flatMap DV.cells).length := by rw [Zbr hsz]; exact hi
    have hx := List.getElem?_eq_getElem hlt
    obtain ⟨u, h1, h2, h3⟩ := hr i _ hx
    exact ⟨_, u, hx, h1, h2, h3⟩
  refine .slc b 0 cap sz es (fun i => c[i]?.getD undef) hcap hsz (fun i hi => ?_) (fun i hi x f hx => by have := hp x f hx; omega) (fun i hi => ?_) (fun i d hd => ?_)
  · obtain ⟨d, u, _, h1, _⟩ := hin i hi
    rw [Nat.zero_add, cell_of_row w b i c T fr hc, h1]; rfl
  · obtain ⟨d, u, _, h1, h2, _⟩ := hin i hi
    rw [h1]; exact h2
  · obtain ⟨u, h1, h2, h3⟩ := hr i d hd
    rw [h1]; exact h3
theorem ZiP {b n cap : Nat} {c : Array Value} {T : TypeId} {fr : Nat × Nat} {sz : Nat} (hc : w.heap[b]? = some (.cells c T fr)) (hfit : n * sz ≤ c.size) :
    ∀ w', w'.heap = w.heap → (Builtin.firstCells sz n (.slice (some ⟨b, 0, none⟩) n cap)).run C.P w' = .ok (c.toList.take (n * sz)).toArray w' := by
  intro w' hw
  refine run_firstCells_some _ _ _ _ _ _ _ (by rw [List.length_take, Array.length_toList]; omega) (fun j v h => ?_)
  rw [List.getElem?_take] at h
  split at h
  · rw [Addr.add_lit, Nat.zero_add, cell_of_row w' b j c T fr (by rw [hw, hc])]
    simpa using h
  · cases h
theorem ZvY {b cap : Nat} {c : Array Value} {T : TypeId} {fr : Nat × Nat} {sz : Nat} {es : List DV} (hne : es ≠ []) (hc : w.heap[b]? = some (.cells c T fr)) (hsz : ∀ e ∈ es, e.cells.length = sz)
    (hr : Rep w own (.slice (some ⟨b, 0, none⟩) es.length cap) (.slc es)) (j : Nat) (d : DV) (hd : (es.flatMap DV.cells)[j]? = some d) : ∃ u, c[j]? = some u ∧ u.oneCell' = true ∧ Rep w own u d := by
  obtain ⟨b', off, cap', sz', vs, hx, hcap, hs, hcell, hp, h1, hrr⟩ := hr.slc_inv hne
  simp only [Value.slice.injEq, Option.some.injEq, Addr.mk.injEq, true_and, and_true] at hx
  obtain ⟨⟨rfl, rfl⟩, rfl⟩ := hx
  have hsz' : sz' = sz := by
    obtain ⟨e, he⟩ := List.exists_mem_of_ne_nil _ hne
    rw [← hs e he, hsz e he]
  subst hsz'
  have hj : j < es.length * sz' := by
    have := (List.getElem?_eq_some_iff.1 hd).1
    rwa [Zbr hs] at this
  have h2 := hcell j hj
  rw [Nat.zero_add, cell_of_row w b j c T fr hc] at h2
  exact ⟨vs j, h2, h1 j hj, hrr j d hd⟩
theorem ZwW {es new : List DV} {sz : Nat} (h1 : ∀ e ∈ es, e.cells.length = sz) (h2 : ∀ e ∈ new, e.cells.length = sz) : ∀ e ∈ es ++ new, e.cells.length = sz := by
  intro e he
  rcases List.mem_append.1 he with h | h
  · exact h1 e h
  · exact h2 e h
theorem Zvh {es new : List DV} {sz : Nat} (h1 : ∀ e ∈ es, e.cells.length = sz) (j : Nat) : ((es ++ new).flatMap DV.cells)[j]? = if j < es.length * sz then (es.flatMap DV.cells)[j]? else (new.flatMap DV.cells)[j - es.length * sz]? := by
  rw [List.flatMap_append]
  split
  · rename_i h
    rw [List.getElem?_append_left (by rw [Zbr h1]; exact h)]
  · rename_i h
    rw [List.getElem?_append_right (by rw [Zbr h1]; omega), Zbr h1]
theorem Zce {c : Call} {s x : Operand} {t : TypeId} (hop : o.op = .call c) (hc : c.callee = .builtin .append) (ha : c.args.toList = [s, x]) (ht : c.argTypes.toList = [t, t]) {v : Value}
    (h : (Builtin.append_ #[t, t] o.type #[a.eval s, a.eval x]).run C.P w = .ok v w') : (execOp a.eval o).run C.P w = .ok (.value v) w' := by
  have ha' : c.args = #[s, x] := by rw [← Array.toList_inj, ha]
  have ht' : c.argTypes = #[t, t] := by rw [← Array.toList_inj, ht]
  simp only [execOp, hop, resolve, hc, invoke, builtin, ha', ht', List.map_toArray, List.map_cons, List.map_nil, Sem.run_bind, Sem.run_pure, Result.andThen_ok, h]
theorem ZiX (w : World) (x : Obj) : Grow w (w.drew.alloc x) := ⟨rfl, rfl, rfl, by simp, fun b hb => by
  show (w.heap.push x)[b]? = _
  rw [Array.getElem?_push, if_neg (Nat.ne_of_lt hb)]⟩
theorem ZkC (w : World) (x : Obj) : (w.drew.alloc x).heap.size = w.heap.size + 1 := by simp
theorem ZfK (w : World) (x : Obj) : (w.drew.alloc x).heap[w.heap.size]? = some x := by
  show (w.heap.push x)[_]? = _
  simp
end
end Go.Abs
namespace Go.Abs
section
variable {C : Ctx} {call : Zaa} {fa : FA} {own own' : Own} {st st' : St} {a : Act} {w w' : World} {o : Oper}
theorem Zll (w : World) (x : Obj) (own : Own) (f : Nat) : Turns w own (fun _ => False) (w.drew.alloc x) w.heap.size f :=
  ⟨rfl, rfl, rfl, (ZiX w x).size, fun k hk _ => (ZiX w x).blk k hk, by rw [ZkC]; omega, .inl (Nat.le_refl _)⟩
theorem Zof (S : SRel C.P fa own st a w) {c : Call} {s x : Operand} {t : TypeId} {sz : Nat} {es new : List DV} (hop : o.op = .call c) (hc : c.callee = .builtin .append) (ha : c.args.toList = [s, x]) (ht : c.argTypes.toList = [t, t])
    (hes : Zbx st s = some es) (hx : opD st x = some (.slc new)) (hsz : C.elemSize t = some sz) (hs1 : Zao sz new = true) (hs2 : Zao sz (es.take 1) = true) (hroom : ZbL C t (es.length + new.length) = true)
    (hok : C.elemOk t sz = true) (hp : (st.lose s).putOwn fa o.dst (es ++ new) = some st') : ZeV C.P fa own st.heap st' a w o := by
  obtain ⟨e, i, zv, zd, hu, hi, rfl, hiz, hzs, hpos, _, _, _⟩ := ZdR hsz hok
  obtain ⟨r1, r2⟩ := ZdN hu hi hroom
  have hnew := ZeZ hs1
  have hhead := ZeZ hs2
  obtain ⟨xb, xc, news, hxv, hnl, hf, h1, hnr⟩ := ZoF (C := C) (Zbv S hx) hnew
  rw [hxv] at hf
  obtain ⟨S1, z, hr, hd⟩ := Zna S hes
  have hheap := Zl2 st s
  have nget : ∀ (j : Nat) d, (new.flatMap DV.cells)[j]? = some d → ∃ u, news[j]? = some u ∧ u.oneCell' = true ∧ Rep w own u d := by
    intro j d hd
    have hj : j < news.length := by
      rw [hnl, ← Zbr hnew]; exact (List.getElem?_eq_some_iff.1 hd).1
    have hu := List.getElem?_eq_getElem hj
    exact ⟨_, hu, h1 _ (List.mem_of_getElem? hu), hnr j _ d hu hd⟩
  rcases hr with ⟨rfl, q, hv⟩ | ⟨b, cap, cc, T, i', hne, hv, hob, hcc, hi', hpos', hle, hmax, hcsz, hrep, hessz⟩
  · by_cases hnn : new = []
    · subst hnn
      have hnews : news = [] := List.eq_nil_of_length_eq_zero (by simpa using hnl)
      subst hnews
      have hrun := Zce (C := C) hop hc ha ht (by rw [hv, hxv]; exact Znd (ty := o.type) hu hi (hf w rfl) q)
      exact Zbi (own' := own) hrun (S1.putOwn (y := z) (by rw [hheap]; exact S.h) (by rw [hheap]; exact (Grow.refl w).extA own _) (fun z _ _ _ => (Grow.refl w).keep S.h z) (fun t _ => .inl ⟨rfl, q, rfl⟩) hp) (.refl w own) (by rw [ZhT hp, hheap]; exact (Grow.refl w).extA own _)
    · have hpl : 0 < new.length := List.length_pos_iff.2 hnn
      obtain ⟨nc, c', hrun, hge, hnm, hcs, hget⟩ := Zdz (ty := o.type) (n := 0) (cap := 0) (sb := q) (olds := []) hu hi hiz hzs (fun w' _ => ZjP _ q) (by simp) hnl hf (by omega) (by simpa using r2) (by simpa using r1)
      have hrun' := Zce (C := C) hop hc ha ht (by rw [hv, hxv]; exact hrun)
      have hkey : ∀ (y : Owner) (own1 : Own), own1 = Zc0 own w.heap.size y (new.length * i.size) → ExtA w own (st.lose s).heap (w.drew.alloc (.cells c' e)) own1 (st.lose s).heap →
          OwnRel C.P (w.drew.alloc (.cells c' e)) own1 y (.slice (some ⟨w.heap.size, 0, none⟩) (0 + new.length) nc) ([] ++ new) := by
        intro y own1 ho e'
        refine .inr ⟨w.heap.size, nc, c', e, i, by simpa using hnn, by simp, by rw [ho, ZcE]; simp, ZfK w _, hi, hpos, by simpa using hge, hnm, hcs, ?_, by simpa using hnew⟩
        refine ZoE (n := 0 + new.length) (ZfK w _) (by simp) hge (by simpa using hnew) (fun x f hx => by
          rw [ho, ZcE] at hx
          simp only [Option.some.injEq, Prod.mk.injEq] at hx
          rw [← hx.2, Nat.zero_add]
          exact Nat.le_refl _) (fun j d hd => ?_)
        simp only [List.nil_append] at hd
        obtain ⟨u, g1, g2, g3⟩ := nget j d hd
        have hj : j < new.length * i.size := by rw [← Zbr hnew]; exact (List.getElem?_eq_some_iff.1 hd).1
        exact ⟨u, by rw [hget j (by simpa using hj)]; simpa using g1, g2, g3.mono e'.ext⟩
      obtain ⟨own', S2, F, E⟩ := S1.turnOwn (dst := o.dst) (v := .slice (some ⟨w.heap.size, 0, none⟩) (0 + new.length) nc) (es := [] ++ new) (Zll w (.cells c' e) own (new.length * i.size)) (fun _ h => h.elim) (fun y own' _ ho e' => hkey y own' ho e') hp
      exact Zbi hrun' S2 F (by rw [← hheap]; exact E)
  · have hii : i'.size = i.size := by
      obtain ⟨x, l, rfl⟩ := List.exists_cons_of_ne_nil hne
      rw [← hessz x (by simp), hhead x (by simp)]
    rw [hii] at hob hcsz hessz
    have hold : ∀ (j : Nat) d, (es.flatMap DV.cells)[j]? = some d → ∃ u, cc[j]? = some u ∧ u.oneCell' = true ∧ Rep w own u d := fun j d hd => ZvY hne hcc hessz (by rw [← hv]; exact hrep) j d hd
    have hall := ZwW hessz hnew
    have hne' : es ++ new ≠ [] := by simp [hne]
    have hln : (es ++ new).length = es.length + new.length := List.length_append
    have hflt : ∀ (j : Nat) d, ((es ++ new).flatMap DV.cells)[j]? = some d → j < (es.length + new.length) * i.size := fun j d hd => by
      rw [← hln, ← Zbr hall]; exact (List.getElem?_eq_some_iff.1 hd).1
    rcases Nat.lt_or_ge cap (es.length + new.length) with hfull | hin
    · have hfirst := ZiP (C := C) (cap := cap) (n := es.length) (sz := i.size) hcc (by rw [hcsz]; exact Nat.mul_le_mul_right _ hle)
      have hol : (cc.toList.take (es.length * i.size)).length = es.length * i.size := by
        rw [List.length_take, show cc.toList.length = cc.size from rfl, hcsz]; exact Nat.min_eq_left (Nat.mul_le_mul_right _ hle)
      obtain ⟨nc, c', hrun, hge, hnm, hcs, hget⟩ := Zdz (ty := o.type) hu hi hiz hzs hfirst hol hnl hf hfull r2 r1
      have hrun' := Zce (C := C) hop hc ha ht (by rw [hv, hxv]; exact hrun)
      have hkey : ∀ (y : Owner) (own1 : Own), own1 = Zc0 own w.heap.size y ((es ++ new).length * i.size) → ExtA w own (st.lose s).heap (w.drew.alloc (.cells c' e)) own1 (st.lose s).heap →
          OwnRel C.P (w.drew.alloc (.cells c' e)) own1 y (.slice (some ⟨w.heap.size, 0, none⟩) (es.length + new.length) nc) (es ++ new) := by
        intro y own1 ho e'
        refine .inr ⟨w.heap.size, nc, c', e, i, hne', by rw [hln], by rw [ho, ZcE], ZfK w _, hi, hpos, by rw [hln]; exact hge, hnm, hcs, ?_, hall⟩
        refine ZoE (n := es.length + new.length) (ZfK w _) hln hge hall (fun x f hx => by rw [ho, ZcE] at hx; simp only [Option.some.injEq, Prod.mk.injEq] at hx; rw [← hx.2, hln]; exact Nat.le_refl _) (fun j d hd => ?_)
        have hj := hflt j d hd
        rw [Zvh hessz] at hd
        rw [hget j hj, List.getElem?_append, hol]
        split at hd
        · rename_i hjl
          obtain ⟨u, g1, g2, g3⟩ := hold j d hd
          rw [if_pos hjl, List.getElem?_take, if_pos hjl]
          exact ⟨u, by simpa using g1, g2, g3.mono e'.ext⟩
        · rename_i hjl
          obtain ⟨u, g1, g2, g3⟩ := nget _ d hd
          rw [if_neg hjl]
          exact ⟨u, g1, g2, g3.mono e'.ext⟩
      obtain ⟨own', S2, F, E⟩ := S1.turnOwn (dst := o.dst) (v := .slice (some ⟨w.heap.size, 0, none⟩) (es.length + new.length) nc) (es := es ++ new) (Zll w (.cells c' e) own ((es ++ new).length * i.size)) (fun _ h => h.elim) (fun y own' _ ho e' => hkey y own' ho e') hp
      exact Zbi hrun' S2 F (by rw [← hheap]; exact E)
    · obtain ⟨c', hrun, hcs, hget⟩ := ZgQ (ty := o.type) hu hi hcc (fun j _ hj => by simp at hj) hnl (hf w rfl) h1 hin (by rw [hcsz]; exact Nat.le_refl _)
      have hrun' := Zce (C := C) hop hc ha ht (by rw [hv, hxv]; exact hrun)
      have hT : Turns w own (fun x => x = z) (w.setRow b c') b ((es ++ new).length * i.size) := by
        refine ⟨rfl, rfl, rfl, by rw [size_setRow]; exact Nat.le_refl _, fun k _ hk => setRow_other w b k c' hk, by rw [size_setRow]; exact Za4 hcc, .inr ⟨z, _, hob, rfl, by rw [hln]; exact Nat.mul_le_mul_right _ (by omega), fun j v hj hcv => ?_⟩⟩
        rw [cell_of_row _ b j _ T (0, 0) (setRow_heap w b cc c' T (0, 0) hcc), hget j, if_neg (by omega)]
        rw [cell_of_row w b j cc T (0, 0) hcc] at hcv
        exact hcv
      have hkey : ∀ (y : Owner) (own1 : Own), own1 = Zc0 own b y ((es ++ new).length * i.size) → ExtA w own (st.lose s).heap (w.setRow b c') own1 (st.lose s).heap →
          OwnRel C.P (w.setRow b c') own1 y (.slice (some ⟨b, 0, none⟩) (es.length + new.length) cap) (es ++ new) := by
        intro y own1 ho e'
        refine .inr ⟨b, cap, c', T, i', hne', by rw [hln], by rw [ho, ZcE, hii], setRow_heap w b cc c' T (0, 0) hcc, hi', hpos', by rw [hln]; exact hin, hmax, by rw [hcs, hcsz, hii], ?_, by rw [hii]; exact hall⟩
        refine ZoE (n := es.length + new.length) (setRow_heap w b cc c' T (0, 0) hcc) hln hin hall (fun x f hx => by rw [ho, ZcE] at hx; simp only [Option.some.injEq, Prod.mk.injEq] at hx; rw [← hx.2, hln]; exact Nat.le_refl _) (fun j d hd => ?_)
        have hj := hflt j d hd
        rw [Zvh hessz] at hd
        rw [hget j]
        rw [Nat.add_mul] at hj
        split at hd
        · rename_i hjl
          obtain ⟨u, g1, g2, g3⟩ := hold j d hd
          rw [if_neg (by omega)]
          exact ⟨u, g1, g2, g3.mono e'.ext⟩
        · rename_i hjl
          obtain ⟨u, g1, g2, g3⟩ := nget _ d hd
          rw [if_pos (by omega)]
          exact ⟨u, g1, g2, g3.mono e'.ext⟩
      obtain ⟨own', S2, F, E⟩ := S1.turnOwn (dst := o.dst) (v := .slice (some ⟨b, 0, none⟩) (es.length + new.length) cap) (es := es ++ new) hT (fun y hy => by rw [hy]; exact hd) (fun y own' _ ho e' => hkey y own' ho e') hp
      exact Zbi hrun' S2 F (by rw [← hheap]; exact E)
end
end Go.Abs
namespace Go.Abs
section
variable {C : Ctx} {call : Zaa} {fa : FA} {own own' : Own} {st st' : St} {a : Act} {w w' : World} {o : Oper}
theorem ZrW (S : SRel C.P fa own st a w) {t : TypeId} {n : Nat} {ps : Array (Nat × Operand)} {es : List DV} (hop : o.op = .buildSlice t n ps)
    (he : Zae C t n st ps.toList = some es) (hp : st.putOwn fa o.dst es = some st') : ZeV C.P fa own st.heap st' a w o := by
  obtain ⟨e, inf, c, hu, hi, hs0, hn, hn0, hmax, hcs, hsz, h1, h2, hrun⟩ := ZrX S hop he
  have g := Grow.alloc w (.cells c e)
  have hT : Turns w own (fun _ => False) (w.alloc (.cells c e)) w.heap.size (es.length * inf.size) :=
    ⟨rfl, rfl, rfl, g.size, fun k hk _ => g.blk k hk, by rw [ZdV]; omega, .inl (Nat.le_refl _)⟩
  have hne : es ≠ [] := by rintro rfl; simp at hn; omega
  have hkey : ∀ (y : Owner) (own1 : Own), own1 = Zc0 own w.heap.size y (es.length * inf.size) → ExtA w own st.heap (w.alloc (.cells c e)) own1 st.heap →
      OwnRel C.P (w.alloc (.cells c e)) own1 y (.slice (some ⟨w.heap.size, 0, none⟩) n n) es := by
    intro y own1 ho e'
    refine .inr ⟨w.heap.size, n, c, e, inf, hne, by rw [hn], by rw [ho, ZcE], ZeA w _, hi, hs0, by omega, by simp only [maxLen]; omega, hcs, ?_, hsz⟩
    refine ZoE (ZeA w _) hn (Nat.le_refl _) hsz (fun x f hx => by
      rw [ho, ZcE] at hx
      simp only [Option.some.injEq, Prod.mk.injEq] at hx
      rw [← hx.2, hn]
      exact Nat.le_refl _) (fun j d hd => ?_)
    have hj : j < n * inf.size := by rw [← hn, ← Zbr hsz]; exact (List.getElem?_eq_some_iff.1 hd).1
    have hjc : j < c.size := by omega
    have hu := Array.getElem?_eq_getElem hjc
    exact ⟨_, hu, h1 j _ hu, (h2 j _ d hu hd).mono e'.ext⟩
  obtain ⟨own', S2, F, E⟩ := S.turnOwn (dst := o.dst) (v := .slice (some ⟨w.heap.size, 0, none⟩) n n) (es := es) hT (fun _ h => h.elim) (fun y own' _ ho e' => hkey y own' ho e') hp
  exact Zbi hrun S2 F E
theorem Yat (d : DV) : (AV.d d).cells = d.cells.map .d := by cases d <;> rfl
theorem YcY (l : List DV) : (l.map AV.d).flatMap AV.cells = (l.flatMap DV.cells).map .d := by
  rw [List.flatMap_map, List.map_flatMap]
  congr 1
  funext y
  exact Yat y
theorem Zxl {l : List DV} {sz : Nat} (h : ∀ e ∈ l, e.cells.length = sz) : ∀ e ∈ l.map AV.d, e.cells.length = sz := by
  intro e he
  obtain ⟨d, hd, rfl⟩ := List.mem_map.1 he
  rw [Yat, List.length_map, h d hd]
theorem Zk5 (S : SRel C.P fa own st a w) {c : Call} {s x : Operand} {t : TypeId} {sz : Nat} {new : List DV} (hop : o.op = .call c) (hc : c.callee = .builtin .append) (ha : c.args.toList = [s, x]) (ht : c.argTypes.toList = [t, t])
    (hes : Zbx st s = some []) (hx : opD st x = some (.slc new)) (hnn : new ≠ []) (hsz : C.elemSize t = some sz) (hs1 : Zao sz new = true) (hroom : ZbL C t new.length = true)
    (hok : C.elemOk t sz = true) (hp : St.put fa { (st.lose s) with heap := st.heap ++ [AObj.arr 0 true (new.map AV.d)] } o.dst (.a (.osl st.heap.length 0 new.length)) = some st') : ZeV C.P fa own st.heap st' a w o := by
  obtain ⟨e, i, zv, zd, hu, hi, rfl, hiz, hzs, hpos, _, _, _⟩ := ZdR hsz hok
  obtain ⟨r1, r2⟩ := ZdN hu hi hroom
  have hnew := ZeZ hs1
  obtain ⟨xb, xc, news, hxv, hnl, hf, h1, hnr⟩ := ZoF (C := C) (Zbv S hx) hnew
  rw [hxv] at hf
  obtain ⟨S1, z, hr, hd⟩ := Zna S hes
  have hheap := Zl2 st s
  have hpl : 0 < new.length := List.length_pos_iff.2 hnn
  rcases hr with ⟨_, q, hv⟩ | ⟨b, cap, cc, T, i', hne, _⟩
  · obtain ⟨nc, c', hrun, hge, hnm, hcs, hget⟩ := Zdz (ty := o.type) (n := 0) (cap := 0) (sb := q) (olds := []) hu hi hiz hzs (fun w' _ => ZjP _ q) (by simp) hnl hf (by omega) (by simpa using r2) (by simpa using r1)
    have hrun' := Zce (C := C) hop hc ha ht (by rw [hv, hxv]; exact hrun)
    have g := ZiX w (.cells c' e)
    rw [← hheap] at hp
    have S2 := S1.newObj g (by rw [ZkC]; omega) (x := .arr 0 true (new.map AV.d)) (fun own' e' _ => by
      refine ⟨c', e, (0, 0), i, ZfK w _, hi, (fun j _ hj => by simp at hj), (fun _ => ⟨rfl, fun h => by simp at h; exact absurd h hnn⟩), Zxl hnew, hpos, ?_, fun j y hy => ?_⟩
      · rw [List.length_map, hcs]; exact Nat.mul_le_mul_right _ (by omega)
      · rw [YcY, List.getElem?_map, Option.map_eq_some_iff] at hy
        obtain ⟨d, hd, rfl⟩ := hy
        have hj : j < new.length * i.size := by rw [← Zbr hnew]; exact (List.getElem?_eq_some_iff.1 hd).1
        have hjn : j < news.length := by omega
        have hu := List.getElem?_eq_getElem hjn
        exact ⟨_, by rw [hget j (by rw [Nat.zero_add]; exact hj)]; exact hu, h1 _ (List.mem_of_getElem? hu), .d _ _ ((hnr j _ d hu hd).mono e'.ext)⟩)
    refine Zbi hrun' (S2.1.put (fun t' _ => ?_) hp) (ZgK g _) (by rw [ZbX hp, ← hheap]; exact S2.2)
    simp only [Nat.zero_add]
    refine .osl _ _ _ _ (by simp) ⟨_, _, rfl⟩ (fun g' ap es h => Nat.zero_le _) (fun ap es h => ?_)
    exact ⟨w.heap.size, _, _, e, _, i, rfl, by simp [upd], ZfK w _, hi, hcs⟩
  · exact absurd rfl hne
theorem Zrg {sz : Nat} {es : List AV} (h : Zbl sz es = true) : ∀ x l, es = x :: l → x.cells.length = sz := by
  intro x l he
  subst he
  exact Nat.eq_of_beq_eq_true h
theorem ZnL (S : SRel C.P fa own st a w) {c : Call} {s x : Operand} {t : TypeId} {sz id g : Nat} {es : List AV} {new : List DV} (hop : o.op = .call c) (hc : c.callee = .builtin .append) (ha : c.args.toList = [s, x]) (ht : c.argTypes.toList = [t, t])
    (hs : opA st s = some (.osl id g es.length)) (ho : st.heap[id]? = some (.arr g true es)) (hx : opD st x = some (.slc new)) (hsz : C.elemSize t = some sz) (hs1 : Zao sz new = true) (hs2 : Zbl sz es = true)
    (hroom : ZbL C t (es.length + new.length) = true) (hok : C.elemOk t sz = true)
    (hp : St.put fa { st with heap := st.heap.set id (.arr (g + 1) true (es ++ new.map AV.d)) } o.dst (.a (.osl id (g + 1) (es.length + new.length))) = some st') : ZeV C.P fa own st.heap st' a w o := by
  obtain ⟨e, i, zv, zd, hu, hi, rfl, hiz, hzs, hpos, _, _, _⟩ := ZdR hsz hok
  obtain ⟨r1, r2⟩ := ZdN hu hi hroom
  have hnew := ZeZ hs1
  obtain ⟨xb, xc, news, hxv, hnl, hf, h1, hnr⟩ := ZoF (C := C) (Zbv S hx) hnew
  rw [hxv] at hf
  obtain ⟨hid, _, _, hl⟩ := (Zb8 S hs).osl_inv
  obtain ⟨b, cap, cc, T, fr, i', hv, hob, hcc, hi', hcsz⟩ := hl true es ho
  obtain ⟨c2, T2, fr2, i2, hc2, hi2, hnf, hap, hessz, hpos', hle, hcells⟩ := S.h.objAt ho hob
  rw [hcc] at hc2
  simp only [Option.some.injEq, Obj.cells.injEq] at hc2
  obtain ⟨rfl, rfl, rfl⟩ := hc2
  rw [hi'] at hi2
  simp only [Option.some.injEq] at hi2
  subst hi2
  obtain ⟨hfr, hempty⟩ := hap rfl
  subst hfr
  have hcap : es.length ≤ cap := by
    have : es.length * i'.size ≤ cap * i'.size := by rw [← hcsz]; exact hle
    exact Nat.le_of_mul_le_mul_right this hpos'
  have hsize : (es = [] ∧ cap = 0) ∨ i'.size = i.size := by
    cases hee : es with
    | nil =>
      left
      refine ⟨rfl, ?_⟩
      have := hempty hee
      rw [hcsz] at this
      rcases Nat.mul_eq_zero.1 this with h | h
      · exact h
      · omega
    | cons x l =>
      right
      rw [← hessz x (by rw [hee]; simp), Zrg hs2 x l hee]
  have hgs : ∀ k, (st.heap.set id (.arr (g + 1) true (es ++ new.map AV.d)))[k]? = if k = id then some (.arr (g + 1) true (es ++ new.map AV.d)) else st.heap[k]? := by
    intro k
    rw [List.getElem?_set]
    by_cases hk : k = id
    · subst hk; simp [hid]
    · rw [if_neg (Ne.symm hk), if_neg hk]
  have hlater : ∀ (k : Nat) (y y' : AObj), st.heap[k]? = some y → (st.heap.set id (.arr (g + 1) true (es ++ new.map AV.d)))[k]? = some y' → y.later y' := by
    intro k y y' h1 h2
    rw [hgs k] at h2
    split at h2
    · rename_i hk; subst hk; rw [ho] at h1; simp only [Option.some.injEq] at h1 h2; subst h1; subst h2; exact ⟨Nat.le_succ g, rfl⟩
    · rw [h1] at h2; simp only [Option.some.injEq] at h2; subst h2; exact AObj.later_refl y
  have hln : (es ++ new.map AV.d).length = es.length + new.length := by simp
  have hall : i'.size = i.size → ∀ x ∈ es ++ new.map AV.d, x.cells.length = i.size := by
    intro hii x hx
    rcases List.mem_append.1 hx with h | h
    · rw [hessz x h, hii]
    · exact Zxl hnew x h
  have hfin : ∀ {w1 : World} {own1 : Own} {b1 cap1 : Nat} {c1 : Array Value} {T1 : TypeId} {i1 : TypeInfo}, SRel C.P fa own1 { st with heap := st.heap.set id (.arr (g + 1) true (es ++ new.map AV.d)) } a w1 → own1 b1 = some (.obj id, 0) →
      w1.heap[b1]? = some (.cells c1 T1 (0, 0)) → C.P.info? T1 = some i1 → c1.size = cap1 * i1.size → SRel C.P fa own1 st' (a.put o.dst (.slice (some ⟨b1, 0, none⟩) (es.length + new.length) cap1)) w1 := by
    intro w1 own1 b1 cap1 c1 T1 i1 S1 e1 e2 e3 e4
    refine S1.put (fun t' _ => ?_) hp
    refine .osl _ _ _ _ (by simpa using hid) ⟨_, _, rfl⟩ (fun g' ap es' h => ?_) (fun ap es' h => ⟨b1, cap1, c1, T1, (0, 0), i1, rfl, e1, e2, e3, e4⟩)
    simp only at h
    rw [hgs id, if_pos rfl] at h
    simp only [Option.some.injEq, AObj.arr.injEq] at h
    rw [h.1]; exact Nat.le_refl _
  have nget : ∀ (j : Nat) d, (new.flatMap DV.cells)[j]? = some d → ∃ u, news[j]? = some u ∧ u.oneCell' = true ∧ Rep w own u d := by
    intro j d hd
    have hj : j < news.length := by
      rw [hnl, ← Zbr hnew]; exact (List.getElem?_eq_some_iff.1 hd).1
    have hu := List.getElem?_eq_getElem hj
    exact ⟨_, hu, h1 _ (List.mem_of_getElem? hu), hnr j _ d hu hd⟩
  have hrow : ∀ {w1 : World} {own1 : Own} {c1 : Array Value}, ExtA w own st.heap w1 own1 (st.heap.set id (.arr (g + 1) true (es ++ new.map AV.d))) →
      (∀ j : Nat, j < es.length * i'.size → c1[j]? = cc[j]?) → (∀ j : Nat, j < new.length * i.size → c1[es.length * i'.size + j]? = news[j]?) →
      ∀ (j : Nat) y, ((es ++ new.map AV.d).flatMap AV.cells)[j]? = some y → ∃ v, c1[j]? = some v ∧ v.oneCell' = true ∧ ARep C.P w1 own1 (st.heap.set id (.arr (g + 1) true (es ++ new.map AV.d))) v y := by
    intro w1 own1 c1 e' ho1 hn1 j y hy
    rw [List.flatMap_append, List.getElem?_append, Zbr hessz] at hy
    split at hy
    · rename_i hj
      obtain ⟨v, g1, g2, g3⟩ := hcells j y hy
      exact ⟨v, by rw [ho1 j hj, g1], g2, g3.mono e'⟩
    · rename_i hj
      rw [YcY, List.getElem?_map, Option.map_eq_some_iff] at hy
      obtain ⟨d, hd, rfl⟩ := hy
      obtain ⟨u, g1, g2, g3⟩ := nget _ d hd
      have hlt : j - es.length * i'.size < new.length * i.size := by rw [← Zbr hnew]; exact (List.getElem?_eq_some_iff.1 hd).1
      refine ⟨u, ?_, g2, .d _ _ (g3.mono e'.ext)⟩
      rw [← hn1 _ hlt] at g1
      rw [← g1]
      congr 1
      omega
  rcases Nat.lt_or_ge cap (es.length + new.length) with hfull | hin
  ·
    have heqs : es.length * i'.size = es.length * i.size := by
      rcases hsize with ⟨rfl, _⟩ | h
      · simp
      · rw [h]
    have hol : (cc.toList.take (es.length * i.size)).length = es.length * i.size := by
      rw [List.length_take, show cc.toList.length = cc.size from rfl]
      exact Nat.min_eq_left (by rw [← heqs]; exact hle)
    have hfirst := ZiP (C := C) (cap := cap) (n := es.length) (sz := i.size) hcc (by rw [← heqs]; exact hle)
    obtain ⟨nc, c', hrun, hge, hnm, hcs, hget⟩ := Zdz (ty := o.type) hu hi hiz hzs hfirst hol hnl hf hfull r2 r1
    have hrun' := Zce (C := C) hop hc ha ht (by rw [hv, hxv]; exact hrun)
    have hT := Zll w (.cells c' e) own 0
    have e1 := hT.extA' (y := .obj id) (h' := st.heap.set id (.arr (g + 1) true (es ++ new.map AV.d))) S.h (fun _ h => h) (fun k y y' h1 h2 h3 hk => by
      cases hk
      rw [hgs id, if_pos rfl] at h2
      rw [ho] at h1
      simp only [Option.some.injEq] at h1 h2
      subst h1; subst h2
      simp only [AObj.stays] at h3
      omega) (by simp) hlater
    refine Zbi (own' := Zc0 own w.heap.size (.obj id) 0) hrun' (hfin (S.heapStep ⟨fun k y hy => ?_, hT.uniq S.h, hT.lt S.h, fun k id' f hk => ?_⟩ e1 (fun y hy => hT.keep S.h (fun h => h) (hy id))) (ZcE _ _ _ _) (ZfK w _) hi hcs) (hT.frm (fun h => h) (by simp)) (by rw [ZbX hp]; exact e1)
    · rw [hgs k] at hy
      split at hy
      · rename_i hk
        subst hk
        simp only [Option.some.injEq] at hy
        subst hy
        have hszs : ∀ x ∈ es ++ new.map AV.d, x.cells.length = i.size := by
          rcases hsize with ⟨rfl, _⟩ | h
          · simpa using Zxl hnew
          · exact hall h
        refine ⟨w.heap.size, ZcE _ _ _ _, c', e, (0, 0), i, ZfK w _, hi, (fun j _ hj => by simp at hj), (fun _ => ⟨rfl, fun h => ?_⟩), hszs, hpos, by rw [hln, hcs]; exact Nat.mul_le_mul_right _ hge, hrow e1 (fun j hj => ?_) (fun j hj => ?_)⟩
        · have : es.length + new.length = 0 := by rw [← hln, h]; rfl
          omega
        · rw [heqs] at hj
          rw [hget j (by rw [Nat.add_mul]; omega), List.getElem?_append_left (by rw [hol]; exact hj), List.getElem?_take, if_pos hj]
          simp
        · rw [heqs, hget _ (by rw [Nat.add_mul]; omega), List.getElem?_append_right (by rw [hol]; omega), hol]
          congr 1
          omega
      · rename_i hk
        obtain ⟨q, hq, hr⟩ := S.h.obj k y hy
        obtain ⟨k1, k2⟩ := hT.keep (y := .obj id) S.h (fun h => h) (by simpa using hk) q 0 hq
        exact ⟨q, k1, hr.mono e1 k2⟩
    · rcases ZbW hk with ⟨_, h2, h3⟩ | ⟨_, h2, _⟩
      · simp only [Owner.obj.injEq] at h2; subst h2; exact ⟨by simpa using hid, h3⟩
      · have := S.h.idlt k id' f h2; exact ⟨by simpa using this.1, this.2⟩
  ·
    rcases hsize with ⟨rfl, rfl⟩ | hii
    · have : new = [] := List.eq_nil_of_length_eq_zero (by simpa using hin)
      subst this
      have hnews : news = [] := List.eq_nil_of_length_eq_zero (by simpa using hnl)
      subst hnews
      obtain ⟨c', hrun, hcs, hget⟩ := ZgQ (ty := o.type) (n := 0) (cap := 0) hu hi hcc hnf hnl (hf w rfl) h1 hin (by simp)
      have hrun' := Zce (C := C) hop hc ha ht (by rw [hv, hxv]; exact hrun)
      have e1 := Zjp (h := st.heap) (h' := st.heap.set id (.arr (g + 1) true ([] ++ [].map AV.d))) hob hcc hcs (by simp) hlater
      refine Zbi (own' := own) hrun' (hfin (S.heapStep ⟨fun k y hy => ?_, S.h.uniq, fun k z hz => by rw [size_setRow]; exact S.h.lt k z hz, fun k id' f hk => by have := S.h.idlt k id' f hk; exact ⟨by simpa using this.1, this.2⟩⟩ e1
        (fun y hy => ZcC hob y (hy id))) hob (setRow_heap w b cc c' T (0, 0) hcc) hi' (by rw [hcs, hcsz])) (ZrZ hob (by simp)) (by rw [ZbX hp]; exact e1)
      rw [hgs k] at hy
      split at hy
      · rename_i hk
        subst hk
        simp only [Option.some.injEq] at hy
        subst hy
        exact ⟨b, hob, c', T, (0, 0), i', setRow_heap w b cc c' T (0, 0) hcc, hi', (fun j _ hj => by simp at hj), (fun _ => ⟨rfl, fun _ => by rw [hcs, hcsz]; simp⟩), (fun x hx => by simp at hx), hpos', by simp, fun j y hy => by simp at hy⟩
      · rename_i hk
        obtain ⟨q, hq, hr⟩ := S.h.obj k y hy
        exact ⟨q, hq, hr.mono e1 (ZcC hob _ (by simpa using hk) q 0 hq).2⟩
    · obtain ⟨c', hrun, hcs, hget⟩ := ZgQ (ty := o.type) hu hi hcc hnf hnl (hf w rfl) h1 hin (by rw [hcsz, hii]; exact Nat.le_refl _)
      have hrun' := Zce (C := C) hop hc ha ht (by rw [hv, hxv]; exact hrun)
      have e1 := Zjp (h := st.heap) (h' := st.heap.set id (.arr (g + 1) true (es ++ new.map AV.d))) hob hcc hcs (by simp) hlater
      refine Zbi (own' := own) hrun' (hfin (S.heapStep ⟨fun k y hy => ?_, S.h.uniq, fun k z hz => by rw [size_setRow]; exact S.h.lt k z hz, fun k id' f hk => by have := S.h.idlt k id' f hk; exact ⟨by simpa using this.1, this.2⟩⟩ e1
        (fun y hy => ZcC hob y (hy id))) hob (setRow_heap w b cc c' T (0, 0) hcc) hi' (by rw [hcs, hcsz])) (ZrZ hob (by simp)) (by rw [ZbX hp]; exact e1)
      rw [hgs k] at hy
      split at hy
      · rename_i hk
        subst hk
        simp only [Option.some.injEq] at hy
        subst hy
        refine ⟨b, hob, c', T, (0, 0), i', setRow_heap w b cc c' T (0, 0) hcc, hi', (fun j _ hj => by simp at hj), (fun _ => ⟨rfl, fun h => ?_⟩), by rw [hii]; exact hall hii, hpos', by rw [hln, hcs, hcsz]; exact Nat.mul_le_mul_right _ hin, hrow e1 (fun j hj => ?_) (fun j hj => ?_)⟩
        · have h0 : es.length = 0 ∧ new.length = 0 := by
            have : es.length + new.length = 0 := by rw [← hln, h]; rfl
            omega
          rw [hcs]
          exact hempty (List.eq_nil_of_length_eq_zero h0.1)
        · rw [hget j, if_neg (by rw [← hii]; omega)]
        · rw [hget _, if_pos (by rw [hii]; omega), hii]
          congr 1
          omega
      · rename_i hk
        obtain ⟨q, hq, hr⟩ := S.h.obj k y hy
        exact ⟨q, hq, hr.mono e1 (ZcC hob _ (by simpa using hk) q 0 hq).2⟩
end
end Go.Abs
namespace Go.Abs
section
variable {C : Ctx} {call : Zaa} {fa : FA} {own own' own1 : Own} {st st' : St} {a : Act} {w w' w1 : World} {o : Oper} {h h' h1 hc : List AObj}
theorem AObj.later_trans {x y z : AObj} (h1 : x.later y) (h2 : y.later z) : x.later z := by
  cases x <;> cases y <;> cases z <;> first | exact h1.elim | exact h2.elim | exact ⟨Nat.le_trans h1.1 h2.1, h1.2.trans h2.2⟩ | exact trivial
theorem AObj.stays_mid {x y z : AObj} (h1 : x.later y) (h2 : y.later z) (h3 : x.stays z) : x.stays y ∧ y.stays z := by
  cases x <;> cases y <;> cases z <;> first | exact h1.elim | exact h2.elim | exact ⟨trivial, trivial⟩ | (
    have e1 := h1.1
    have e2 := h2.1
    simp only [AObj.stays] at h3 ⊢
    omega)
theorem ExtA.trans (e : ExtA w own h w1 own1 h1) (e' : ExtA w1 own1 h1 w' own' h') : ExtA w own h w' own' h' := by
  have mid : ∀ (id : Nat) (x : AObj), h[id]? = some x → ∃ y, h1[id]? = some y := fun id x hx => by
    have := (List.getElem?_eq_some_iff.1 hx).1
    exact ⟨h1[id]'(Nat.lt_of_lt_of_le this e.len), List.getElem?_eq_getElem _⟩
  refine ⟨e.ext.trans e'.ext, Nat.le_trans e.len e'.len, fun id x z hx hz => ?_, fun b id x z hb hx hz hs => ?_⟩
  · obtain ⟨y, hy⟩ := mid id x hx
    exact AObj.later_trans (e.kind id x y hx hy) (e'.kind id y z hy hz)
  · obtain ⟨y, hy⟩ := mid id x hx
    obtain ⟨s1, s2⟩ := AObj.stays_mid (e.kind id x y hx hy) (e'.kind id y z hy hz) hs
    obtain ⟨b1, b2⟩ := e.blk b id x y hb hx hy s1
    obtain ⟨b3, b4⟩ := e'.blk b id y z b1 hy hz s2
    refine ⟨b3, fun c T fr hcc => ?_⟩
    obtain ⟨c1, g1, g2⟩ := b2 c T fr hcc
    obtain ⟨c2, g3, g4⟩ := b4 c1 T fr g1
    exact ⟨c2, g3, by rw [g4, g2]⟩
theorem ZmQ (k : Nat) : ∀ (as : List AV) (i : Nat), (AV.shiftL k as)[i]? = (as[i]?).map (AV.shift k) := by
  intro as
  induction as with
  | nil => intro i; simp [AV.shiftL]
  | cons a as ih => intro i; cases i with
    | zero => simp [AV.shiftL]
    | succ i => simp [AV.shiftL, ih]
theorem ZmO (k : Nat) (as : List AV) : (AV.shiftL k as).length = as.length := by
  induction as with
  | nil => rfl
  | cons a as ih => simp [AV.shiftL, ih]
theorem Zk9 (k : Nat) (v : AV) : (v.shift k).cells = v.cells.map (AV.shift k) := by
  cases v with
  | d x => cases x <;> simp [AV.shift, AV.cells]
  | _ => simp [AV.shift, AV.cells]
structure Shifts (w : World) (own1 own' : Own) (h hc : List AObj) : Prop where
  ext : Ext w own1 w own'
  obj : ∀ id b, own1 b = some (.obj id, 0) → own' b = some (.obj (id + h.length), 0)
theorem ZiV (h hc : List AObj) (id : Nat) {x : AObj} (hx : (h ++ hc.map (AObj.shift h.length))[id + h.length]? = some x) : ∃ y, hc[id]? = some y ∧ x = y.shift h.length := by
  rw [List.getElem?_append_right (by omega), Nat.add_sub_cancel, List.getElem?_map, Option.map_eq_some_iff] at hx
  obtain ⟨y, hy, e⟩ := hx
  exact ⟨y, hy, e.symm⟩
theorem ARep.shifted {P : Program} (T : Shifts w own1 own' h hc) {v : Value} {x : AV} (r : ARep P w own1 hc v x) : ARep P w own' (h ++ hc.map (AObj.shift h.length)) v (x.shift h.length) := by
  induction r with
  | d v x hr => exact .d v x (hr.mono T.ext)
  | ptr v id off hid hl hv =>
    refine .ptr v _ off (by simp; omega) (fun cs hcs => ?_) hv
    obtain ⟨y, hy, e⟩ := ZiV h hc id hcs
    cases y <;> simp only [AObj.shift] at e <;> try (cases e; done)
    obtain ⟨b, hb, hv'⟩ := hl _ hy
    exact ⟨b, T.obj _ _ hb, hv'⟩
  | osl v id g n hid hv hg hl =>
    refine .osl v _ g n (by simp; omega) hv (fun g' ap es hes => ?_) (fun ap es hes => ?_)
    · obtain ⟨y, hy, e⟩ := ZiV h hc id hes
      cases y <;> simp only [AObj.shift] at e <;> try (cases e; done)
      simp only [AObj.arr.injEq] at e
      rw [e.1]
      exact hg _ _ _ hy
    · obtain ⟨y, hy, e⟩ := ZiV h hc id hes
      cases y <;> simp only [AObj.shift] at e <;> try (cases e; done)
      simp only [AObj.arr.injEq] at e
      obtain ⟨rfl, rfl, rfl⟩ := e
      obtain ⟨b, cap, c, T', fr, i, hv', hb, rest⟩ := hl _ _ hy
      exact ⟨b, cap, c, T', fr, i, hv', T.obj _ _ hb, rest⟩
  | mp v id hid hl hv =>
    refine .mp v _ (by simp; omega) (fun cs hcs => ?_) hv
    obtain ⟨y, hy, e⟩ := ZiV h hc id hcs
    cases y <;> simp only [AObj.shift] at e <;> try (cases e; done)
    obtain ⟨b, hb, hv'⟩ := hl _ hy
    exact ⟨b, T.obj _ _ hb, hv'⟩
  | fn f cs as hl hh ih =>
    refine .fn f cs _ (by rw [ZmO, hl]) fun i v y hv hy => ?_
    rw [ZmQ, Option.map_eq_some_iff] at hy
    obtain ⟨z, hz, rfl⟩ := hy
    exact ih i v z hv hz
  | tup cs as hl hh ih =>
    refine .tup cs _ (by rw [ZmO, hl]) fun i v y hv hy => ?_
    rw [ZmQ, Option.map_eq_some_iff] at hy
    obtain ⟨z, hz, rfl⟩ := hy
    exact ih i v z hv hz
  | raw v h1 => exact .raw v h1
theorem ZuF (k : Nat) (es : List AV) : (es.map (AV.shift k)).flatMap AV.cells = (es.flatMap AV.cells).map (AV.shift k) := by
  rw [List.flatMap_map, List.map_flatMap]
  congr 1
  funext y
  exact Zk9 k y
theorem ORel.shifted {P : Program} (T : Shifts w own1 own' h hc) {b : Nat} {x : AObj} (r : ORel P w own1 hc b x) : ORel P w own' (h ++ hc.map (AObj.shift h.length)) b (x.shift h.length) := by
  cases x with
  | arr g ap es =>
    obtain ⟨c, T', fr, i, h1, h2, h3, h4, h5, h6, h7, h8⟩ := r
    refine ⟨c, T', fr, i, h1, h2, h3, fun hap => ⟨(h4 hap).1, fun he => (h4 hap).2 (List.map_eq_nil_iff.1 he)⟩, fun e he => ?_, h6, by simpa using h7, fun j y hy => ?_⟩
    · obtain ⟨e', he', rfl⟩ := List.mem_map.1 he
      rw [Zk9, List.length_map, h5 e' he']
    · rw [ZuF, List.getElem?_map, Option.map_eq_some_iff] at hy
      obtain ⟨z, hz, rfl⟩ := hy
      obtain ⟨v, g1, g2, g3⟩ := h8 j z hz
      exact ⟨v, g1, g2, g3.shifted T⟩
  | var cs =>
    obtain ⟨c, T', fr, h1, h2, h3, h4⟩ := r
    refine ⟨c, T', fr, h1, h2, by simpa using h3, fun j y hy => ?_⟩
    rw [List.getElem?_map, Option.map_eq_some_iff] at hy
    obtain ⟨z, hz, rfl⟩ := hy
    obtain ⟨v, g1, g2, g3⟩ := h4 j z hz
    exact ⟨v, g1, g2, g3.shifted T⟩
  | map es =>
    obtain ⟨m, cl, h1, hst, h2, h3⟩ := r
    refine ⟨m, cl, h1, hst, by simpa using h2, fun j e y he hy => ?_⟩
    rw [List.getElem?_map, Option.map_eq_some_iff] at hy
    obtain ⟨z, hz, rfl⟩ := hy
    obtain ⟨g1, g2⟩ := h3 j e z he hz
    exact ⟨g1.mono T.ext, g2.shifted T⟩
def Zp2 (own own1 : Own) (n k : Nat) : Own := fun b => if b < n then own b else match own1 b with
  | some (.obj id, f) => some (.obj (id + k), f)
  | x => x
theorem ZfU {own own1 : Own} {n k b : Nat} (h : b < n) : Zp2 own own1 n k b = own b := by simp [Zp2, h]
theorem ZkA {own own1 : Own} {n k b : Nat} (h : ¬ b < n) : (Zp2 own own1 n k b = none ∧ own1 b = none) ∨ (∃ id f, Zp2 own own1 n k b = some (.obj (id + k), f) ∧ own1 b = some (.obj id, f)) ∨
    ∃ x f, Zp2 own own1 n k b = some (x, f) ∧ own1 b = some (x, f) ∧ ∀ id, x ≠ .obj id := by
  cases hb : own1 b with
  | none => exact .inl ⟨by simp [Zp2, h, hb], rfl⟩
  | some y =>
    obtain ⟨x, f⟩ := y
    cases x with
    | obj id => exact .inr (.inl ⟨id, f, by simp [Zp2, h, hb], rfl⟩)
    | _ => exact .inr (.inr ⟨_, f, by simp [Zp2, h, hb], rfl, by simp⟩)
abbrev Ze5 : Nat → Bool := fun _ => false
theorem ZjS {b : Nat} {x : Owner} {f : Nat} (h : own b = some (x, f)) : Zb2 Ze5 own b = some (.ext, f) := by
  rcases Za6 Ze5 own b with ⟨h2, _⟩ | ⟨_, _, _, h3, _⟩ | ⟨x', f', h2, h3, _⟩
  · rw [h2] at h; cases h
  · cases h3
  · rw [h2] at h
    simp only [Option.some.injEq, Prod.mk.injEq] at h
    rw [h3, h.2]
theorem Yef (H : HRel C.P w own h) (H1 : HRel C.P w' own1 hc) (hO : ZhK own1) (F : Frm w (Zb2 Ze5 own) w' own1) :
    HRel C.P w' (Zp2 own own1 w.heap.size h.length) (h ++ hc.map (AObj.shift h.length)) ∧ ExtA w own h w' (Zp2 own own1 w.heap.size h.length) (h ++ hc.map (AObj.shift h.length)) ∧
      (∀ z, Keep w own w' (Zp2 own own1 w.heap.size h.length) z) ∧ Frm w own w' (Zp2 own own1 w.heap.size h.length) ∧ Shifts w' own1 (Zp2 own own1 w.heap.size h.length) h hc := by
  have g := ZgE F
  have back := fun b hb => Ze1 F b hb
  have keep : ∀ z, Keep w own w' (Zp2 own own1 w.heap.size h.length) z := fun z b f hb => by
    have hlt := H.lt b _ hb
    exact ⟨by rw [ZfU hlt, hb], g.blk b hlt⟩
  have newObj : ∀ b id f, own1 b = some (.obj id, f) → ¬ b < w.heap.size := by
    intro b id f hb hlt
    rw [back b hlt] at hb
    rcases Za6 Ze5 own b with ⟨_, h2⟩ | ⟨_, _, _, h3, _⟩ | ⟨_, _, _, h3, _⟩
    · rw [h2] at hb; cases hb
    · cases h3
    · rw [h3] at hb; simp at hb
  have sh : Shifts w' own1 (Zp2 own own1 w.heap.size h.length) h hc := by
    refine ⟨⟨fun b i v hv hp => ⟨hv, fun x f hx => ?_⟩, fun b es c hm hn => ⟨hm, ?_⟩⟩, fun id b hb => ?_⟩
    · by_cases hlt : b < w.heap.size
      · rw [ZfU hlt] at hx
        exact hp .ext f (by rw [back b hlt]; exact ZjS hx)
      · rcases ZkA (own := own) (own1 := own1) (k := h.length) hlt with ⟨h2, _⟩ | ⟨id, f', h2, h3⟩ | ⟨x', f', h2, h3, _⟩
        · rw [h2] at hx; cases hx
        · rw [h2] at hx; simp only [Option.some.injEq, Prod.mk.injEq] at hx; rw [← hx.2]; exact hp _ _ h3
        · rw [h2] at hx; simp only [Option.some.injEq, Prod.mk.injEq] at hx; rw [← hx.2]; exact hp _ _ h3
    · by_cases hlt : b < w.heap.size
      · rw [ZfU hlt]
        cases hb : own b with
        | none => rfl
        | some y => obtain ⟨x, f⟩ := y; rw [back b hlt, ZjS hb] at hn; cases hn
      · rcases ZkA (own := own) (own1 := own1) (k := h.length) hlt with ⟨h2, _⟩ | ⟨id, f', h2, h3⟩ | ⟨x', f', h2, h3, _⟩
        · exact h2
        · rw [h3] at hn; cases hn
        · rw [h3] at hn; cases hn
    · rcases ZkA (own := own) (own1 := own1) (k := h.length) (newObj b id 0 hb) with ⟨_, h3⟩ | ⟨id', f', h2, h3⟩ | ⟨x', f', h2, h3, h4⟩
      · rw [h3] at hb; cases hb
      · rw [h3] at hb; simp only [Option.some.injEq, Prod.mk.injEq, Owner.obj.injEq] at hb; rw [h2, hb.1, hb.2]
      · rw [h3] at hb; simp only [Option.some.injEq, Prod.mk.injEq] at hb; exact absurd hb.1 (h4 id)
  have hold : ∀ (id : Nat) (x : AObj), h[id]? = some x → (h ++ hc.map (AObj.shift h.length))[id]? = some x := fun id x hx => by rw [List.getElem?_append_left (List.getElem?_eq_some_iff.1 hx).1, hx]
  have ex : ExtA w own h w' (Zp2 own own1 w.heap.size h.length) (h ++ hc.map (AObj.shift h.length)) := by
    refine ⟨⟨fun b i v hv hp => ⟨by rw [Zcc (g.blk b (Zdj hv)), hv], fun x f hx => hp x f (by rwa [ZfU (Zdj hv)] at hx)⟩,
      fun b es c hm hn => ⟨by rw [g.blk b (Za4 hm), hm], by rw [ZfU (Za4 hm), hn]⟩⟩, by simp, fun id x y hx hy => ?_, fun b id x y hb _ _ _ => ?_⟩
    · rw [hold id x hx] at hy; simp only [Option.some.injEq] at hy; subst hy; exact AObj.later_refl x
    · obtain ⟨k1, k2⟩ := keep (.obj id) b 0 hb
      exact ⟨k1, fun c T fr hcc => ⟨c, by rw [k2, hcc], rfl⟩⟩
  have key : ∀ b x f, Zp2 own own1 w.heap.size h.length b = some (x, f) → (b < w.heap.size ∧ own b = some (x, f)) ∨ (¬ b < w.heap.size ∧ ∃ id, x = .obj (id + h.length) ∧ own1 b = some (.obj id, f)) ∨
      (¬ b < w.heap.size ∧ own1 b = some (x, f) ∧ x = .ext) := by
    intro b x f hx
    by_cases hlt : b < w.heap.size
    · rw [ZfU hlt] at hx; exact .inl ⟨hlt, hx⟩
    · rcases ZkA (own := own) (own1 := own1) (k := h.length) hlt with ⟨h2, _⟩ | ⟨id, f', h2, h3⟩ | ⟨x', f', h2, h3, h4⟩
      · rw [h2] at hx; cases hx
      · rw [h2] at hx; simp only [Option.some.injEq, Prod.mk.injEq] at hx; obtain ⟨rfl, rfl⟩ := hx; exact .inr (.inl ⟨hlt, id, rfl, h3⟩)
      · rw [h2] at hx; simp only [Option.some.injEq, Prod.mk.injEq] at hx; obtain ⟨rfl, rfl⟩ := hx
        rcases hO b x' f' h3 with e | ⟨id, e⟩
        · exact .inr (.inr ⟨hlt, h3, e⟩)
        · exact absurd e (h4 id)
  refine ⟨⟨fun id x hx => ?_, fun b b' x f f' h1 h2 hne => ?_, fun b y hy => ?_, fun b id f hb => ?_⟩, ex, keep, ⟨g.os, g.tape, g.output, g.size, fun b hb _ => ⟨g.blk b hb, ZfU hb⟩⟩, sh⟩
  · rcases Nat.lt_or_ge id h.length with hid | hid
    · rw [List.getElem?_append_left hid] at hx
      obtain ⟨b, hb, hr⟩ := H.obj id x hx
      obtain ⟨k1, k2⟩ := keep (.obj id) b 0 hb
      exact ⟨b, k1, hr.mono ex k2⟩
    · obtain ⟨j, rfl⟩ : ∃ j, id = j + h.length := ⟨id - h.length, by omega⟩
      obtain ⟨y, hy, rfl⟩ := ZiV h hc j hx
      obtain ⟨b, hb, hr⟩ := H1.obj j y hy
      exact ⟨b, sh.obj j b hb, hr.shifted sh⟩
  · rcases key b x f h1 with ⟨l1, e1⟩ | ⟨l1, id, e1, e2⟩ | ⟨l1, e1, e2⟩ <;> rcases key b' x f' h2 with ⟨l1', e1'⟩ | ⟨l1', id', e1', e2'⟩ | ⟨l1', e1', e2'⟩
    · exact H.uniq b b' x f f' e1 e1' hne
    · rw [e1'] at e1; have := (H.idlt _ _ _ e1).1; omega
    · exact absurd e2' hne
    · rw [e1] at e1'; have := (H.idlt _ _ _ e1').1; omega
    · rw [e1] at e1'
      simp only [Owner.obj.injEq] at e1'
      have : id = id' := by omega
      subst this
      exact H1.uniq b b' _ f f' e2 e2' (by simp)
    · exact absurd e2' hne
    · exact absurd e2 hne
    · exact absurd e2 hne
    · exact absurd e2 hne
  · obtain ⟨x, f⟩ := y
    rcases key b x f hy with ⟨l1, _⟩ | ⟨_, id, _, e2⟩ | ⟨_, e1, _⟩
    · exact Nat.lt_of_lt_of_le l1 g.size
    · exact H1.lt b _ e2
    · exact H1.lt b _ e1
  · rcases key b _ f hb with ⟨l1, e1⟩ | ⟨_, id', e1, e2⟩ | ⟨_, _, e2⟩
    · have := H.idlt b id f e1; exact ⟨by simp; omega, this.2⟩
    · simp only [Owner.obj.injEq] at e1
      have := H1.idlt b id' f e2
      exact ⟨by simp; omega, this.2⟩
    · cases e2
def ZkS (own : Own) : Own := fun b => match own b with
  | some (.obj id, f) => some (.obj id, f)
  | some (_, f) => some (.ext, f)
  | none => none
theorem Zhu (own : Own) (b : Nat) : (own b = none ∧ ZkS own b = none) ∨ (∃ id f, own b = some (.obj id, f) ∧ ZkS own b = some (.obj id, f)) ∨
    ∃ x f, own b = some (x, f) ∧ ZkS own b = some (.ext, f) ∧ ∀ id, x ≠ .obj id := by
  cases hb : own b with
  | none => exact .inl ⟨rfl, by simp [ZkS, hb]⟩
  | some y =>
    obtain ⟨x, f⟩ := y
    cases x with
    | obj id => exact .inr (.inl ⟨id, f, rfl, by simp [ZkS, hb]⟩)
    | _ => exact .inr (.inr ⟨_, f, rfl, by simp [ZkS, hb], by simp⟩)
def ZsE (own own1 : Own) : Own := fun b => match own b with
  | some (.obj _, _) => own1 b
  | some y => some y
  | none => own1 b
theorem ZmK {own own1 : Own} {b : Nat} {x : Owner} {f : Nat} (h : own b = some (x, f)) (hx : ∀ id, x ≠ .obj id) : ZsE own own1 b = some (x, f) := by
  cases x with
  | obj id => exact absurd rfl (hx id)
  | _ => simp [ZsE, h]
theorem Zdi {own own1 : Own} {b : Nat} : (∃ x f, own b = some (x, f) ∧ (∀ id, x ≠ .obj id) ∧ ZsE own own1 b = some (x, f)) ∨ ((own b = none ∨ ∃ id f, own b = some (.obj id, f)) ∧ ZsE own own1 b = own1 b) := by
  cases hb : own b with
  | none => exact .inr ⟨.inl rfl, by simp [ZsE, hb]⟩
  | some y =>
    obtain ⟨x, f⟩ := y
    cases x with
    | obj id => exact .inr ⟨.inr ⟨id, f, rfl⟩, by simp [ZsE, hb]⟩
    | _ => exact .inl ⟨_, f, rfl, by simp, by simp [ZsE, hb]⟩
theorem Zfw (w : World) (own : Own) (h : List AObj) : ExtA w own h w (ZkS own) h := by
  refine ⟨⟨fun b i v hv hp => ⟨hv, fun x f hx => ?_⟩, fun b es c hm hn => ⟨hm, ?_⟩⟩, Nat.le_refl _, fun id x y hx hy => by rw [hx] at hy; simp only [Option.some.injEq] at hy; subst hy; exact AObj.later_refl x, fun b id x y hb _ _ _ => ?_⟩
  · rcases Zhu own b with ⟨_, h2⟩ | ⟨id, f', h1, h2⟩ | ⟨x', f', h1, h2, _⟩
    · rw [h2] at hx; cases hx
    · rw [h2] at hx; simp only [Option.some.injEq, Prod.mk.injEq] at hx; rw [← hx.2]; exact hp _ _ h1
    · rw [h2] at hx; simp only [Option.some.injEq, Prod.mk.injEq] at hx; rw [← hx.2]; exact hp _ _ h1
  · simp [ZkS, hn]
  · exact ⟨by simp [ZkS, hb], fun c T fr hcc => ⟨c, hcc, rfl⟩⟩
theorem Zif (own : Own) : ZhK (ZkS own) := by
  intro b x f hx
  rcases Zhu own b with ⟨_, h2⟩ | ⟨id, f', h1, h2⟩ | ⟨x', f', h1, h2, _⟩
  · rw [h2] at hx; cases hx
  · rw [h2] at hx; simp only [Option.some.injEq, Prod.mk.injEq] at hx; exact .inr ⟨id, hx.1.symm⟩
  · rw [h2] at hx; simp only [Option.some.injEq, Prod.mk.injEq] at hx; exact .inl hx.1.symm
theorem Zia (H : HRel C.P w own h) : HRel C.P w (ZkS own) h := by
  have key : ∀ b x f, ZkS own b = some (x, f) → (∃ id, x = .obj id ∧ own b = some (.obj id, f)) ∨ (x = .ext ∧ ∃ y, own b = some (y, f)) := by
    intro b x f hx
    rcases Zhu own b with ⟨_, h2⟩ | ⟨id, f', h1, h2⟩ | ⟨x', f', h1, h2, _⟩
    · rw [h2] at hx; cases hx
    · rw [h2] at hx; simp only [Option.some.injEq, Prod.mk.injEq] at hx; obtain ⟨rfl, rfl⟩ := hx; exact .inl ⟨id, rfl, h1⟩
    · rw [h2] at hx; simp only [Option.some.injEq, Prod.mk.injEq] at hx; obtain ⟨rfl, rfl⟩ := hx; exact .inr ⟨rfl, x', h1⟩
  refine ⟨fun id x hx => ?_, fun b b' x f f' h1 h2 hne => ?_, fun b y hy => ?_, fun b id f hb => ?_⟩
  · obtain ⟨b, hb, hr⟩ := H.obj id x hx
    exact ⟨b, by simp [ZkS, hb], hr.mono (Zfw w own h) rfl⟩
  · rcases key b x f h1 with ⟨id, rfl, e1⟩ | ⟨rfl, _⟩
    · rcases key b' _ f' h2 with ⟨id', e, e1'⟩ | ⟨e, _⟩
      · simp only [Owner.obj.injEq] at e; subst e; exact H.uniq b b' _ f f' e1 e1' (by simp)
      · cases e
    · exact absurd rfl hne
  · obtain ⟨x, f⟩ := y
    rcases key b x f hy with ⟨id, _, e1⟩ | ⟨_, y, e1⟩
    · exact H.lt b _ e1
    · exact H.lt b _ e1
  · rcases key b _ f hb with ⟨id', e, e1⟩ | ⟨e, _⟩
    · simp only [Owner.obj.injEq] at e; subst e; exact H.idlt b id f e1
    · cases e
theorem Zwa (H : HRel C.P w own h) (H1 : HRel C.P w' own1 h') (hO : ZhK own1) (F : Frm w (ZkS own) w' own1) (E : ExtA w (ZkS own) h w' own1 h') :
    HRel C.P w' (ZsE own own1) h' ∧ ExtA w own h w' (ZsE own own1) h' ∧ (∀ z, (∀ id, z ≠ .obj id) → Keep w own w' (ZsE own own1) z) ∧ Frm w own w' (ZsE own own1) ∧ ExtA w' own1 h' w' (ZsE own own1) h' := by
  have other : ∀ b x f, own b = some (x, f) → (∀ id, x ≠ .obj id) → w'.heap[b]? = w.heap[b]? ∧ own1 b = some (.ext, f) := by
    intro b x f hb hx
    have hlt := H.lt b _ hb
    rcases Zhu own b with ⟨h2, _⟩ | ⟨id, f', h1, h2⟩ | ⟨x', f', h1, h2, _⟩
    · rw [h2] at hb; cases hb
    · rw [h1] at hb; simp only [Option.some.injEq, Prod.mk.injEq] at hb; exact absurd hb.1.symm (hx id)
    · rw [h1] at hb; simp only [Option.some.injEq, Prod.mk.injEq] at hb
      obtain ⟨e1, e2⟩ := F.blk b hlt (.inr ⟨f', h2⟩)
      exact ⟨e1, by rw [e2, h2, hb.2]⟩
  have e2 : ExtA w' own1 h' w' (ZsE own own1) h' := by
    refine ⟨⟨fun b i v hv hp => ⟨hv, fun x f hx => ?_⟩, fun b es c hm hn => ⟨hm, ?_⟩⟩, Nat.le_refl _, fun id x y hx hy => by rw [hx] at hy; simp only [Option.some.injEq] at hy; subst hy; exact AObj.later_refl x, fun b id x y hb _ _ _ => ?_⟩
    · rcases Zdi (own := own) (own1 := own1) (b := b) with ⟨x', f', h1, h2, h3⟩ | ⟨_, h3⟩
      · rw [h3] at hx; simp only [Option.some.injEq, Prod.mk.injEq] at hx; rw [← hx.2]; exact hp _ _ (other b x' f' h1 h2).2
      · rw [h3] at hx; exact hp x f hx
    · rcases Zdi (own := own) (own1 := own1) (b := b) with ⟨x', f', h1, h2, h3⟩ | ⟨_, h3⟩
      · rw [(other b x' f' h1 h2).2] at hn; cases hn
      · rw [h3]; exact hn
    · refine ⟨?_, fun c T fr hcc => ⟨c, hcc, rfl⟩⟩
      rcases Zdi (own := own) (own1 := own1) (b := b) with ⟨x', f', h1, h2, h3⟩ | ⟨_, h3⟩
      · rw [(other b x' f' h1 h2).2] at hb; simp at hb
      · rw [h3]; exact hb
  refine ⟨⟨fun id x hx => ?_, fun b b' x f f' h1 h2 hne => ?_, fun b y hy => ?_, fun b id f hb => ?_⟩, ((Zfw w own h).trans E).trans e2, fun z hz b f hb => ?_, ⟨F.os, F.tape, F.output, F.size, fun b hb ho => ?_⟩, e2⟩
  · obtain ⟨b, hb, hr⟩ := H1.obj id x hx
    refine ⟨b, ?_, hr.mono e2 rfl⟩
    rcases Zdi (own := own) (own1 := own1) (b := b) with ⟨x', f', h1, h2, h3⟩ | ⟨_, h3⟩
    · rw [(other b x' f' h1 h2).2] at hb; simp at hb
    · rw [h3]; exact hb
  · rcases Zdi (own := own) (own1 := own1) (b := b) with ⟨y, g, e1, e3, e4⟩ | ⟨_, e4⟩ <;> rcases Zdi (own := own) (own1 := own1) (b := b') with ⟨y', g', e1', e3', e4'⟩ | ⟨_, e4'⟩
    · rw [e4] at h1; rw [e4'] at h2
      simp only [Option.some.injEq, Prod.mk.injEq] at h1 h2
      rw [h1.1] at e1; rw [h2.1] at e1'
      exact H.uniq b b' x g g' e1 e1' hne
    · rw [e4] at h1; rw [e4'] at h2
      simp only [Option.some.injEq, Prod.mk.injEq] at h1
      rcases hO b' x f' h2 with h | ⟨id, h⟩
      · exact absurd h hne
      · exact absurd (h1.1.trans h) (e3 id)
    · rw [e4] at h1; rw [e4'] at h2
      simp only [Option.some.injEq, Prod.mk.injEq] at h2
      rcases hO b x f h1 with h | ⟨id, h⟩
      · exact absurd h hne
      · exact absurd (h2.1.trans h) (e3' id)
    · rw [e4] at h1; rw [e4'] at h2
      exact H1.uniq b b' x f f' h1 h2 hne
  · rcases Zdi (own := own) (own1 := own1) (b := b) with ⟨x', f', h1, h2, h3⟩ | ⟨_, h3⟩
    · exact Nat.lt_of_lt_of_le (H.lt b _ h1) F.size
    · rw [h3] at hy; exact H1.lt b y hy
  · rcases Zdi (own := own) (own1 := own1) (b := b) with ⟨x', f', h1, h2, h3⟩ | ⟨_, h3⟩
    · rw [h3] at hb; simp only [Option.some.injEq, Prod.mk.injEq] at hb; exact absurd hb.1 (h2 id)
    · rw [h3] at hb; exact H1.idlt b id f hb
  · exact ⟨ZmK hb hz, (other b z f hb hz).1⟩
  · rcases ho with ho | ⟨f, ho⟩
    · have hc : ZkS own b = none := by simp [ZkS, ho]
      obtain ⟨e1, e3⟩ := F.blk b hb (.inl hc)
      exact ⟨e1, by rw [ho]; simp [ZsE, ho, e3, hc]⟩
    · exact ⟨(other b _ f ho (by simp)).1, by rw [ho]; exact ZmK ho (by simp)⟩
end
end Go.Abs
namespace Go.Abs
section
variable {C : Ctx} {call : Zaa} {fa : FA} {own own' own1 : Own} {st st' : St} {a : Act} {w w' w1 : World} {o : Oper}
theorem ZzE (hn : Zbj C.P) (hK : Zba C.P call) (S : SRel C.P fa own st a w) {c : Call} {g : Operand} {fv r : AV} {vs caps : List AV} {f : FuncId} {h : List AObj} (hop : o.op = .call c) (hc : c.callee = .value g)
    (hg : opA st g = some fv) (hv : ZaL st c.args.toList = some vs) (hf : ZeB fv = some (f, caps)) (hcall : Zh1 call f (vs ++ caps) st.heap = some (r, h))
    (hp : St.put fa { st with heap := h } o.dst (.a r) = some st') : ZeV C.P fa own st.heap st' a w o := by
  intro K Q hKK
  obtain ⟨cs, hgv, hcl, hch⟩ := ZnE (Zb8 S hg) hf
  obtain ⟨ha1, ha2⟩ := Zny S hv hcl hch
  unfold Zh1 at hcall
  split at hcall
  · rename_i ds hds
    split at hcall
    · rename_i r0 hc0 hr0
      simp only [Option.some.injEq, Prod.mk.injEq] at hcall
      obtain ⟨rfl, rfl⟩ := hcall
      obtain ⟨hb, hhas⟩ := hK _ _ _ _ _ hr0
      refine Zkp hn hop hc hgv hb ?_
      refine (hhas w (Zb2 Ze5 own) _ (ZjU S.h Ze5) (ZjT Ze5 own) ha1 (fun i v x hv' hx => ?_)).mono ?_
      · have hda := ZeF hds
        rw [hda, List.getElem?_map, Option.map_eq_some_iff] at hx
        obtain ⟨d, hd, rfl⟩ := hx
        have := ha2 i v (.d d) hv' (by rw [hda, List.getElem?_map, hd]; rfl)
        exact .d _ _ (this.d_inv.mono (Zlp w own Ze5))
      · rintro e w' ⟨v, own1, rfl, hO, H1, hrr, F, _⟩
        obtain ⟨H2, E2, K2, F2, T2⟩ := Yef S.h H1 hO F
        exact hKK _ _ _ ((S.heapStep H2 E2 (fun z _ => K2 z)).put (x := .a (r0.shift st.heap.length)) (fun t _ => hrr.shifted T2) hp) F2 (by rw [ZbX hp]; exact E2)
    · cases hcall
  · obtain ⟨hb, hhas⟩ := hK _ _ _ _ _ hcall
    refine Zkp hn hop hc hgv hb ?_
    refine (hhas w (ZkS own) _ (Zia S.h) (Zif own) ha1 (fun i v x hv' hx => (ha2 i v x hv' hx).mono (Zfw w own st.heap))).mono ?_
    rintro e w' ⟨v, own1, rfl, hO, H1, hrr, F, E⟩
    obtain ⟨H2, E2, K2, F2, E3⟩ := Zwa S.h H1 hO F E
    exact hKK _ _ _ ((S.heapStep H2 E2 K2).put (x := .a r) (fun t _ => hrr.mono E3) hp) F2 (by rw [ZbX hp]; exact E2)
theorem ZrH (hn : Zbj C.P) (hK : Zba C.P call) (S : SRel C.P fa own st a w) (he : Zbs C call fa o st = some st') : ZeV C.P fa own st.heap st' a w o := by
  have take : ∀ {x : Operand}, (o.op = .move x ∨ o.op = .assign x) → Zbm fa st o.dst x = some st' → ZeV C.P fa own st.heap st' a w o := by
    intro x hop he
    unfold Zbm at he
    split at he
    · rename_i es hes; exact ZzM S hop hes he
    · split at he
      · rename_i v hv
        refine Zjf S (Good.wp ⟨a.eval x, ?_, Zf0 S hv⟩) he
        rcases hop with h | h <;> simp [ZhL, execOp, h]
      · cases he
  unfold Zbs at he
  split at he
  case h_1 x hop => exact take (.inl hop) he
  case h_2 x hop => exact take (.inr hop) he
  case h_3 t hop =>
    split at he
    · rename_i z hz
      obtain ⟨zv, h1, _, h2⟩ := Zin hz
      refine ZpI S (v := zv) (t := t) (.d _ _ (h2 w own)) ?_ he
      simp [execOp, hop, Instr.alloc, h1 w, newVar, newRow]
    · cases he
  case h_4 t x hop =>
    split at he
    · rename_i v hv
      refine ZpI S (v := a.eval x) (t := t) (Zb8 S hv) ?_ he
      simp [execOp, hop, Instr.box, newVar, newRow]
    · cases he
  case h_5 t n ps hop =>
    split at he
    · rename_i es hes; exact ZrW S hop hes he
    · cases he
  case h_6 t x y hop =>
    split at he
    · rename_i p v hx hy
      split at he
      · rename_i st1 hs; exact ZvU S hop hx hy hs he
      · cases he
    · cases he
  case h_7 s t x hop =>
    split at he
    · rename_i b hx
      cases hb : C.isStr s && C.isBytes t && C.elemOne t with
      | false => rw [hb] at he; cases he
      | true =>
        rw [hb] at he
        simp only [Bool.and_eq_true] at hb
        exact Zq4 S hop hx hb.1.1 hb.1.2 hb.2 he
    · cases he
  case h_8 t hop =>
    cases hb : C.isMap t with
    | false => rw [hb] at he; cases he
    | true => rw [hb] at he; exact ZrA S hop he
  case h_9 t l c hop =>
    split at he
    · rename_i z sz k1 n k2 m hz hsz hl hc
      split at he
      · rename_i hcond
        obtain ⟨h0, rfl, hr, hok⟩ := hcond
        exact ZnO S hop hz hsz hl hc h0 hr hok he
      · cases he
    · cases he
  case h_10 t m k x hop =>
    split at he
    · rename_i z id kd v hz hm hk hx
      cases hc : v.cellOk with
      | false => rw [hc] at he; cases he
      | true =>
        rw [hc] at he
        simp only [Bool.not_true, cond_false] at he
        split at he
        · rename_i es ho
          split at he
          · rename_i es' hs
            cases hok : C.keyOk t kd with
            | false => rw [hok] at he; cases he
            | true => rw [hok] at he; exact ZoG S hop hz hm hk hx hc ho hs hok he
          · cases he
        · cases he
    · cases he
  case h_11 c hop =>
    split at he
    · rename_i b hb
      split at he
      · rename_i s x t t' ha ht
        cases hbt : Nat.beq t t' && (!Za5 fa o || ZrP st s) with
        | false => rw [hbt] at he; cases he
        | true =>
          rw [hbt] at he
          have := Nat.eq_of_beq_eq_true (by simp only [Bool.and_eq_true] at hbt; exact hbt.1)
          subst this
          simp only [cond_true] at he
          unfold Zay at he
          split at he
          · rename_i sz new hsz hx
            split at he
            · rename_i id g n hs
              split at he
              · rename_i g' es ho
                cases hcond : Nat.beq g g' && Nat.beq n es.length && Zbl sz es && Zao sz new && ZbL C t (n + new.length) && C.elemOk t sz with
                | false => rw [hcond] at he; cases he
                | true =>
                  rw [hcond] at he
                  simp only [Bool.and_eq_true] at hcond
                  obtain ⟨⟨⟨⟨⟨c1, c2⟩, c3⟩, c4⟩, c5⟩, c6⟩ := hcond
                  have e1 := Nat.eq_of_beq_eq_true c1
                  have e2 := Nat.eq_of_beq_eq_true c2
                  subst e1; subst e2
                  exact ZnL S hop hb ha ht (by unfold opA; rw [hs]) ho hx hsz c4 c3 c5 c6 he
              · cases he
            · split at he
              · rename_i es hes
                cases hcond : Zao sz new && Zao sz (es.take 1) && ZbL C t (es.length + new.length) && C.elemOk t sz with
                | false => rw [hcond] at he; cases he
                | true =>
                  rw [hcond] at he
                  simp only [Bool.and_eq_true] at hcond
                  obtain ⟨⟨⟨c1, c2⟩, c3⟩, c4⟩ := hcond
                  simp only [cond_true] at he
                  cases hh : ZaG fa o.dst with
                  | true =>
                    rw [hh] at he
                    simp only [cond_true] at he
                    split at he
                    · exact Zk5 S hop hb ha ht hes hx (by simp) hsz c1 (by simpa using c3) c4 he
                    · cases he
                  | false =>
                    rw [hh] at he
                    exact Zof S hop hb ha ht hes hx hsz c1 c2 c3 c4 he
              · cases he
          · cases he
      · rename_i m k t ts ha ht
        unfold Zg9 at he
        split at he
        · rename_i z id kd hz hm hk
          split at he
          · rename_i es ho
            split at he
            · rename_i es' hs
              cases hok : C.keyOk t kd with
              | false => rw [hok] at he; cases he
              | true => rw [hok] at he; exact Zuq S hop hb ha ht hm hk ho hs hok he
            · cases he
          · cases he
        · cases he
      · cases he
    · rename_i g hg
      split at he
      · rename_i fv vs hfv hvs
        split at he
        · rename_i f caps hf
          cases hl : Zaq fa.lend o.dst with
          | true => rw [hl] at he; cases he
          | false =>
            rw [hl] at he
            simp only [cond_false] at he
            split at he
            · rename_i r h hcall; exact ZzE hn hK S hop hg hfv hvs hf hcall he
            · cases he
        · cases he
      · cases he
    · cases he
  case h_12 => cases he
theorem ZmU (hn : Zbj C.P) (hK : Zba C.P call) (S : SRel C.P fa own st a w) (he : Zeh C call fa o st = some st') : ZeV C.P fa own st.heap st' a w o := by
  unfold Zeh at he
  split at he
  · rename_i x hx; exact Zjf S (ZkD hn hK S hx) he
  · exact ZrH hn hK S he
end
end Go.Abs
namespace Go.Abs
section
variable {C : Ctx} {call : Zaa} {fa : FA} {own own' own1 : Own} {st st' st1 st2 : St} {a : Act} {w w' w1 : World} {o : Oper}
theorem ZjL {all : List Oper} {b : Bool} (S : SRel C.P fa own st a w) (h : Zaw all o st = some b) : Region.wanted o (yielded all.toArray a.tmps) = b := by
  unfold Zaw at h
  unfold Region.wanted
  split at h
  · simp only [Option.some.injEq] at h; rename_i hg; rw [hg]; exact h
  · rename_i j want hg
    rw [hg]
    simp only
    split at h
    · rename_i t ht
      have hy : yielded all.toArray a.tmps j = match a.tmps[t]? with
          | some (.bool b) => some b
          | _ => none := by
        unfold yielded
        have : (all.toArray[j]?).bind (·.dst) = some t := by simpa using ht
        rw [this]
        rfl
      split at h
      · rename_i v hv
        simp only [Option.some.injEq] at h
        have hr : ARep C.P w own st.heap (a.tmps.getD t undef) (.d (.bool v)) := S.tmp t _ hv
        have hb : a.tmps.getD t undef = .bool v := hr.d_inv.bool_inv
        have hget : a.tmps[t]? = some (.bool v) := by
          rw [Array.getD_eq_getD_getElem?] at hb
          cases ha : a.tmps[t]? with
          | none => rw [ha] at hb; simp [undef] at hb
          | some u => rw [ha] at hb; simp at hb; rw [hb]
        rw [hy, hget]
        rw [← h]
        simp
      · rename_i hv
        simp only [Option.some.injEq] at h
        have hr : a.tmps.getD t undef = undef := S.tmp t _ hv
        have hget : ∀ v, a.tmps[t]? ≠ some (.bool v) := by
          intro v hv
          rw [Array.getD_eq_getD_getElem?, hv] at hr
          simp [undef] at hr
        rw [hy, ← h]
        cases ha : a.tmps[t]? with
        | none => simp
        | some u =>
          cases u <;> first | (simp; done) | exact absurd ha (hget _)
      · cases h
    · cases h
def Ydh (P : Program) (fa : FA) (own : Own) (h : List AObj) (st' : St) (a : Act) (w : World) (ops : Array Oper) (o : Oper) : Prop :=
  ∀ (K : Act → World → Prop) (Q : Exit → Act → World → Prop), (∀ a' w' own', SRel P fa own' st' a' w' → Frm w own w' own' → ExtA w own h w' own' st'.heap → K a' w') →
    if Region.wanted o (yielded ops a.tmps) then o.wp P a w K Q ∨ (o.asks P a w ∧ LetsOut Q) else K (a.put o.dst undef) w
theorem ZjE (hn : Zbj C.P) (hK : Zba C.P call) (S : SRel C.P fa own st a w) {all : List Oper} {q : Bool} (he : Zau C call fa all q o st = some st') : Ydh C.P fa own st.heap st' a w all.toArray o := by
  intro K Q hKK
  unfold Zau at he
  split at he
  · rename_i hw
    rw [ZjL S hw]
    simp only [if_true]
    left
    cases q with
    | true =>
      simp only [cond_true] at he
      split at he
      · rename_i x hx; exact Zjf S (ZkD hn hK S hx) he K Q hKK
      · cases he
    | false => exact ZmU hn hK S he K Q hKK
  · rename_i hw
    rw [ZjL S hw]
    simp only [Bool.false_eq_true, if_false]
    exact hKK _ _ own (S.put (x := .un) (fun t _ => rfl) he) (.refl w own) (by rw [ZbX he]; exact (Grow.refl w).extA own _)
  · cases he
def Yd2 (P : Program) (fa : FA) (own : Own) (h : List AObj) (st' : St) (w : World) (K : Act → World → Prop) : Prop :=
  ∀ a' w' own', SRel P fa own' st' a' w' → Frm w own w' own' → ExtA w own h w' own' st'.heap → K a' w'
theorem Zdd (hn : Zbj C.P) (hK : Zba C.P call) {all : List Oper} {Q : Exit → Act → World → Prop} : ∀ (rest : List Oper) (st : St) (own : Own) (a : Act) (w : World), Zan C call fa all rest st = some st' → SRel C.P fa own st a w →
    Yd2 C.P fa own st.heap st' w (Q .normal) → wpList C.P all.toArray Q rest a w
  | [], st, own, a, w, he, S, hQ => by
    simp only [Zan, Option.some.injEq] at he
    subst he
    exact hQ a w own S (.refl w own) ((Grow.refl w).extA own _)
  | o :: rest, st, own, a, w, he, S, hQ => by
    simp only [Zan] at he
    split at he
    · rename_i st1 h1
      exact ZjE hn hK S h1 _ Q fun a' w' own' S' F E => Zdd hn hK rest st1 own' a' w' he S' fun a2 w2 own2 S2 F2 E2 => hQ a2 w2 own2 S2 (F.trans F2) (E.trans E2)
    · cases he
def Ydc (C : Ctx) (call : Zaa) (fa : FA) (ops : Array Oper) (q : Nat → Bool) : Nat → Array Bool → St → St → Prop
  | 0, listed, st, st' => Region.ready .any ops listed = [] ∧ st = st'
  | fuel + 1, listed, st, st' => (Region.ready .any ops listed = [] → st = st') ∧
    ∀ i ∈ Region.ready .any ops listed, ∃ o st1, ops[i]? = some o ∧ Zau C call fa ops.toList (q i) o st = some st1 ∧ Ydc C call fa ops q fuel (listed.setIfInBounds i true) st1 st'
theorem ZmG (hn : Zbj C.P) (hK : Zba C.P call) {ops : Array Oper} {q : Nat → Bool} {Q : Exit → Act → World → Prop} : ∀ (fuel : Nat) (listed : Array Bool) (st : St) (own : Own) (a : Act) (w : World),
    Ydc C call fa ops q fuel listed st st' → SRel C.P fa own st a w → Yd2 C.P fa own st.heap st' w (Q .normal) → wpAny C.P .any ops Q fuel listed a w
  | 0, listed, st, own, a, w, he, S, hQ => by
    obtain ⟨h1, rfl⟩ := he
    exact ⟨h1, hQ a w own S (.refl w own) ((Grow.refl w).extA own _)⟩
  | fuel + 1, listed, st, own, a, w, he, S, hQ => by
    refine ⟨fun h => ?_, fun i hi => ?_⟩
    · have := he.1 h
      subst this
      exact hQ a w own S (.refl w own) ((Grow.refl w).extA own _)
    · obtain ⟨o, st1, ho, h1, h2⟩ := he.2 i hi
      unfold wpOp
      simp only [ho]
      have := ZjE hn hK S h1 (wpAny C.P .any ops Q fuel (listed.setIfInBounds i true)) Q fun a' w' own' S' F E =>
        ZmG hn hK fuel _ st1 own' a' w' h2 S' fun a2 w2 own2 S2 F2 E2 => hQ a2 w2 own2 S2 (F.trans F2) (E.trans E2)
      simpa using this
theorem ZbE {α : Type} (k : Nat) (u : α) (r : List (Nat × α)) (t : Nat) (v : α) : ins ((k, u) :: r) t v = if k < t then (t, v) :: (k, u) :: r else if k = t then (k, v) :: r else (k, u) :: ins r t v := by
  simp only [ins]
  by_cases h1 : k < t
  · rw [if_pos h1, show Nat.blt k t = true by rw [Nat.blt_eq]; exact h1, cond_true]
  · rw [if_neg h1]
    have : Nat.blt k t = false := by rw [Bool.eq_false_iff]; intro h'; rw [Nat.blt_eq] at h'; exact h1 h'
    rw [this, cond_false]
    by_cases h2 : k = t
    · rw [if_pos h2, beq_iff.2 h2, cond_true]
    · rw [if_neg h2, beq_ne.2 h2, cond_false]
theorem ZfH {α : Type} (l : List (Nat × α)) {s t : Nat} (x y : α) (h : s ≠ t) : ins (ins l s x) t y = ins (ins l t y) s x := by
  induction l with
  | nil =>
    simp only [ins, ZbE]
    rcases Nat.lt_or_gt_of_ne h with hlt | hlt
    · rw [if_pos hlt, if_neg (Nat.lt_asymm hlt), if_neg (Ne.symm h)]
    · rw [if_pos hlt, if_neg (Nat.lt_asymm hlt), if_neg h]
  | cons e l ih =>
    obtain ⟨k, u⟩ := e
    rw [ZbE, ZbE]
    by_cases a1 : k < s <;> by_cases b1 : k < t
    · rw [if_pos a1, if_pos b1, ZbE, ZbE, ZbE, ZbE, if_pos a1, if_pos b1]
      rcases Nat.lt_or_gt_of_ne h with hlt | hlt
      · rw [if_pos hlt, if_neg (Nat.lt_asymm hlt), if_neg (Ne.symm h)]
      · rw [if_pos hlt, if_neg (Nat.lt_asymm hlt), if_neg h]
    · have b3 : ¬ s < t := by omega
      rw [if_pos a1, if_neg b1, ZbE, ZbE, if_neg b3, if_neg b1, if_neg h]
      by_cases b2 : k = t
      · rw [if_pos b2, ZbE, if_pos a1]
      · rw [if_neg b2, ZbE, if_pos a1]
    · have b3 : ¬ t < s := by omega
      rw [if_neg a1, if_pos b1, ZbE, if_neg b3, if_neg (Ne.symm h), ZbE, if_neg a1]
      by_cases b2 : k = s
      · rw [if_pos b2, ZbE, if_pos b1]
      · rw [if_neg b2, ZbE, if_pos b1]
    · rw [if_neg a1, if_neg b1]
      by_cases a2 : k = s <;> by_cases b2 : k = t
      · exact absurd (a2.symm.trans b2) h
      · rw [if_pos a2, if_neg b2, ZbE, ZbE, if_neg b1, if_neg b2, if_neg a1, if_pos a2]
      · rw [if_neg a2, if_pos b2, ZbE, ZbE, if_neg b1, if_pos b2, if_neg a1, if_neg a2]
      · rw [if_neg a2, if_neg b2, ZbE, ZbE, if_neg b1, if_neg b2, if_neg a1, if_neg a2, ih]
theorem ZuV (st : St) {d : Nat} (v : XV) {x : Operand} (h : x ≠ .tmp d) : opx { st with tmp := ins st.tmp d v } x = opx st x := by
  cases x with
  | tmp t =>
    have : Nat.beq d t = false := beq_ne.2 (fun e => h (by rw [e]))
    simp only [opx, Za2, this, cond_false]
  | _ => rfl
structure SameOps (st1 st : St) (xs : List Operand) : Prop where
  env : st1.env = st.env
  heap : st1.heap = st.heap
  x : ∀ x ∈ xs, opx st1 x = opx st x
variable {xs : List Operand}
theorem SameOps.sub {ys : List Operand} (h : SameOps st1 st xs) (hs : ∀ y ∈ ys, y ∈ xs) : SameOps st1 st ys := ⟨h.env, h.heap, fun y hy => h.x y (hs y hy)⟩
theorem SameOps.opd (h : SameOps st1 st xs) {x : Operand} (hx : x ∈ xs) : opd st1 x = opd st x := by unfold Abs.opd; rw [h.x x hx]
theorem SameOps.opA (h : SameOps st1 st xs) {x : Operand} (hx : x ∈ xs) : opA st1 x = opA st x := by unfold Abs.opA; rw [h.opd hx]
theorem SameOps.opD (h : SameOps st1 st xs) {x : Operand} (hx : x ∈ xs) : opD st1 x = opD st x := by unfold Abs.opD; rw [h.opd hx]
theorem SameOps.args (h : SameOps st1 st xs) : ∀ {l : List Operand}, (∀ x ∈ l, x ∈ xs) → ZaL st1 l = ZaL st l
  | [], _ => rfl
  | x :: l, hl => by
    have ih := h.args (l := l) (fun y hy => hl y (List.mem_cons_of_mem _ hy))
    simp only [ZaL, h.opA (hl x (by simp)), ih]
theorem SameOps.parts (h : SameOps st1 st xs) : ∀ {l : List (Nat × Operand)}, (∀ x ∈ l, x.2 ∈ xs) → ZaE st1 l = ZaE st l
  | [], _ => rfl
  | (i, x) :: l, hl => by
    have ih := h.parts (l := l) (fun y hy => hl y (List.mem_cons_of_mem _ hy))
    have h1 := h.opD (x := x) (hl (i, x) (by simp))
    simp only [ZaE, h1, ih]
theorem SameOps.mapO (h : SameOps st1 st xs) : ∀ {l : List Operand}, (∀ x ∈ l, x ∈ xs) → Abs.mapO (Abs.opD st1) l = Abs.mapO (Abs.opD st) l
  | [], _ => rfl
  | x :: l, hl => by
    have ih := h.mapO (l := l) (fun y hy => hl y (List.mem_cons_of_mem _ hy))
    simp only [Abs.mapO, h.opD (hl x (by simp)), ih]
theorem SameOps.optD (h : SameOps st1 st xs) {x : Option Operand} (hx : ∀ y, x = some y → y ∈ xs) : optD st1 x = optD st x := by
  cases x with
  | none => rfl
  | some y => simp only [Abs.optD, h.opD (hx y rfl)]
theorem Zxd (h1 : st1.env = st.env) (h2 : st1.heap = st.heap) (t : TypeId) (p : XV) : ZaX C t st1 p = ZaX C t st p := by
  unfold ZaX; rw [h1, h2]
theorem Zmz (h2 : st1.heap = st.heap) (t : TypeId) (x : AV) (i : Int) : Zag C t st1 x i = Zag C t st x i := by
  unfold Zag; rw [h2]
theorem ZmR (h : SameOps st1 st o.op.operands.toList) : ZaQ C call fa o st1 = ZaQ C call fa o st := by
  unfold ZaQ
  cases hop : o.op <;> rw [hop] at h <;> (try simp only) <;> try (rfl; done)
  case move x => rw [h.x x (by simp [Op.operands])]
  case assign x => rw [h.x x (by simp [Op.operands])]
  case pick c x y => rw [h.opD (x := c) (by simp [Op.operands]), h.opd (x := x) (by simp [Op.operands]), h.opd (x := y) (by simp [Op.operands])]
  case build t ps =>
    have := h.parts (l := ps.toList) (fun x hx => by simp [Op.operands]; exact ⟨x.1, by simpa using hx⟩)
    unfold ZaT; rw [this]
  case buildSlice t n ps =>
    have := h.parts (l := ps.toList) (fun x hx => by simp [Op.operands]; exact ⟨x.1, by simpa using hx⟩)
    unfold Zae; rw [this]
  case makeSlice t l c => rw [h.opD (x := l) (by simp [Op.operands]), h.opD (x := c) (by simp [Op.operands])]
  case load t x => rw [h.opd (x := x) (by simp [Op.operands])]; simp only [Zxd h.env h.heap]
  case nilCheck x => rw [h.opd (x := x) (by simp [Op.operands])]
  case binOp op t x y _ => rw [h.opA (x := x) (by simp [Op.operands]), h.opA (x := y) (by simp [Op.operands])]
  case unOp op t x => rw [h.opD (x := x) (by simp [Op.operands])]
  case convert s t x => rw [h.opA (x := x) (by simp [Op.operands]), h.heap]
  case makeFunc f first cap =>
    cases f <;> simp only
    rw [h.args (l := cap.toList) (fun x hx => by simp [Op.operands]; right; simpa using hx)]
  case slice t x lo hi mx =>
    cases mx <;> simp only
    rw [h.opD (x := x) (by simp [Op.operands]), h.optD (x := lo) (fun y hy => by simp [Op.operands, hy]), h.optD (x := hi) (fun y hy => by simp [Op.operands, hy])]
  case fieldAddr t x f => rw [h.opd (x := x) (by simp [Op.operands])]
  case field t x f => rw [h.opD (x := x) (by simp [Op.operands])]
  case indexAddr t x i => rw [h.opA (x := x) (by simp [Op.operands]), h.opD (x := i) (by simp [Op.operands])]; simp only [Zmz h.heap]
  case index t x i => rw [h.opD (x := x) (by simp [Op.operands]), h.opD (x := i) (by simp [Op.operands])]
  case lookup t x k ok => rw [h.opA (x := x) (by simp [Op.operands]), h.opD (x := k) (by simp [Op.operands]), h.heap]
  case extract x i => rw [h.opA (x := x) (by simp [Op.operands])]
  case call c =>
    have hargs : ∀ x ∈ c.args.toList, x ∈ (Op.call c).operands.toList := fun x hx => by simp [Op.operands, Call.operands]; right; simpa using hx
    cases hc : c.callee with
    | builtin b =>
      simp only
      congr 1
      unfold Zak
      rw [h.heap]
      cases b <;> (try simp only) <;> try (rfl; done)
      case len =>
        cases ha : c.args.toList with
        | nil => rfl
        | cons x l =>
          cases l with
          | nil =>
            cases ht : c.argTypes.toList with
            | nil => rfl
            | cons t l =>
              cases l with
              | nil => simp only [h.opA (hargs x (by rw [ha]; simp))]
              | cons t' l => rfl
          | cons y l => rfl
      case max => rw [h.mapO hargs]
      case min => rw [h.mapO hargs]
    | value g =>
      simp only
      rw [h.opA (x := g) (by simp [Op.operands, Call.operands, hc]), h.args hargs, h.heap]
    | invoke r m => rfl
end
end Go.Abs
