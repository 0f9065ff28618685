/- A certified evaluator for the walked functions, and their contracts, for VarsReplaces. -/
import Derived.Test.YtnmlodkomklpfaaLD
import Derived.Lib.ConvBytes
import Derived.Laws.MakeOwn
import Derived.Laws.OwnMore
import Derived.MapKept
import Derived.Deep.Quiet
set_option linter.unusedVariables false
set_option linter.unusedSimpArgs false
namespace Go.Abs
section
variable {C : Ctx} {call : CallT} {fa : FA} {own own' : Own} {st st' : St} {a : Act} {w w' : World} {o : Oper}

theorem elemOk_spec {t : TypeId} {sz : Nat} (hs : C.elemSize t = some sz) (h : C.elemOk t sz = true) : ∃ e i z zd, C.P.underlying t = some (.slice e) ∧ C.P.info? e = some i ∧ i.size = sz ∧ i.zero = some z ∧
    z.cells.size = sz ∧ 0 < sz ∧ C.elemZero t = some zd ∧ zd.cells.length = sz ∧ ∀ w own, CellsRel w own z.cells zd.cells := by
  obtain ⟨e, i, hu, hi, rfl⟩ := elem_spec hs
  unfold Ctx.elemOk at h
  split at h
  · rename_i zd hz
    simp only [Bool.and_eq_true] at h
    obtain ⟨⟨h1, h2⟩, h3⟩ := h
    have hz' : C.zero e = some zd := by
      unfold Ctx.elemZero at hz
      simp only [hu] at hz
      exact hz
    obtain ⟨z, _, ⟨i', hi', hz2⟩, hr⟩ := zero_spec hz'
    rw [hi] at hi'
    simp only [Option.some.injEq] at hi'
    subst hi'
    have hc : ∀ w own, CellsRel w own z.cells zd.cells := fun w own => .of (hr w own) h2
    have hl : zd.cells.length = i.size := Nat.eq_of_beq_eq_true h1
    exact ⟨e, i, z, zd, hu, hi, rfl, hz2, by rw [(hc default (fun _ => none)).len, hl], by simpa [Nat.blt_eq] using h3, hz, hl, hc⟩
  · cases h

theorem bytesD_get : ∀ (b : List UInt8) (i : Nat), (bytesD b)[i]? = (b[i]?).map fun x => AV.d (.int .u8 x.toNat) := by
  intro b
  induction b with
  | nil => intro i; simp [bytesD]
  | cons x b ih => intro i; cases i with
    | zero => simp [bytesD]
    | succ i => simp [bytesD, ih]
theorem bytesD_len (b : List UInt8) : (bytesD b).length = b.length := by
  induction b with
  | nil => rfl
  | cons x b ih => simp [bytesD, ih]
theorem bytesD_cells (b : List UInt8) : (bytesD b).flatMap AV.cells = bytesD b := by
  induction b with
  | nil => rfl
  | cons x b ih => simp only [bytesD, List.flatMap_cons, ih]; rfl
theorem bytesD_one (b : List UInt8) : ∀ e ∈ bytesD b, e.cells.length = 1 := by
  induction b with
  | nil => intro e he; simp [bytesD] at he
  | cons x b ih =>
    intro e he
    simp only [bytesD, List.mem_cons] at he
    rcases he with rfl | he
    · rfl
    · exact ih e he

theorem grow_bytes (w : World) (e : TypeId) (s : ByteArray) : Grow w (Lib.bytesWorld w e s) :=
  ⟨rfl, rfl, rfl, by rw [Lib.bytesWorld_size]; omega, fun b hb => Lib.bytesWorld_at_old w e s b hb⟩

theorem eff_toBytes (S : SRel C.P fa own st a w) {s t : TypeId} {x : Operand} {b : List UInt8} (hop : o.op = .convert s t x) (hx : opD st x = some (.str b)) (hs : C.isStr s = true) (ht : C.isBytes t = true)
    (he1 : C.elemOne t = true) (he : St.put fa { st with heap := st.heap ++ [AObj.arr 0 false (bytesD b)] } o.dst (.a (.osl st.heap.length 0 b.length)) = some st') : EffWP C.P fa own st.heap st' a w o := by
  obtain ⟨bs, hv, rfl⟩ := (opD_rel S hx).str_inv
  obtain ⟨e, hte, hee⟩ := isBytes_spec ht
  have hes : C.elemSize t = some 1 := by
    unfold Ctx.elemOne at he1
    split at he1
    · rename_i n hn; rw [hn, Nat.eq_of_beq_eq_true he1]
    · cases he1
  obtain ⟨e', i, hu, hi, h1⟩ := elem_spec hes
  rw [hte] at hu
  simp only [Option.some.injEq, TypeDesc.slice.injEq] at hu
  subst hu
  have g := grow_bytes w e bs
  have hblk := Lib.bytesWorld_at_new w e bs
  have hsz : (Lib.bytesCells w e bs).size = grownCap w bs.size 0 e := by
    have := grownCap_ge w bs.size 0 e
    simp only [Lib.bytesCells, Array.size_append, Array.size_map, Array.size_replicate]
    have h2 : bs.data.size = bs.size := rfl
    omega
  have S1 := S.newObj g (by rw [Lib.bytesWorld_size]; omega) (x := .arr 0 false (bytesD bs.data.toList)) (fun own' _ _ => by
    refine ⟨_, e, _, i, hblk, hi, (fun j hj hj2 => by omega), (fun h => by cases h), (fun x hx => by rw [h1]; exact bytesD_one _ x hx), (by omega), ?_, fun j y hy => ?_⟩
    · rw [h1, Nat.mul_one, bytesD_len, hsz]
      have := grownCap_ge w bs.size 0 e
      simpa using this
    · rw [bytesD_cells, bytesD_get, Option.map_eq_some_iff] at hy
      obtain ⟨b, hb, rfl⟩ := hy
      have hj : j < bs.size := by
        have := (List.getElem?_eq_some_iff.1 hb).1
        simpa using this
      have hjd : j < bs.data.size := hj
      refine ⟨.int .u8 b.toNat, ?_, rfl, .d _ _ (.int _ _)⟩
      simp only [Lib.bytesCells]
      rw [Array.getElem?_append_left (by simpa using hjd), Array.getElem?_map, ← Array.getElem?_toList, hb]
      rfl)
  refine eff_of_run (v := .slice (some ⟨w.heap.size, 0, none⟩) bs.size (grownCap w bs.size 0 e)) (w' := Lib.bytesWorld w e bs) ?_ (S1.1.put (fun t' _ => ?_) he) (new_frm g _) (by rw [put_heap he]; exact S1.2)
  · simp only [execOp, hop, hv, Sem.run_bind, Lib.run_convert_string_bytes w s t e bs (isStr_spec hs) hte hee, Result.andThen_ok, Sem.run_pure]
  · have hl : bs.data.toList.length = bs.size := Array.length_toList
    rw [hl]
    refine .osl _ _ _ _ (by simp) ⟨_, _, rfl⟩ (fun g' ap es h => Nat.zero_le _) (fun ap es h => ?_)
    exact ⟨w.heap.size, _, _, e, _, i, rfl, by simp [upd], hblk, hi, by rw [h1, Nat.mul_one, hsz]⟩

theorem roomOk_spec {t : TypeId} {n : Nat} {e : TypeId} {i : TypeInfo} (hu : C.P.underlying t = some (.slice e)) (hi : C.P.info? e = some i) (h : roomOk C t n = true) :
    n * i.bytes ≤ 2 ^ 47 ∧ n ≤ 2 ^ 47 := by
  unfold roomOk at h
  split at h
  · rename_i b hb
    have : b = i.bytes := by
      unfold Ctx.elemBytes at hb
      simp only [hu, hi, Option.map_some, Option.some.injEq] at hb
      exact hb.symm
    subst this
    simp only [Bool.and_eq_true] at h
    exact ⟨Nat.le_of_ble_eq_true h.1, Nat.le_of_ble_eq_true h.2⟩
  · cases h

theorem eff_makeSlice (S : SRel C.P fa own st a w) {t : TypeId} {l c : Operand} {z : DV} {sz : Nat} {k1 k2 : IntKind} {n : Int} (hop : o.op = .makeSlice t l c) (hz : C.elemZero t = some z) (hsz : C.elemSize t = some sz)
    (hl : opD st l = some (.int k1 n)) (hc : opD st c = some (.int k2 n)) (h0 : 0 ≤ n) (hr : roomOk C t n.toNat = true) (hok : C.elemOk t sz = true)
    (he : St.put fa { st with heap := st.heap ++ [AObj.arr 0 true (List.replicate n.toNat (.d z))] } o.dst (.a (.osl st.heap.length 0 n.toNat)) = some st') : EffWP C.P fa own st.heap st' a w o := by
  obtain ⟨e, i, zv, zd, hu, hi, rfl, hiz, hzs, hpos, hz2, hzl, hzr⟩ := elemOk_spec hsz hok
  rw [hz] at hz2
  simp only [Option.some.injEq] at hz2
  subst hz2
  obtain ⟨r1, r2⟩ := roomOk_spec hu hi hr
  have hlv := (opD_rel S hl).int_inv
  have hcv := (opD_rel S hc).int_inv
  have hnn : (n.toNat : Int) = n := Int.toNat_of_nonneg h0
  have hbytes : (i.bytes : Int) * n ≤ 281474976710656 := by
    have : ((n.toNat * i.bytes : Nat) : Int) ≤ ((2 ^ 47 : Nat) : Int) := Int.ofNat_le.2 r1
    rw [Int.natCast_mul, hnn, Int.mul_comm] at this
    omega
  have hrun := run_make (P := C.P) w t e i zv hu hi hiz k1 k2 n n h0 (Int.le_refl _) hbytes (by omega)
  have g := Grow.alloc w (.cells (madeCells zv.cells (n.toNat * i.size)) e)
  have hget : ∀ j, j < n.toNat * i.size → ∃ u, (madeCells zv.cells (n.toNat * i.size))[j]? = some u ∧ zv.cells[j % i.size]? = some u := by
    intro j hj
    have hm : j % i.size < zv.cells.size := by rw [hzs]; exact Nat.mod_lt _ hpos
    refine ⟨zv.cells[j % i.size], ?_, Array.getElem?_eq_getElem hm⟩
    simp only [madeCells, Array.getElem?_map, hzs]
    rw [Array.getElem?_range, if_pos hj] 
    simp [hm]
  have hszr : ∀ x ∈ List.replicate n.toNat (AV.d z), x.cells.length = i.size := by
    intro x hx
    rw [List.eq_of_mem_replicate hx]
    have : (AV.d z).cells = z.cells.map .d := by cases z <;> rfl
    rw [this, List.length_map, hzl]
  have hnil : List.replicate n.toNat (AV.d z) = [] → (madeCells zv.cells (n.toNat * i.size)).size = 0 := by
    intro hn
    have h1 := congrArg List.length hn
    rw [List.length_replicate] at h1
    rw [size_madeCells, h1]
    exact Nat.zero_mul _
  have S1 := S.newObj g (by rw [alloc_size]; omega) (x := .arr 0 true (List.replicate n.toNat (.d z))) (fun own' _ _ => by
    refine ⟨_, e, (0, 0), i, alloc_at w _, hi, (fun j _ hj => by simp at hj), (fun _ => ⟨rfl, hnil⟩), hszr, hpos, by rw [List.length_replicate, size_madeCells]; exact Nat.le_refl _, fun j y hy => ?_⟩
    have hj : j < n.toNat * i.size := by
      have := (List.getElem?_eq_some_iff.1 hy).1
      rwa [flat_len hszr, List.length_replicate] at this
    have hq : j / i.size < n.toNat := Nat.div_lt_of_lt_mul (by rw [Nat.mul_comm]; exact hj)
    have hr' : j % i.size < i.size := Nat.mod_lt _ hpos
    have hdec : j / i.size * i.size + j % i.size = j := by rw [Nat.mul_comm]; exact Nat.div_add_mod _ _
    have hf := flat_get hszr (i := j / i.size) (e := .d z) (by rw [List.getElem?_replicate, if_pos hq]) _ hr'
    have hcz : (AV.d z).cells = z.cells.map .d := by cases z <;> rfl
    rw [hdec, hy, hcz, List.getElem?_map] at hf
    obtain ⟨y', hy', hyy⟩ := Option.map_eq_some_iff.1 hf.symm
    obtain ⟨u, hu1, hu2⟩ := hget j hj
    have cr := hzr (w.alloc (.cells (madeCells zv.cells (n.toNat * i.size)) e)) own'
    rw [← hyy]
    exact ⟨u, hu1, cr.one _ _ hu2, .d _ _ (cr.rep _ _ _ hu2 hy')⟩)
  refine eff_of_run (v := .slice (some ⟨w.heap.size, 0, none⟩) n.toNat n.toNat) (w' := _) ?_ (S1.1.put (fun t' _ => ?_) he) (new_frm g _) (by rw [put_heap he]; exact S1.2)
  · simp only [execOp, hop, hlv, hcv, Sem.run_bind, hrun, Result.andThen_ok, Sem.run_pure]
  · refine .osl _ _ _ _ (by simp) ⟨_, _, rfl⟩ (fun g' ap es h => Nat.zero_le _) (fun ap es h => ?_)
    exact ⟨w.heap.size, _, _, e, _, i, rfl, by simp [upd], alloc_at w _, hi, by rw [size_madeCells]⟩

/-! maps -/
theorem setMap_at {w : World} {b : Nat} {x y : Obj} (h : w.heap[b]? = some x) : ({ w with heap := w.heap.setIfInBounds b y } : World).heap[b]? = some y := by
  have hlt := lt_of_heap h
  simp [hlt]
theorem setMap_other {w : World} {b k : Nat} {y : Obj} (h : k ≠ b) : ({ w with heap := w.heap.setIfInBounds b y } : World).heap[k]? = w.heap[k]? := by
  simp [Array.getElem?_setIfInBounds_ne (Ne.symm h)]

/-- a map of one's own is written -/
theorem SRel.setMap (S : SRel C.P fa own st a w) {id b cl cl' : Nat} {es es' : List (DV × AV)} {m m' : Array MapEntry} (ho : st.heap[id]? = some (.map es)) (hob : own b = some (.obj id, 0)) (hm : w.heap[b]? = some (.map m cl))
    (hst : Stamps m' cl') (hl : m'.size = es'.length) (hent : ∀ (w' : World) (h' : List AObj), ExtA w own st.heap w' own h' → ∀ (j : Nat) e x, m'[j]? = some e → es'[j]? = some x → Rep w' own e.key x.1 ∧ ARep C.P w' own h' e.val x.2) :
    SRel C.P fa own { st with heap := st.heap.set id (.map es') } a { w with heap := w.heap.setIfInBounds b (.map m' cl') } ∧
      Frm w own { w with heap := w.heap.setIfInBounds b (.map m' cl') } own ∧ ExtA w own st.heap { w with heap := w.heap.setIfInBounds b (.map m' cl') } own (st.heap.set id (.map es')) := by
  have hid : id < st.heap.length := (List.getElem?_eq_some_iff.1 ho).1
  have hgs : ∀ k, (st.heap.set id (.map es'))[k]? = if k = id then some (.map es') else st.heap[k]? := by
    intro k
    rw [List.getElem?_set]
    by_cases hk : k = id
    · subst hk; simp [hid]
    · rw [if_neg (Ne.symm hk), if_neg hk]
  have other : ∀ k, k ≠ b → ({ w with heap := w.heap.setIfInBounds b (.map m' cl') } : World).heap[k]? = w.heap[k]? := fun k hk => setMap_other hk
  have e : ExtA w own st.heap { w with heap := w.heap.setIfInBounds b (.map m' cl') } own (st.heap.set id (.map es')) := by
    refine ⟨⟨fun k i v hv hp => ?_, fun k ms c hms hn => ?_⟩, by simp, fun k y y' h1 h2 => ?_, fun k id' y y' hb' _ _ _ => ⟨hb', fun c T fr hc => ⟨c, ?_, rfl⟩⟩⟩
    · have hne : k ≠ b := by rintro rfl; exact absurd (hp _ 0 hob) (Nat.not_lt_zero _)
      exact ⟨by rw [cell_of_blk (other k hne), hv], hp⟩
    · have hne : k ≠ b := by rintro rfl; rw [hob] at hn; cases hn
      exact ⟨by rw [other k hne, hms], hn⟩
    · rw [hgs k] at h2
      split at h2
      · rename_i hk; subst hk; rw [ho] at h1; simp only [Option.some.injEq] at h1 h2; subst h1; subst h2; trivial
      · rw [h1] at h2; simp only [Option.some.injEq] at h2; subst h2; exact AObj.later_refl y
    · have hne : k ≠ b := by rintro rfl; rw [hm] at hc; cases hc
      rw [other k hne, hc]
  have keep : ∀ y, y ≠ .obj id → Keep w own { w with heap := w.heap.setIfInBounds b (.map m' cl') } own y := by
    intro y hy k f hk
    have hne : k ≠ b := by rintro rfl; rw [hob] at hk; simp only [Option.some.injEq, Prod.mk.injEq] at hk; exact hy hk.1.symm
    exact ⟨hk, other k hne⟩
  refine ⟨S.heapStep ⟨fun k y hy => ?_, S.h.uniq, fun k z hz => by simpa using S.h.lt k z hz, fun k id' f hk => by have := S.h.idlt k id' f hk; exact ⟨by simpa using this.1, this.2⟩⟩ e (fun y hy => keep y (hy id)), ⟨rfl, rfl, rfl, by simp, fun k _ hk => ⟨other k ?_, rfl⟩⟩, e⟩
  · rw [hgs k] at hy
    split at hy
    · rename_i hk
      subst hk
      simp only [Option.some.injEq] at hy
      subst hy
      exact ⟨b, hob, m', cl', setMap_at hm, hst, hl, hent _ _ e⟩
    · rename_i hk
      obtain ⟨q, hq, hr⟩ := S.h.obj k y hy
      exact ⟨q, hq, hr.mono e (keep (.obj k) (by simpa using hk) q 0 hq).2⟩
  · rintro rfl
    rcases hk with hk | ⟨f, hk⟩
    · rw [hob] at hk; cases hk
    · rw [hob] at hk; simp at hk

theorem run_setMap {b cl : Nat} {m : Array MapEntry} (y : Obj) (h : w.heap[b]? = some (.map m cl)) : (setObj b y).run C.P w = .ok () { w with heap := w.heap.setIfInBounds b y } := by
  simp [setObj, Sem.run, h]

/-- where a key stands, or that it does not -/
theorem mset_spec {k : DV} {v : AV} : ∀ {es es' : List (DV × AV)}, mset k v es = some es' →
    (mfind k es = some none ∧ es' = es ++ [(k, v)]) ∨ ∃ j k' u, mfind k es = some (some u) ∧ es[j]? = some (k', u) ∧ keyEq k k' = some true ∧ es' = es.set j (k, v) ∧
      ∀ (i : Nat) x, i < j → es[i]? = some x → keyEq k x.1 = some false := by
  intro es
  induction es with
  | nil => intro es' h; simp only [mset, Option.some.injEq] at h; subst h; exact .inl ⟨rfl, rfl⟩
  | cons e es ih =>
    obtain ⟨k', u⟩ := e
    intro es' h
    simp only [mset] at h
    split at h
    · rename_i hk
      simp only [Option.some.injEq] at h
      subst h
      exact .inr ⟨0, k', u, by simp [mfind, hk], rfl, hk, rfl, fun i x hi => by omega⟩
    · rename_i hk
      simp only [Option.map_eq_some_iff] at h
      obtain ⟨es1, h1, rfl⟩ := h
      rcases ih h1 with ⟨h2, rfl⟩ | ⟨j, k2, u2, h2, h3, h4, rfl, h5⟩
      · exact .inl ⟨by simp [mfind, hk, h2], rfl⟩
      · refine .inr ⟨j + 1, k2, u2, by simp [mfind, hk, h2], by simpa using h3, h4, rfl, fun i x hi hx => ?_⟩
        cases i with
        | zero => simp at hx; subst hx; exact hk
        | succ i => simp at hx; exact h5 i x (by omega) hx
    · cases h
end
end Go.Abs
namespace Go.Abs
section
variable {C : Ctx} {call : CallT} {fa : FA} {own own' : Own} {st st' : St} {a : Act} {w w' : World} {o : Oper}

theorem same_key {kind : TypeDesc} {kd kd' : DV} {k k' : Value} (hk : KeyKind kind kd) (r : Rep w own k kd) (r' : Rep w own k' kd') (h : keyEq kd kd' = some true) : k' = k := by
  have h1 := sameNow_rel hk r r' h
  have hk' : KeyKind kind kd' := by
    rcases hk with ⟨rfl, s, rfl⟩ | ⟨kk, n, rfl, rfl⟩
    · cases kd' <;> simp only [keyEq] at h <;> try (cases h; done)
      exact .inl ⟨rfl, _, rfl⟩
    · cases kd' <;> simp only [keyEq] at h <;> try (cases h; done)
      split at h
      · rename_i hkk; subst hkk; exact .inr ⟨_, _, rfl, rfl⟩
      · cases h
  obtain ⟨b, hb, hi⟩ := MapKept.sameNow_of_keys (hk.isKey r) (hk'.isKey r')
  rw [h1] at hb
  simp only [Option.some.injEq] at hb
  exact (hi.1 hb.symm).symm

theorem mset_find {kind : TypeDesc} {kd : DV} {k : Value} {v : AV} (hk : KeyKind kind kd) (r : Rep w own k kd) : ∀ (l : List MapEntry) (ds es' : List (DV × AV)) (i : Nat), l.length = ds.length →
    (∀ (j : Nat) e d, l[j]? = some e → ds[j]? = some d → Rep w own e.key d.1) → mset kd v ds = some es' →
    (Instr.findNow kind k l i = some none ∧ es' = ds ++ [(kd, v)]) ∨
      ∃ j e, Instr.findNow kind k l i = some (some (i + j, e.val)) ∧ l[j]? = some e ∧ e.key = k ∧ j < ds.length ∧ es' = ds.set j (kd, v) := by
  intro l
  induction l with
  | nil =>
    intro ds es' i hl _ hm
    have : ds = [] := List.eq_nil_of_length_eq_zero (by simpa using hl.symm)
    subst this
    simp only [mset, Option.some.injEq] at hm
    subst hm
    exact .inl ⟨rfl, rfl⟩
  | cons e l ih =>
    intro ds es' i hl hp hm
    cases ds with
    | nil => simp at hl
    | cons d ds =>
      obtain ⟨kd', x⟩ := d
      have h1 := hp 0 e (kd', x) rfl rfl
      simp only [mset] at hm
      cases hke : keyEq kd kd' with
      | none => rw [hke] at hm; cases hm
      | some b =>
        rw [hke] at hm
        have hsn := sameNow_rel hk r h1 hke
        cases b with
        | true =>
          simp only [Option.some.injEq] at hm
          subst hm
          exact .inr ⟨0, e, by simp [Instr.findNow, hsn], rfl, same_key hk r h1 hke, by simp, rfl⟩
        | false =>
          simp only [Option.map_eq_some_iff] at hm
          obtain ⟨es1, hm, rfl⟩ := hm
          rcases ih ds es1 (i + 1) (by simpa using hl) (fun j e' d' he' hd' => hp (j + 1) e' d' (by simpa using he') (by simpa using hd')) hm with ⟨h3, rfl⟩ | ⟨j, e', h3, h4, h5, h6, rfl⟩
          · exact .inl ⟨by simp [Instr.findNow, hsn, h3], rfl⟩
          · exact .inr ⟨j + 1, e', by simp [Instr.findNow, hsn, h3]; omega, by simpa using h4, h5, by simp; omega, rfl⟩

theorem mdel_find {kind : TypeDesc} {kd : DV} {k : Value} (hk : KeyKind kind kd) (r : Rep w own k kd) : ∀ (l : List MapEntry) (ds es' : List (DV × AV)) (i : Nat), l.length = ds.length →
    (∀ (j : Nat) e d, l[j]? = some e → ds[j]? = some d → Rep w own e.key d.1) → mdel kd ds = some es' →
    (Instr.findNow kind k l i = some none ∧ es' = ds) ∨
      ∃ j e, Instr.findNow kind k l i = some (some (i + j, e.val)) ∧ l[j]? = some e ∧ j < ds.length ∧ es' = ds.eraseIdx j := by
  intro l
  induction l with
  | nil =>
    intro ds es' i hl _ hm
    have : ds = [] := List.eq_nil_of_length_eq_zero (by simpa using hl.symm)
    subst this
    simp only [mdel, Option.some.injEq] at hm
    subst hm
    exact .inl ⟨rfl, rfl⟩
  | cons e l ih =>
    intro ds es' i hl hp hm
    cases ds with
    | nil => simp at hl
    | cons d ds =>
      obtain ⟨kd', x⟩ := d
      have h1 := hp 0 e (kd', x) rfl rfl
      simp only [mdel] at hm
      cases hke : keyEq kd kd' with
      | none => rw [hke] at hm; cases hm
      | some b =>
        rw [hke] at hm
        have hsn := sameNow_rel hk r h1 hke
        cases b with
        | true =>
          simp only [Option.some.injEq] at hm
          subst hm
          exact .inr ⟨0, e, by simp [Instr.findNow, hsn], rfl, by simp, rfl⟩
        | false =>
          simp only [Option.map_eq_some_iff] at hm
          obtain ⟨es1, hm, rfl⟩ := hm
          rcases ih ds es1 (i + 1) (by simpa using hl) (fun j e' d' he' hd' => hp (j + 1) e' d' (by simpa using he') (by simpa using hd')) hm with ⟨h3, rfl⟩ | ⟨j, e', h3, h4, h6, rfl⟩
          · exact .inl ⟨by simp [Instr.findNow, hsn, h3], rfl⟩
          · exact .inr ⟨j + 1, e', by simp [Instr.findNow, hsn, h3]; omega, by simpa using h4, by simp; omega, rfl⟩

theorem stamps_push {es : Array MapEntry} {clock : Nat} (h : Stamps es clock) {key val : Value} : Stamps (es.push { key, val, born := clock }) (clock + 1) := by
  obtain ⟨h1, h2⟩ := h
  refine ⟨fun x hx => ?_, ?_⟩
  · simp only [Array.toList_push, List.mem_append, List.mem_singleton] at hx
    rcases hx with hx | rfl
    · exact Nat.lt_succ_of_lt (h1 x hx)
    · exact Nat.lt_succ_self _
  · simp only [Array.toList_push, List.map_append, List.map_cons, List.map_nil]
    refine List.nodup_append.2 ⟨h2, by simp, ?_⟩
    intro a ha b hb
    simp only [List.mem_singleton] at hb
    subst hb
    obtain ⟨x, hx, rfl⟩ := List.mem_map.1 ha
    exact Nat.ne_of_lt (h1 x hx)
theorem stamps_modify {es : Array MapEntry} {clock : Nat} (h : Stamps es clock) (i : Nat) (f : MapEntry → MapEntry) (hb : ∀ e, (f e).born = e.born) : Stamps (es.modify i f) clock := by
  have hborn : (es.modify i f).toList.map (·.born) = es.toList.map (·.born) := by
    apply List.ext_getElem?
    intro j
    simp only [List.getElem?_map, Array.getElem?_toList, Array.getElem?_modify]
    by_cases hij : i = j
    · subst hij
      cases he : es[i]? with
      | none => simp
      | some e => simp [hb e]
    · simp [hij]
  obtain ⟨h1, h2⟩ := h
  refine ⟨fun x hx => ?_, hborn ▸ h2⟩
  have : x.born ∈ (es.modify i f).toList.map (·.born) := List.mem_map.2 ⟨x, hx, rfl⟩
  rw [hborn] at this
  obtain ⟨y, hy, e⟩ := List.mem_map.1 this
  rw [← e]; exact h1 y hy
theorem stamps_erase {es : Array MapEntry} {clock : Nat} (h : Stamps es clock) (i : Nat) : Stamps (es.eraseIdxIfInBounds i) clock := by
  have hs : (es.eraseIdxIfInBounds i).toList.Sublist es.toList := by
    unfold Array.eraseIdxIfInBounds
    split
    · simp only [Array.toList_eraseIdx]; exact List.eraseIdx_sublist _ _
    · exact List.Sublist.refl _
  obtain ⟨h1, h2⟩ := h
  exact ⟨fun x hx => h1 x (hs.subset hx), (hs.map _).nodup h2⟩

theorem eff_mapUpdate (S : SRel C.P fa own st a w) {t : TypeId} {m k x : Operand} {z : DV} {id : Nat} {kd : DV} {v : AV} {es es' : List (DV × AV)} (hop : o.op = .mapUpdate t m k x) (hz : C.mapZero t = some z)
    (hm : opA st m = some (.mp id)) (hk : opD st k = some kd) (hx : opA st x = some v) (hcell : v.cellOk = true) (ho : st.heap[id]? = some (.map es)) (hs : mset kd v es = some es') (hok : C.keyOk t kd = true)
    (he : St.put fa { st with heap := st.heap.set id (.map es') } o.dst .un = some st') : EffWP C.P fa own st.heap st' a w o := by
  obtain ⟨kt, e, kind, hu, hkt, hkk⟩ := keyOk_spec hok
  have hkr := opD_rel S hk
  have hvr := opA_rel S hx
  obtain ⟨hid, hl, _⟩ := (opA_rel S hm).mp_inv
  obtain ⟨b, hob, hmv⟩ := hl es ho
  obtain ⟨ms, cl, hmm, hst, hsz, hent⟩ := S.h.objAt ho hob
  have hchk := MapKept.run_checkKey (P := C.P) (w := w) hkt (hkk.isKey hkr) false 9999
  have hput : ∀ {w1 : World}, SRel C.P fa own { st with heap := st.heap.set id (.map es') } a w1 → SRel C.P fa own st' (a.put o.dst undef) w1 := fun S1 => S1.put (x := XV.un) (fun t _ => rfl) he
  rcases mset_find hkk hkr ms.toList es es' 0 (by simpa using hsz) (fun j e d h1 h2 => (hent j e d (by simpa using h1) h2).1) hs with ⟨h1, rfl⟩ | ⟨j, e0, h1, h2, h3, h4, rfl⟩
  · have hrun : (execOp a.eval o).run C.P w = .ok .skip { w with heap := w.heap.setIfInBounds b (.map (ms.push { key := a.eval k, val := a.eval x, born := cl }) (cl + 1)) } := by
      simp only [execOp, hop, hmv, Instr.mapUpdate, Sem.run_bind, run_underlying hu, Result.andThen_ok, MapKept.run_getObj_map hmm, hchk, MapKept.run_findKey hkt h1, MapKept.run_setObj_map _ hmm, Sem.run_pure]
    have := S.setMap (m' := ms.push { key := a.eval k, val := a.eval x, born := cl }) (cl' := cl + 1) (es' := es ++ [(kd, v)]) ho hob hmm (stamps_push hst) (by simp [hsz]) (fun w' h' e' j e1 x1 he1 hx1 => by
      rw [Array.getElem?_push] at he1
      split at he1
      · rename_i hj
        simp only [Option.some.injEq] at he1
        subst he1
        rw [List.getElem?_append_right (by omega)] at hx1
        rw [hj, hsz, Nat.sub_self] at hx1
        simp at hx1
        subst hx1
        exact ⟨hkr.mono e'.ext, hvr.mono e'⟩
      · rename_i hj
        have hlt := (Array.getElem?_eq_some_iff.1 he1).1
        rw [List.getElem?_append_left (by omega)] at hx1
        obtain ⟨y1, y2⟩ := hent j e1 x1 he1 hx1
        exact ⟨y1.mono e'.ext, y2.mono e'⟩)
    exact eff_of_skip hrun (hput this.1) this.2.1 (by rw [put_heap he]; exact this.2.2)
  · have hj : ms[j]? = some e0 := by simpa using h2
    have hrun : (execOp a.eval o).run C.P w = .ok .skip { w with heap := w.heap.setIfInBounds b (.map (ms.modify j fun e => { e with key := a.eval k, val := a.eval x }) cl) } := by
      simp only [execOp, hop, hmv, Instr.mapUpdate, Sem.run_bind, run_underlying hu, Result.andThen_ok, MapKept.run_getObj_map hmm, hchk, MapKept.run_findKey hkt h1, Nat.zero_add, hj, Option.map_some, Option.getD_some, h3,
        MapKept.run_keyThatStays (hkk.isKey hkr), MapKept.run_setObj_map _ hmm, Sem.run_pure]
    have := S.setMap (m' := ms.modify j fun e => { e with key := a.eval k, val := a.eval x }) (cl' := cl) (es' := es.set j (kd, v)) ho hob hmm (stamps_modify hst _ _ fun _ => rfl) (by simp [hsz]) (fun w' h' e' i e1 x1 he1 hx1 => by
      rw [Array.getElem?_modify] at he1
      rw [List.getElem?_set] at hx1
      split at he1
      · rename_i hij
        subst hij
        rw [hj] at he1
        simp only [Option.map_some, Option.some.injEq] at he1
        subst he1
        simp [h4] at hx1
        subst hx1
        exact ⟨hkr.mono e'.ext, hvr.mono e'⟩
      · rename_i hij
        rw [if_neg hij] at hx1
        obtain ⟨y1, y2⟩ := hent i e1 x1 he1 hx1
        exact ⟨y1.mono e'.ext, y2.mono e'⟩)
    exact eff_of_skip hrun (hput this.1) this.2.1 (by rw [put_heap he]; exact this.2.2)

theorem erase_get {α : Type} (m : Array α) (j i : Nat) (hj : j < m.size) : (m.eraseIdxIfInBounds j)[i]? = (m.toList.eraseIdx j)[i]? := by
  unfold Array.eraseIdxIfInBounds
  rw [dif_pos hj, ← Array.getElem?_toList, Array.toList_eraseIdx]

theorem eff_delete (S : SRel C.P fa own st a w) {t : TypeId} {c : Call} {ts : List TypeId} {m k : Operand} {id : Nat} {kd : DV} {es es' : List (DV × AV)} (hop : o.op = .call c) (hc : c.callee = .builtin .delete)
    (ha : c.args.toList = [m, k]) (ht : c.argTypes.toList = t :: ts)
    (hm : opA st m = some (.mp id)) (hk : opD st k = some kd) (ho : st.heap[id]? = some (.map es)) (hs : mdel kd es = some es') (hok : C.keyOk t kd = true)
    (he : St.put fa { st with heap := st.heap.set id (.map es') } o.dst (.a (.d (.tup []))) = some st') : EffWP C.P fa own st.heap st' a w o := by
  obtain ⟨kt, e, kind, hu, hkt, hkk⟩ := keyOk_spec hok
  have hkr := opD_rel S hk
  obtain ⟨hid, hl, _⟩ := (opA_rel S hm).mp_inv
  obtain ⟨b, hob, hmv⟩ := hl es ho
  obtain ⟨ms, cl, hmm, hst, hsz, hent⟩ := S.h.objAt ho hob
  have ha' : c.args = #[m, k] := by rw [← Array.toList_inj, ha]
  have ht' : c.argTypes[0]? = some t := by rw [← Array.getElem?_toList, ht]; rfl
  have hchk := fun em => MapKept.run_checkKey (P := C.P) (w := w) hkt (hkk.isKey hkr) em 9999
  have hres : ∀ (w1 : World), (Builtin.delete_ c.argTypes o.type #[.map (some b), a.eval k]).run C.P w = .ok (.tuple #[]) w1 → (execOp a.eval o).run C.P w = .ok (.value (.tuple #[])) w1 := by
    intro w1 h
    simp only [execOp, hop, resolve, hc, invoke, builtin, ha', List.map_toArray, List.map_cons, List.map_nil, hmv, Sem.run_bind, Sem.run_pure, Result.andThen_ok, h]
  have hput : ∀ {w1 : World}, SRel C.P fa own { st with heap := st.heap.set id (.map es') } a w1 → SRel C.P fa own st' (a.put o.dst (.tuple #[])) w1 :=
    fun S1 => S1.put (x := XV.a (.d (.tup []))) (fun t _ => .d _ _ (.tup #[] [] rfl (fun i v d h _ => by simp at h))) he
  rcases mdel_find hkk hkr ms.toList es es' 0 (by simpa using hsz) (fun j e d h1 h2 => (hent j e d (by simpa using h1) h2).1) hs with ⟨h1, rfl⟩ | ⟨j, e0, h1, h2, h4, rfl⟩
  · have hrun : (Builtin.delete_ c.argTypes o.type #[.map (some b), a.eval k]).run C.P w = .ok (.tuple #[]) { w with heap := w.heap.setIfInBounds b (.map ms cl) } := by
      simp [Builtin.delete_, ht', run_underlying hu, MapKept.run_getObj_map hmm, hchk, MapKept.run_findKey hkt h1, MapKept.run_setObj_map _ hmm]
    have := S.setMap (m' := ms) (cl' := cl) (es' := es') ho hob hmm hst hsz (fun w' h' e' i e1 x1 he1 hx1 => by
      obtain ⟨y1, y2⟩ := hent i e1 x1 he1 hx1
      exact ⟨y1.mono e'.ext, y2.mono e'⟩)
    exact eff_of_run (hres _ hrun) (hput this.1) this.2.1 (by rw [put_heap he]; exact this.2.2)
  · have hjm : j < ms.size := by omega
    have hrun : (Builtin.delete_ c.argTypes o.type #[.map (some b), a.eval k]).run C.P w = .ok (.tuple #[]) { w with heap := w.heap.setIfInBounds b (.map (ms.eraseIdxIfInBounds j) cl) } := by
      simp [Builtin.delete_, ht', run_underlying hu, MapKept.run_getObj_map hmm, hchk, MapKept.run_findKey hkt h1, MapKept.run_setObj_map _ hmm]
    have := S.setMap (m' := ms.eraseIdxIfInBounds j) (cl' := cl) (es' := es.eraseIdx j) ho hob hmm (stamps_erase hst j) (by
        rw [Array.eraseIdxIfInBounds, dif_pos hjm, Array.size_eraseIdx, List.length_eraseIdx_of_lt h4, hsz]) (fun w' h' e' i e1 x1 he1 hx1 => by
      rw [erase_get ms j i hjm, List.getElem?_eraseIdx] at he1
      rw [List.getElem?_eraseIdx] at hx1
      split at he1
      · rename_i hi
        rw [if_pos hi] at hx1
        obtain ⟨y1, y2⟩ := hent i e1 x1 (by simpa using he1) hx1
        exact ⟨y1.mono e'.ext, y2.mono e'⟩
      · rename_i hi
        rw [if_neg hi] at hx1
        obtain ⟨y1, y2⟩ := hent (i + 1) e1 x1 (by simpa using he1) hx1
        exact ⟨y1.mono e'.ext, y2.mono e'⟩)
    exact eff_of_run (hres _ hrun) (hput this.1) this.2.1 (by rw [put_heap he]; exact this.2.2)
end
end Go.Abs
namespace Go.Abs
section
variable {C : Ctx} {call : CallT} {fa : FA} {own own' : Own} {st st' : St} {a : Act} {w w' : World} {o : Oper}

/-- the owners that the frame still names -/
def Live (st : St) : Owner → Prop
  | .own s => ∃ es, alook st.env s = some (.own es)
  | .tmp t => ∃ es, alook st.tmp t = some (.own es)
  | .pend => False
  | _ => True

theorem SRel.loseEnv (S : SRel C.P fa own st a w) (s : Nat) : SRel C.P fa own (st.loseEnv s) a w := by
  unfold St.loseEnv
  split
  · rename_i es hes
    have hr := S.env s _ hes
    refine ⟨S.h, S.nt, S.defers, fun u sv hu => ?_, S.tk, fun u sv hu => ?_, fun t x ht => ?_⟩
    · simp only at hu
      rw [alook_aput] at hu
      cases hb : Nat.beq s u with
      | true => rw [← Nat.eq_of_beq_eq_true hb]; exact S.ek s _ hes
      | false => rw [hb] at hu; exact S.ek u sv hu
    · simp only at hu
      rw [alook_aput] at hu
      cases hb : Nat.beq s u with
      | true =>
        rw [hb] at hu
        simp only [cond_true, Option.some.injEq] at hu
        subst hu
        rw [← Nat.eq_of_beq_eq_true hb]
        exact .d _ _ (OwnRel.rep hr)
      | false => rw [hb] at hu; exact S.env u sv hu
    · refine (S.tmp t x ht).mono ((Grow.refl w).extA own st.heap) (fun _ _ _ _ hb => hb) ((Grow.refl w).keep S.h _) (fun k es' hk es2 hes2 => ?_)
      simp only at hes2
      rw [alook_aput] at hes2
      cases hb : Nat.beq s k with
      | true => rw [hb] at hes2; simp at hes2
      | false => rw [hb] at hes2; exact ⟨hes2, rfl⟩
  · exact S
theorem loseEnv_dead (st : St) (s : Nat) : ¬ Live (st.loseEnv s) (.own s) := by
  rintro ⟨es, h⟩
  unfold St.loseEnv at h
  split at h
  · simp only at h
    rw [alook_aput] at h
    simp at h
  · rename_i hn
    exact hn es h
theorem loseEnv_heap (st : St) (s : Nat) : (st.loseEnv s).heap = st.heap := by
  unfold St.loseEnv; split <;> rfl
theorem lose_heap (st : St) (x : Operand) : (st.lose x).heap = st.heap := by
  unfold St.lose
  repeat' split
  all_goals first | rfl | exact loseEnv_heap _ _

theorem own_lose (S : SRel C.P fa own st a w) {x : Operand} {es : List DV} (h : ownOf st x = some es) : SRel C.P fa own (st.lose x) a w ∧
    ∃ z : Owner, OwnRel C.P w own z (a.eval x) es ∧ ¬ Live (st.lose x) z := by
  unfold ownOf at h
  split at h
  · rename_i t
    rw [eval_tmp]
    split at h
    · rename_i es' ht
      simp only [Option.some.injEq] at h
      subst h
      have hr := S.tmp t _ ht
      have hl : st.lose (.tmp t) = { st with tmp := ins st.tmp t (.a (.d (.slc es'))) } := by simp only [St.lose, ht]
      rw [hl]
      refine ⟨⟨S.h, S.nt, S.defers, S.ek, fun u y hu => ?_, S.env, fun u y hu => ?_⟩, .tmp t, hr, ?_⟩
      · simp only at hu
        rw [alook_ins] at hu
        cases hb : Nat.beq t u with
        | true => rw [← Nat.eq_of_beq_eq_true hb]; exact S.tk t _ ht
        | false => rw [hb] at hu; exact S.tk u y hu
      · simp only at hu
        rw [alook_ins] at hu
        cases hb : Nat.beq t u with
        | true =>
          rw [hb] at hu
          simp only [cond_true, Option.some.injEq] at hu
          subst hu
          rw [← Nat.eq_of_beq_eq_true hb]
          exact .d _ _ (OwnRel.rep hr)
        | false => rw [hb] at hu; exact S.tmp u y hu
      · rintro ⟨es2, h2⟩
        simp only at h2
        rw [alook_ins] at h2
        simp at h2
    · rename_i s es0 ht
      split at h
      · rename_i es' hes
        simp only [Option.some.injEq] at h
        subst h
        have hr := S.tmp t _ ht
        obtain ⟨h1, h2⟩ := hr
        obtain ⟨h3, h4⟩ := h2 _ hes
        have hl : st.lose (.tmp t) = st.loseEnv s := by simp only [St.lose, ht]
        rw [hl]
        refine ⟨S.loseEnv s, .own s, ?_, loseEnv_dead st s⟩
        rw [← h4]
        exact S.env s _ hes
      · cases h
    · cases h
    · rename_i ht
      split at h
      · rename_i es' hes
        simp only [Option.some.injEq] at h
        subst h
        have hl : st.lose (.tmp t) = st.loseEnv t := by simp only [St.lose, ht]
        rw [hl]
        exact ⟨S.loseEnv t, .own t, S.env t _ hes, loseEnv_dead st t⟩
      · cases h
  · simp only [Option.some.injEq] at h
    subst h
    exact ⟨S, .pend, .inl ⟨rfl, rfl⟩, fun h => h⟩
  · cases h

/-- the block goes to 'y', and what 'y' had is nobody's -/
def reOwn (own : Own) (b : Nat) (y : Owner) (f : Nat) : Own := fun k => if k = b then some (y, f) else match own k with
  | some (z, g) => if z = y then none else some (z, g)
  | none => none

theorem reOwn_at (own : Own) (b : Nat) (y : Owner) (f : Nat) : reOwn own b y f b = some (y, f) := by simp [reOwn]
theorem reOwn_old {own : Own} {b k : Nat} {y z : Owner} {f g : Nat} (h : own k = some (z, g)) (hk : k ≠ b) (hz : z ≠ y) : reOwn own b y f k = some (z, g) := by
  simp [reOwn, hk, h, hz]
theorem reOwn_none {own : Own} {b k : Nat} {y : Owner} {f : Nat} (h : own k = none) (hk : k ≠ b) : reOwn own b y f k = none := by simp [reOwn, hk, h]
theorem reOwn_cases {own : Own} {b k : Nat} {y z : Owner} {f g : Nat} (h : reOwn own b y f k = some (z, g)) : (k = b ∧ z = y ∧ g = f) ∨ (k ≠ b ∧ own k = some (z, g) ∧ z ≠ y) := by
  unfold reOwn at h
  split at h
  · rename_i hk
    simp only [Option.some.injEq, Prod.mk.injEq] at h
    exact .inl ⟨hk, h.1.symm, h.2.symm⟩
  · rename_i hk
    split at h
    · rename_i z' g' hz
      split at h
      · cases h
      · rename_i hne
        simp only [Option.some.injEq, Prod.mk.injEq] at h
        obtain ⟨rfl, rfl⟩ := h
        exact .inr ⟨hk, hz, hne⟩
    · cases h

/-- a block is written that is new, or that belongs to an owner 'D' of whom the frame says nothing -/
structure Turns (w : World) (own : Own) (D : Owner → Prop) (w' : World) (b f : Nat) : Prop where
  os : w'.os = w.os
  tape : w'.tape = w.tape
  output : w'.output = w.output
  size : w.heap.size ≤ w'.heap.size
  blk : ∀ k, k < w.heap.size → k ≠ b → w'.heap[k]? = w.heap[k]?
  here : b < w'.heap.size
  from_ : w.heap.size ≤ b ∨ ∃ x f0, own b = some (x, f0) ∧ D x ∧ f0 ≤ f ∧ ∀ j v, j < f0 → w.cell? ⟨b, j, none⟩ = some v → w'.cell? ⟨b, j, none⟩ = some v

theorem Turns.frm {D : Owner → Prop} {b f : Nat} {y : Owner} (T : Turns w own D w' b f) (hD : ¬ D .ext) (hy : y ≠ .ext) : Frm w own w' (reOwn own b y f) := by
  refine ⟨T.os, T.tape, T.output, T.size, fun k hk ho => ?_⟩
  have hne : k ≠ b := by
    rintro rfl
    rcases T.from_ with h | ⟨x, f0, h1, h2, _⟩
    · omega
    · rcases ho with ho | ⟨g, ho⟩
      · rw [h1] at ho; cases ho
      · rw [h1] at ho; simp only [Option.some.injEq, Prod.mk.injEq] at ho; rw [ho.1] at h2; exact hD h2
  refine ⟨T.blk k hk hne, ?_⟩
  rcases ho with ho | ⟨g, ho⟩
  · rw [ho]; exact reOwn_none ho hne
  · rw [ho]; exact reOwn_old ho hne (Ne.symm hy)

theorem Turns.keep {D : Owner → Prop} {b f : Nat} {y z : Owner} {P : Program} {h : List AObj} (T : Turns w own D w' b f) (H : HRel P w own h) (hz : ¬ D z) (hy : z ≠ y) : Keep w own w' (reOwn own b y f) z := by
  intro k g hk
  have hlt := H.lt k _ hk
  have hne : k ≠ b := by
    rintro rfl
    rcases T.from_ with h | ⟨x, f0, h1, h2, _⟩
    · omega
    · rw [h1] at hk; simp only [Option.some.injEq, Prod.mk.injEq] at hk; rw [hk.1] at h2; exact hz h2
  exact ⟨reOwn_old hk hne hy, T.blk k hlt hne⟩

theorem Turns.extA' {D : Owner → Prop} {b f : Nat} {y : Owner} {P : Program} {h h' : List AObj} (T : Turns w own D w' b f) (H : HRel P w own h) (hD : ∀ id, ¬ D (.obj id)) (hy : ∀ (id : Nat) (x x' : AObj), h[id]? = some x → h'[id]? = some x' → x.stays x' → y ≠ .obj id)
    (hlen : h.length ≤ h'.length) (hk : ∀ (id : Nat) (x x' : AObj), h[id]? = some x → h'[id]? = some x' → x.later x') : ExtA w own h w' (reOwn own b y f) h' := by
  have bs : ∀ k z g, own k = some (z, g) → w.heap.size ≤ b → k ≠ b := fun k z g hk hb => by have := H.lt k _ hk; omega
  refine ⟨⟨fun k i v hc hp => ?_, fun k es c hc hn => ?_⟩, hlen, hk, fun k id x x' hb h1 h2 h3 => ?_⟩
  · have hlt := lt_of_cell hc
    by_cases hkb : k = b
    · subst hkb
      rcases T.from_ with h | ⟨x, f0, h1, h2, h3, h4⟩
      · omega
      · have hi : i < f0 := hp x f0 h1
        refine ⟨h4 i v hi hc, fun z g hz => ?_⟩
        rw [reOwn_at] at hz
        simp only [Option.some.injEq, Prod.mk.injEq] at hz
        omega
    · refine ⟨by rw [cell_of_blk (T.blk k hlt hkb), hc], fun z g hz => ?_⟩
      rcases reOwn_cases hz with ⟨h1, _⟩ | ⟨_, h2, _⟩
      · exact absurd h1 hkb
      · exact hp z g h2
  · have hlt := lt_of_heap hc
    have hkb : k ≠ b := by
      rintro rfl
      rcases T.from_ with h | ⟨x, f0, h1, _⟩
      · omega
      · rw [h1] at hn; cases hn
    exact ⟨by rw [T.blk k hlt hkb, hc], reOwn_none hn hkb⟩
  · have hid := (List.getElem?_eq_some_iff.1 h1).1
    obtain ⟨e1, e2⟩ := T.keep H (hD id) (fun e => hy id x x' h1 h2 h3 e.symm) k 0 hb
    exact ⟨e1, fun c T' fr hc => ⟨c, by rw [e2, hc], rfl⟩⟩

theorem Turns.extA {D : Owner → Prop} {b f : Nat} {y : Owner} {P : Program} {h h' : List AObj} (T : Turns w own D w' b f) (H : HRel P w own h) (hD : ∀ id, ¬ D (.obj id)) (hy : ∀ id, id < h.length → y ≠ .obj id)
    (hlen : h.length ≤ h'.length) (hk : ∀ (id : Nat) (x x' : AObj), h[id]? = some x → h'[id]? = some x' → x = x') : ExtA w own h w' (reOwn own b y f) h' :=
  T.extA' H hD (fun id x x' h1 _ _ => hy id (List.getElem?_eq_some_iff.1 h1).1) hlen (fun id x x' h1 h2 => by rw [hk id x x' h1 h2]; exact AObj.later_refl x')

theorem Turns.uniq {D : Owner → Prop} {b f : Nat} {y : Owner} {P : Program} {h : List AObj} (T : Turns w own D w' b f) (H : HRel P w own h) :
    ∀ k k' x g g', reOwn own b y f k = some (x, g) → reOwn own b y f k' = some (x, g') → x ≠ .ext → k = k' := by
  intro k k' x g g' h1 h2 hne
  rcases reOwn_cases h1 with ⟨rfl, e, _⟩ | ⟨_, e1, e2⟩ <;> rcases reOwn_cases h2 with ⟨rfl, e', _⟩ | ⟨_, e1', e2'⟩
  · rfl
  · exact absurd e e2'
  · exact absurd e' e2
  · exact H.uniq k k' x g g' e1 e1' hne
theorem Turns.lt {D : Owner → Prop} {b f : Nat} {y : Owner} {P : Program} {h : List AObj} (T : Turns w own D w' b f) (H : HRel P w own h) :
    ∀ k x, reOwn own b y f k = some x → k < w'.heap.size := by
  rintro k ⟨z, g⟩ hk
  rcases reOwn_cases hk with ⟨rfl, _⟩ | ⟨_, e, _⟩
  · exact T.here
  · exact Nat.lt_of_lt_of_le (H.lt k _ e) T.size

/-- a slot takes a row of its own -/
theorem SRel.putOwn (S : SRel C.P fa own st a w) {y : Owner} {dst : Option Tmp} {v : Value} {es : List DV} (H : HRel C.P w' own' st.heap) (e : ExtA w own st.heap w' own' st.heap)
    (hk : ∀ z, Live st z → (∀ t, dst = some t → z ≠ .own t ∧ z ≠ .tmp t) → (∀ id, z ≠ .obj id) → Keep w own w' own' z)
    (hy : ∀ t, dst = some t → OwnRel C.P w' own' (if has fa.keep t then .own t else .tmp t) v es) (hp : st.putOwn fa dst es = some st') : SRel C.P fa own' st' (a.put dst v) w' := by
  unfold St.putOwn at hp
  cases dst with
  | none => cases hp
  | some t =>
    simp only at hp
    have hyt := hy t rfl
    cases hlt : Nat.blt t fa.nt with
    | false => rw [hlt] at hp; cases hp
    | true =>
      rw [hlt] at hp
      simp only [cond_true] at hp
      have ht : t < a.tmps.size := by rw [S.nt]; simpa [Nat.blt_eq] using hlt
      have hget := fun s => put_get (v := v) ht s
      have kbox : ∀ s, Keep w own w' own' (.box s) := fun s => hk _ trivial (fun t' _ => ⟨by simp, by simp⟩) (by simp)
      have env : ∀ u sv, alook st.env u = some sv → u ≠ t → SVRel C.P w' own' st.heap u ((a.put (some t) v).tmps.getD u undef) sv := by
        intro u sv hu hne
        rw [hget u, if_neg hne]
        have hr := S.env u sv hu
        cases sv with
        | val x => exact ARep.mono hr e
        | box cs => exact BoxRel.mono hr e.ext (kbox u)
        | own es' => exact OwnRel.mono hr e.ext (hk (.own u) ⟨es', hu⟩ (fun t' ht' => by cases ht'; exact ⟨by simpa using hne, by simp⟩) (by simp))
      cases hkt : has fa.keep t with
      | true =>
        rw [hkt] at hp hyt
        simp only [cond_true, if_true, Option.some.injEq] at hp hyt
        subst hp
        refine ⟨H, by simp [Act.put, S.nt], S.defers, fun u sv hu => ?_, fun u x hu => ?_, fun u sv hu => ?_, fun u x hu => ?_⟩
        · simp only at hu
          rw [alook_aput] at hu
          cases hb : Nat.beq t u with
          | true => rw [← Nat.eq_of_beq_eq_true hb]; exact hkt
          | false => rw [hb] at hu; exact S.ek u sv hu
        · simp only at hu
          rw [alook_unal] at hu
          obtain ⟨x0, h0, _⟩ := Option.map_eq_some_iff.1 hu
          exact S.tk u x0 h0
        · simp only at hu
          rw [alook_aput] at hu
          cases hb : Nat.beq t u with
          | true =>
            rw [hb] at hu
            simp only [cond_true, Option.some.injEq] at hu
            subst hu
            have := Nat.eq_of_beq_eq_true hb
            subst this
            rw [hget t, if_pos rfl]
            exact hyt
          | false =>
            rw [hb] at hu
            exact env u sv hu (Ne.symm (beq_ne.1 hb))
        · simp only at hu
          rw [alook_unal] at hu
          obtain ⟨x0, h0, hx⟩ := Option.map_eq_some_iff.1 hu
          have hut : u ≠ t := by rintro rfl; rw [S.tk u x0 h0] at hkt; cases hkt
          rw [hget u, if_neg hut]
          have hr := S.tmp u x0 h0
          have kown : ∀ es', x0 = .own es' → Keep w own w' own' (.tmp u) := fun es' h => hk (.tmp u) ⟨es', by rw [h0, h]⟩ (fun t' ht' => by cases ht'; exact ⟨by simp, by simpa using hut⟩) (by simp)
          cases x0 with
          | al k es' =>
            simp only at hx
            cases hb : Nat.beq k t with
            | true =>
              rw [hb] at hx
              simp only [cond_true] at hx
              subst hx
              exact .d _ _ (hr.1.mono e.ext)
            | false =>
              rw [hb] at hx
              simp only [cond_false] at hx
              subst hx
              refine ⟨hr.1.mono e.ext, fun es2 h2 => ?_⟩
              simp only at h2
              rw [alook_aput] at h2
              have hne : Nat.beq t k = false := beq_ne.2 (Ne.symm (beq_ne.1 hb))
              rw [hne] at h2
              obtain ⟨y1, y2⟩ := hr.2 es2 h2
              exact ⟨y1, by show (a.put (some t) v).tmps.getD k undef = _; rw [hget k, if_neg (beq_ne.1 hb)]; exact y2⟩
          | a v => simp only at hx; subst hx; exact ARep.mono hr e
          | sp s off => simp only at hx; subst hx; obtain ⟨b, hb, hv⟩ := hr; exact ⟨b, (kbox s b 0 hb).1, hv⟩
          | fp cs => simp only at hx; subst hx; exact FpRel.mono hr e.ext
          | ap id g i off => simp only at hx; subst hx; exact ApRel.mono hr e
          | own es' => simp only at hx; subst hx; exact OwnRel.mono hr e.ext (kown es' rfl)
          | un => simp only at hx; subst hx; exact hr
      | false =>
        rw [hkt] at hp hyt
        simp only [cond_false, Bool.false_eq_true, if_false, Option.some.injEq] at hp hyt
        subst hp
        have et : ∀ u sv, alook st.env u = some sv → u ≠ t := fun u sv hu => by rintro rfl; rw [S.ek u sv hu] at hkt; cases hkt
        refine ⟨H, by simp [Act.put, S.nt], S.defers, S.ek, fun u x hu => ?_, fun u sv hu => env u sv hu (et u sv hu), fun u x hu => ?_⟩
        · simp only at hu
          rw [alook_ins] at hu
          cases hb : Nat.beq t u with
          | true => rw [← Nat.eq_of_beq_eq_true hb]; exact hkt
          | false => rw [hb] at hu; exact S.tk u x hu
        · simp only at hu
          rw [alook_ins] at hu
          cases hb : Nat.beq t u with
          | true =>
            rw [hb] at hu
            simp only [cond_true, Option.some.injEq] at hu
            subst hu
            have := Nat.eq_of_beq_eq_true hb
            subst this
            rw [hget t, if_pos rfl]
            exact hyt
          | false =>
            rw [hb] at hu
            have hut : u ≠ t := Ne.symm (beq_ne.1 hb)
            rw [hget u, if_neg hut]
            have hr := S.tmp u x hu
            cases x with
            | al k es' => exact ⟨hr.1.mono e.ext, fun es2 h2 => by
                obtain ⟨y1, y2⟩ := hr.2 es2 h2
                exact ⟨y1, by show (a.put (some t) v).tmps.getD k undef = _; rw [hget k, if_neg (et k _ h2)]; exact y2⟩⟩
            | a v => exact ARep.mono hr e
            | sp s off => obtain ⟨b, hb, hv⟩ := hr; exact ⟨b, (kbox s b 0 hb).1, hv⟩
            | fp cs => exact FpRel.mono hr e.ext
            | ap id g i off => exact ApRel.mono hr e
            | own es' => exact OwnRel.mono hr e.ext (hk (.tmp u) ⟨es', hu⟩ (fun t' ht' => by cases ht'; exact ⟨by simp, by simpa using hut⟩) (by simp))
            | un => exact hr

theorem putOwn_heap {dst : Option Tmp} {es : List DV} (hp : st.putOwn fa dst es = some st') : st'.heap = st.heap := by
  unfold St.putOwn at hp
  split at hp
  · cases hp
  · rename_i t
    cases h1 : Nat.blt t fa.nt <;> rw [h1] at hp
    · cases hp
    · cases h2 : has fa.keep t <;> rw [h2] at hp <;> simp only [cond_true, cond_false, Option.some.injEq] at hp <;> subst hp <;> rfl

/-- the row comes from a block that nobody names -/
theorem SRel.turnOwn (S : SRel C.P fa own st a w) {D : Owner → Prop} {b f : Nat} {dst : Option Tmp} {v : Value} {es : List DV} (T : Turns w own D w' b f) (hD : ∀ z, D z → ¬ Live st z)
    (hy : ∀ y own', (∀ t, dst = some t → y = if has fa.keep t then .own t else .tmp t) → own' = reOwn own b y f → ExtA w own st.heap w' own' st.heap → OwnRel C.P w' own' y v es) (hp : st.putOwn fa dst es = some st') :
    ∃ own', SRel C.P fa own' st' (a.put dst v) w' ∧ Frm w own w' own' ∧ ExtA w own st.heap w' own' st'.heap := by
  cases dst with
  | none => cases hp
  | some t =>
    have hDo : ∀ id, ¬ D (.obj id) := fun id h => hD _ h trivial
    have key : ∀ y : Owner, (y = if has fa.keep t then .own t else .tmp t) → (∀ id, y ≠ .obj id) ∧ y ≠ .ext ∧ (y = .own t ∨ y = .tmp t) := by
      intro y hy
      split at hy <;> subst hy <;> simp
    obtain ⟨k1, k2, k3⟩ := key _ rfl
    generalize hyy : (if has fa.keep t then Owner.own t else Owner.tmp t) = y at k1 k2 k3
    have e := T.extA (y := y) S.h hDo (fun id _ => k1 id) (Nat.le_refl _) (fun id x x' h1 h2 => by rw [h1] at h2; simpa using h2)
    refine ⟨reOwn own b y f, ?_, T.frm (fun h => hD _ h trivial) k2, by rw [putOwn_heap hp]; exact e⟩
    refine S.putOwn (y := y) (own' := reOwn own b y f) ⟨fun id x hx => ?_, T.uniq S.h, T.lt S.h, fun k id g hk => ?_⟩ e (fun z hz hn ho => T.keep S.h (fun h => hD z h hz) ?_) (fun t' ht' => ?_) hp
    · obtain ⟨k, hk, hr⟩ := S.h.obj id x hx
      obtain ⟨e1, e2⟩ := T.keep (y := y) S.h (hDo id) (fun h => k1 id h.symm) k 0 hk
      exact ⟨k, e1, hr.mono e e2⟩
    · rcases reOwn_cases hk with ⟨_, h, _⟩ | ⟨_, h, _⟩
      · exact absurd h.symm (k1 id)
      · exact S.h.idlt k id g h
    · rintro rfl
      obtain ⟨n1, n2⟩ := hn t rfl
      rcases k3 with h | h
      · exact n1 h
      · exact n2 h
    · cases ht'
      rw [hyy]
      exact hy y _ (fun t' ht' => by cases ht'; exact hyy.symm) rfl e

/-- 'x' hands its row to another slot -/
theorem eff_take (S : SRel C.P fa own st a w) {x : Operand} {es : List DV} (hop : o.op = .move x ∨ o.op = .assign x) (hx : ownOf st x = some es) (hp : (st.lose x).putOwn fa o.dst es = some st') : EffWP C.P fa own st.heap st' a w o := by
  obtain ⟨S1, z, hr, hd⟩ := own_lose S hx
  have hrun : (execOp a.eval o).run C.P w = .ok (.value (a.eval x)) w := by rcases hop with h | h <;> simp [execOp, h]
  have hheap := lose_heap st x
  rcases hr with ⟨rfl, hv⟩ | ⟨b, cap, c, T, i, hne, hv, hob, hc, hi, hpos, hle, hmax, hsz, hrep, hes⟩
  · refine eff_of_run (own' := own) hrun (S1.putOwn (y := z) (by rw [hheap]; exact S.h) (by rw [hheap]; exact (Grow.refl w).extA own _) (fun z _ _ _ => (Grow.refl w).keep S.h z) (fun t _ => .inl ⟨rfl, hv⟩) hp) (.refl w own) (by rw [putOwn_heap hp, hheap]; exact (Grow.refl w).extA own _)
  · have T' : Turns w own (fun x => x = z) w b (es.length * i.size) := ⟨rfl, rfl, rfl, Nat.le_refl _, fun _ _ _ => rfl, lt_of_heap hc, .inr ⟨z, _, hob, rfl, Nat.le_refl _, fun j v _ h => h⟩⟩
    obtain ⟨own', S2, F, E⟩ := S1.turnOwn (dst := o.dst) (v := a.eval x) (es := es) T' (fun y hy => by rw [hy]; exact hd) (fun y own' _ ho e => .inr ⟨b, cap, c, T, i, hne, hv, by rw [ho, reOwn_at], hc, hi, hpos, hle, hmax, hsz, hrep.mono e.ext, hes⟩) hp
    exact eff_of_run hrun S2 F (by rw [← hheap]; exact E)

end
end Go.Abs
namespace Go.Abs
section
variable {C : Ctx} {call : CallT} {fa : FA} {own own' : Own} {st st' : St} {a : Act} {w w' : World} {o : Oper}

theorem sizesOk_spec {sz : Nat} : ∀ {l : List DV}, sizesOk sz l = true → ∀ e ∈ l, e.cells.length = sz := by
  intro l
  induction l with
  | nil => intro _ e he; simp at he
  | cons v l ih =>
    intro h e he
    simp only [sizesOk, Bool.and_eq_true] at h
    simp only [List.mem_cons] at he
    rcases he with rfl | he
    · exact Nat.eq_of_beq_eq_true h.1
    · exact ih h.2 e he

/-- what is appended: where it is read -/
theorem new_rel {x : Value} {new : List DV} {sz : Nat} (r : Rep w own x (.slc new)) (hsz : ∀ e ∈ new, e.cells.length = sz) : ∃ xb cap, ∃ news : List Value, x = .slice xb new.length cap ∧ news.length = new.length * sz ∧
    (∀ w', w'.heap = w.heap → (Builtin.firstCells sz new.length x).run C.P w' = .ok news.toArray w') ∧ (∀ u ∈ news, u.oneCell' = true) ∧
    ∀ (j : Nat) u d, news[j]? = some u → (new.flatMap DV.cells)[j]? = some d → Rep w own u d := by
  by_cases hne : new = []
  · subst hne
    obtain ⟨xb, cap, hx⟩ := r.slc_len
    refine ⟨xb, cap, [], hx, by simp, fun w' hw => ?_, by simp, fun j u d h => by simp at h⟩
    rw [hx]
    cases xb with
    | none => exact run_firstCells_none _ _ _ _ _
    | some a => exact run_firstCells_some _ _ _ _ _ _ [] (by simp) (fun j v h => by simp at h)
  · obtain ⟨b, off, cap, sz', vs, hx, hcap, hs, hc, hp, h1, hr⟩ := r.slc_inv hne
    have hsz' : sz' = sz := by
      obtain ⟨e, he⟩ := List.exists_mem_of_ne_nil _ hne
      rw [← hs e he, hsz e he]
    subst hsz'
    let news := (List.range (new.length * sz')).map vs
    have hg : ∀ (j : Nat) u, news[j]? = some u → j < new.length * sz' ∧ u = vs j := by
      intro j u hu
      simp only [news, List.getElem?_map, Option.map_eq_some_iff] at hu
      obtain ⟨k, hk, rfl⟩ := hu
      have hj : j < new.length * sz' := by
        have := (List.getElem?_eq_some_iff.1 hk).1
        simpa using this
      rw [List.getElem?_range hj] at hk
      simp only [Option.some.injEq] at hk
      subst hk
      exact ⟨hj, rfl⟩
    refine ⟨some ⟨b, off, none⟩, cap, news, hx, by simp [news], fun w' hw => ?_, fun u hu => ?_, fun j u d hu hd => ?_⟩
    · rw [hx]
      refine run_firstCells_some _ _ _ _ _ _ news (by simp [news]) (fun j v h => ?_)
      obtain ⟨hj, rfl⟩ := hg j v h
      rw [Addr.add_lit, cell_of_blk (w := w) (w' := w') (by rw [hw])]
      exact hc j hj
    · obtain ⟨j, hj, rfl⟩ := List.mem_iff_getElem.1 hu
      obtain ⟨h2, h3⟩ := hg j _ (List.getElem?_eq_getElem hj)
      rw [h3]; exact h1 j h2
    · obtain ⟨_, rfl⟩ := hg j u hu
      exact hr j d hd

theorem run_appendIn {t ty e : TypeId} {i : TypeInfo} (ht : C.P.underlying t = some (.slice e)) (hi : C.P.info? e = some i) {b n cap m : Nat} {c : Array Value} {T : TypeId} {fr : Nat × Nat}
    (hc : w.heap[b]? = some (.cells c T fr)) (hnf : NoFreeze c fr) {xb : Option Addr} {xc : Nat} {news : List Value} (hl : news.length = m * i.size)
    (hf : (Builtin.firstCells i.size m (.slice xb m xc)).run C.P w = .ok news.toArray w) (h1 : ∀ u ∈ news, u.oneCell' = true) (hroom : n + m ≤ cap) (hfit : cap * i.size ≤ c.size) :
    ∃ c' : Array Value, (Builtin.append_ #[t, t] ty #[.slice (some ⟨b, 0, none⟩) n cap, .slice xb m xc]).run C.P w = .ok (.slice (some ⟨b, 0, none⟩) (n + m) cap) (w.setRow b c') ∧ c'.size = c.size ∧
      ∀ j : Nat, c'[j]? = if n * i.size ≤ j ∧ j < n * i.size + m * i.size then news[j - n * i.size]? else c[j]? := by
  have hle : n * i.size + m * i.size ≤ c.size := by rw [← Nat.add_mul]; exact Nat.le_trans (Nat.mul_le_mul_right _ hroom) hfit
  obtain ⟨c', g1, g2, g3⟩ := run_storeCells_row (P := C.P) b (n * i.size) T fr news 0 c w hc hnf (by omega) h1
  refine ⟨c', ?_, g2, fun j => by rw [g3 j, Nat.add_zero, hl]⟩
  simp [Builtin.append_, run_underlying ht, sizeOf, typeInfo, hi, Builtin.lenOf, hroom, hf, Addr.add_lit, g1]

theorem run_appendNil {t ty e : TypeId} {i : TypeInfo} (ht : C.P.underlying t = some (.slice e)) (hi : C.P.info? e = some i) {xb : Option Addr} {xc : Nat}
    (hf : (Builtin.firstCells i.size 0 (.slice xb 0 xc)).run C.P w = .ok #[] w) : (Builtin.append_ #[t, t] ty #[.slice none 0 0, .slice xb 0 xc]).run C.P w = .ok (.slice none 0 0) w := by
  simp [Builtin.append_, run_underlying ht, sizeOf, typeInfo, hi, Builtin.lenOf, hf]

theorem run_appendNew {t ty e : TypeId} {i : TypeInfo} {z : Value} (ht : C.P.underlying t = some (.slice e)) (hi : C.P.info? e = some i) (hz : i.zero = some z) (hzs : z.cells.size = i.size)
    {sb : Option Addr} {n cap m : Nat} {olds : List Value} (ho : ∀ w', w'.heap = w.heap → (Builtin.firstCells i.size n (.slice sb n cap)).run C.P w' = .ok olds.toArray w') (hol : olds.length = n * i.size)
    {xb : Option Addr} {xc : Nat} {news : List Value} (hl : news.length = m * i.size)
    (hf : ∀ w', w'.heap = w.heap → (Builtin.firstCells i.size m (.slice xb m xc)).run C.P w' = .ok news.toArray w') (hroom : cap < n + m) (h63 : n + m ≤ 2 ^ 47) (hb : (n + m) * i.bytes ≤ 2 ^ 47) :
    ∃ (nc : Nat) (c' : Array Value), (Builtin.append_ #[t, t] ty #[.slice sb n cap, .slice xb m xc]).run C.P w = .ok (.slice (some ⟨w.heap.size, 0, none⟩) (n + m) nc) (w.drew.alloc (.cells c' e)) ∧
      n + m ≤ nc ∧ nc ≤ maxLen ∧ c'.size = nc * i.size ∧ (∀ j : Nat, j < (n + m) * i.size → c'[j]? = (olds ++ news)[j]?) := by
  have hn : ¬ (n + m ≤ cap) := by omega
  have h63' : ¬ (9223372036854775807 < ((n : Int) + (m : Int))) := by omega
  have h48' : ¬ (281474976710656 < Builtin.nextslicecap (n + m) cap * i.bytes) := by
    have := growslice_fits (bytes := i.bytes) hroom (by omega)
    omega
  have hge := grownCap_ge w (n + m) cap e
  have hmax := grownCap_le_maxLen w (n + m) cap e (by simp only [maxLen]; omega)
  refine ⟨grownCap w (n + m) cap e, olds.toArray ++ news.toArray ++ Builtin.zeroCells z.cells (grownCap w (n + m) cap e - (n + m)), ?_, hge, hmax, ?_, fun j hj => ?_⟩
  · simp [Builtin.append_, run_underlying ht, sizeOf, typeInfo, zeroValue, hi, hz, Builtin.lenOf, hn, h63', h48', Question.forced, hf w.drew rfl, ho w.drew rfl, newRow, grownCap]
    congr 2
    apply Array.ext'
    simp [List.append_assoc]
  · have hzc : (Builtin.zeroCells z.cells (grownCap w (n + m) cap e - (n + m))).size = (grownCap w (n + m) cap e - (n + m)) * i.size := by rw [size_zeroCells, hzs]
    rw [Array.size_append, Array.size_append, hzc]
    simp only [List.size_toArray, hol, hl]
    rw [← Nat.add_mul, ← Nat.add_mul]
    congr 1
    omega
  · have hlt : j < (olds ++ news).length := by rw [List.length_append, hol, hl, ← Nat.add_mul]; exact hj
    rw [Array.getElem?_append_left (by simpa using hlt)]
    simp

/-- a row's first cells, read as elements -/
theorem row_rep {b cap n : Nat} {c : Array Value} {T : TypeId} {fr : Nat × Nat} {sz : Nat} {es : List DV} (hc : w.heap[b]? = some (.cells c T fr)) (hn : es.length = n) (hcap : n ≤ cap) (hsz : ∀ e ∈ es, e.cells.length = sz)
    (hp : ∀ x f, own b = some (x, f) → n * sz ≤ f) (hr : ∀ (j : Nat) d, (es.flatMap DV.cells)[j]? = some d → ∃ u, c[j]? = some u ∧ u.oneCell' = true ∧ Rep w own u d) : Rep w own (.slice (some ⟨b, 0, none⟩) n cap) (.slc es) := by
  subst hn
  have hin : ∀ i, i < es.length * sz → ∃ d u, (es.flatMap DV.cells)[i]? = some d ∧ c[i]? = some u ∧ u.oneCell' = true ∧ Rep w own u d := by
    intro i hi
    have hlt : i < (es.flatMap DV.cells).length := by rw [flat_len hsz]; exact hi
    have hx := List.getElem?_eq_getElem hlt
    obtain ⟨u, h1, h2, h3⟩ := hr i _ hx
    exact ⟨_, u, hx, h1, h2, h3⟩
  refine .slc b 0 cap sz es (fun i => c[i]?.getD undef) hcap hsz (fun i hi => ?_) (fun i hi x f hx => by have := hp x f hx; omega) (fun i hi => ?_) (fun i d hd => ?_)
  · obtain ⟨d, u, _, h1, _⟩ := hin i hi
    rw [Nat.zero_add, cell_of_row w b i c T fr hc, h1]; rfl
  · obtain ⟨d, u, _, h1, h2, _⟩ := hin i hi
    rw [h1]; exact h2
  · obtain ⟨u, h1, h2, h3⟩ := hr i d hd
    rw [h1]; exact h3

theorem firsts_of_row {b n cap : Nat} {c : Array Value} {T : TypeId} {fr : Nat × Nat} {sz : Nat} (hc : w.heap[b]? = some (.cells c T fr)) (hfit : n * sz ≤ c.size) :
    ∀ w', w'.heap = w.heap → (Builtin.firstCells sz n (.slice (some ⟨b, 0, none⟩) n cap)).run C.P w' = .ok (c.toList.take (n * sz)).toArray w' := by
  intro w' hw
  refine run_firstCells_some _ _ _ _ _ _ _ (by rw [List.length_take, Array.length_toList]; omega) (fun j v h => ?_)
  rw [List.getElem?_take] at h
  split at h
  · rw [Addr.add_lit, Nat.zero_add, cell_of_row w' b j c T fr (by rw [hw, hc])]
    simpa using h
  · cases h

/-- a row of one's own, and what it holds -/
theorem own_cells {b cap : Nat} {c : Array Value} {T : TypeId} {fr : Nat × Nat} {sz : Nat} {es : List DV} (hne : es ≠ []) (hc : w.heap[b]? = some (.cells c T fr)) (hsz : ∀ e ∈ es, e.cells.length = sz)
    (hr : Rep w own (.slice (some ⟨b, 0, none⟩) es.length cap) (.slc es)) (j : Nat) (d : DV) (hd : (es.flatMap DV.cells)[j]? = some d) : ∃ u, c[j]? = some u ∧ u.oneCell' = true ∧ Rep w own u d := by
  obtain ⟨b', off, cap', sz', vs, hx, hcap, hs, hcell, hp, h1, hrr⟩ := hr.slc_inv hne
  simp only [Value.slice.injEq, Option.some.injEq, Addr.mk.injEq, true_and, and_true] at hx
  obtain ⟨⟨rfl, rfl⟩, rfl⟩ := hx
  have hsz' : sz' = sz := by
    obtain ⟨e, he⟩ := List.exists_mem_of_ne_nil _ hne
    rw [← hs e he, hsz e he]
  subst hsz'
  have hj : j < es.length * sz' := by
    have := (List.getElem?_eq_some_iff.1 hd).1
    rwa [flat_len hs] at this
  have h2 := hcell j hj
  rw [Nat.zero_add, cell_of_row w b j c T fr hc] at h2
  exact ⟨vs j, h2, h1 j hj, hrr j d hd⟩

theorem app_sizes {es new : List DV} {sz : Nat} (h1 : ∀ e ∈ es, e.cells.length = sz) (h2 : ∀ e ∈ new, e.cells.length = sz) : ∀ e ∈ es ++ new, e.cells.length = sz := by
  intro e he
  rcases List.mem_append.1 he with h | h
  · exact h1 e h
  · exact h2 e h

theorem app_get {es new : List DV} {sz : Nat} (h1 : ∀ e ∈ es, e.cells.length = sz) (j : Nat) : ((es ++ new).flatMap DV.cells)[j]? = if j < es.length * sz then (es.flatMap DV.cells)[j]? else (new.flatMap DV.cells)[j - es.length * sz]? := by
  rw [List.flatMap_append]
  split
  · rename_i h
    rw [List.getElem?_append_left (by rw [flat_len h1]; exact h)]
  · rename_i h
    rw [List.getElem?_append_right (by rw [flat_len h1]; omega), flat_len h1]

theorem exec_append {c : Call} {s x : Operand} {t : TypeId} (hop : o.op = .call c) (hc : c.callee = .builtin .append) (ha : c.args.toList = [s, x]) (ht : c.argTypes.toList = [t, t]) {v : Value}
    (h : (Builtin.append_ #[t, t] o.type #[a.eval s, a.eval x]).run C.P w = .ok v w') : (execOp a.eval o).run C.P w = .ok (.value v) w' := by
  have ha' : c.args = #[s, x] := by rw [← Array.toList_inj, ha]
  have ht' : c.argTypes = #[t, t] := by rw [← Array.toList_inj, ht]
  simp only [execOp, hop, resolve, hc, invoke, builtin, ha', ht', List.map_toArray, List.map_cons, List.map_nil, Sem.run_bind, Sem.run_pure, Result.andThen_ok, h]

theorem grow_drew (w : World) (x : Obj) : Grow w (w.drew.alloc x) := ⟨rfl, rfl, rfl, by simp, fun b hb => by
  show (w.heap.push x)[b]? = _
  rw [Array.getElem?_push, if_neg (Nat.ne_of_lt hb)]⟩
theorem drew_size (w : World) (x : Obj) : (w.drew.alloc x).heap.size = w.heap.size + 1 := by simp
theorem drew_at (w : World) (x : Obj) : (w.drew.alloc x).heap[w.heap.size]? = some x := by
  show (w.heap.push x)[_]? = _
  simp
end
end Go.Abs
namespace Go.Abs
section
variable {C : Ctx} {call : CallT} {fa : FA} {own own' : Own} {st st' : St} {a : Act} {w w' : World} {o : Oper}

theorem turns_new (w : World) (x : Obj) (own : Own) (f : Nat) : Turns w own (fun _ => False) (w.drew.alloc x) w.heap.size f :=
  ⟨rfl, rfl, rfl, (grow_drew w x).size, fun k hk _ => (grow_drew w x).blk k hk, by rw [drew_size]; omega, .inl (Nat.le_refl _)⟩

theorem eff_appendOwn (S : SRel C.P fa own st a w) {c : Call} {s x : Operand} {t : TypeId} {sz : Nat} {es new : List DV} (hop : o.op = .call c) (hc : c.callee = .builtin .append) (ha : c.args.toList = [s, x]) (ht : c.argTypes.toList = [t, t])
    (hes : ownOf st s = some es) (hx : opD st x = some (.slc new)) (hsz : C.elemSize t = some sz) (hs1 : sizesOk sz new = true) (hs2 : sizesOk sz (es.take 1) = true) (hroom : roomOk C t (es.length + new.length) = true)
    (hok : C.elemOk t sz = true) (hp : (st.lose s).putOwn fa o.dst (es ++ new) = some st') : EffWP C.P fa own st.heap st' a w o := by
  obtain ⟨e, i, zv, zd, hu, hi, rfl, hiz, hzs, hpos, _, _, _⟩ := elemOk_spec hsz hok
  obtain ⟨r1, r2⟩ := roomOk_spec hu hi hroom
  have hnew := sizesOk_spec hs1
  have hhead := sizesOk_spec hs2
  obtain ⟨xb, xc, news, hxv, hnl, hf, h1, hnr⟩ := new_rel (C := C) (opD_rel S hx) hnew
  rw [hxv] at hf
  obtain ⟨S1, z, hr, hd⟩ := own_lose S hes
  have hheap := lose_heap st s
  have nget : ∀ (j : Nat) d, (new.flatMap DV.cells)[j]? = some d → ∃ u, news[j]? = some u ∧ u.oneCell' = true ∧ Rep w own u d := by
    intro j d hd
    have hj : j < news.length := by
      rw [hnl, ← flat_len hnew]; exact (List.getElem?_eq_some_iff.1 hd).1
    have hu := List.getElem?_eq_getElem hj
    exact ⟨_, hu, h1 _ (List.mem_of_getElem? hu), hnr j _ d hu hd⟩
  rcases hr with ⟨rfl, hv⟩ | ⟨b, cap, cc, T, i', hne, hv, hob, hcc, hi', hpos', hle, hmax, hcsz, hrep, hessz⟩
  · by_cases hnn : new = []
    · subst hnn
      have hnews : news = [] := List.eq_nil_of_length_eq_zero (by simpa using hnl)
      subst hnews
      have hrun := exec_append (C := C) hop hc ha ht (by rw [hv, hxv]; exact run_appendNil (ty := o.type) hu hi (hf w rfl))
      exact eff_of_run (own' := own) hrun (S1.putOwn (y := z) (by rw [hheap]; exact S.h) (by rw [hheap]; exact (Grow.refl w).extA own _) (fun z _ _ _ => (Grow.refl w).keep S.h z) (fun t _ => .inl ⟨rfl, rfl⟩) hp) (.refl w own) (by rw [putOwn_heap hp, hheap]; exact (Grow.refl w).extA own _)
    · have hpl : 0 < new.length := List.length_pos_iff.2 hnn
      obtain ⟨nc, c', hrun, hge, hnm, hcs, hget⟩ := run_appendNew (ty := o.type) (n := 0) (cap := 0) (sb := none) (olds := []) hu hi hiz hzs (fun w' _ => run_firstCells_none _ _ _ _ _) (by simp) hnl hf (by omega) (by simpa using r2) (by simpa using r1)
      have hrun' := exec_append (C := C) hop hc ha ht (by rw [hv, hxv]; exact hrun)
      have hkey : ∀ (y : Owner) (own1 : Own), own1 = reOwn own w.heap.size y (new.length * i.size) → ExtA w own (st.lose s).heap (w.drew.alloc (.cells c' e)) own1 (st.lose s).heap →
          OwnRel C.P (w.drew.alloc (.cells c' e)) own1 y (.slice (some ⟨w.heap.size, 0, none⟩) (0 + new.length) nc) ([] ++ new) := by
        intro y own1 ho e'
        refine .inr ⟨w.heap.size, nc, c', e, i, by simpa using hnn, by simp, by rw [ho, reOwn_at]; simp, drew_at w _, hi, hpos, by simpa using hge, hnm, hcs, ?_, by simpa using hnew⟩
        refine row_rep (n := 0 + new.length) (drew_at w _) (by simp) hge (by simpa using hnew) (fun x f hx => by
          rw [ho, reOwn_at] at hx
          simp only [Option.some.injEq, Prod.mk.injEq] at hx
          rw [← hx.2, Nat.zero_add]
          exact Nat.le_refl _) (fun j d hd => ?_)
        simp only [List.nil_append] at hd
        obtain ⟨u, g1, g2, g3⟩ := nget j d hd
        have hj : j < new.length * i.size := by rw [← flat_len hnew]; exact (List.getElem?_eq_some_iff.1 hd).1
        exact ⟨u, by rw [hget j (by simpa using hj)]; simpa using g1, g2, g3.mono e'.ext⟩
      obtain ⟨own', S2, F, E⟩ := S1.turnOwn (dst := o.dst) (v := .slice (some ⟨w.heap.size, 0, none⟩) (0 + new.length) nc) (es := [] ++ new) (turns_new w (.cells c' e) own (new.length * i.size)) (fun _ h => h.elim) (fun y own' _ ho e' => hkey y own' ho e') hp
      exact eff_of_run hrun' S2 F (by rw [← hheap]; exact E)
  · have hii : i'.size = i.size := by
      obtain ⟨x, l, rfl⟩ := List.exists_cons_of_ne_nil hne
      rw [← hessz x (by simp), hhead x (by simp)]
    rw [hii] at hob hcsz hessz
    have hold : ∀ (j : Nat) d, (es.flatMap DV.cells)[j]? = some d → ∃ u, cc[j]? = some u ∧ u.oneCell' = true ∧ Rep w own u d := fun j d hd => own_cells hne hcc hessz (by rw [← hv]; exact hrep) j d hd
    have hall := app_sizes hessz hnew
    have hne' : es ++ new ≠ [] := by simp [hne]
    have hln : (es ++ new).length = es.length + new.length := List.length_append
    have hflt : ∀ (j : Nat) d, ((es ++ new).flatMap DV.cells)[j]? = some d → j < (es.length + new.length) * i.size := fun j d hd => by
      rw [← hln, ← flat_len hall]; exact (List.getElem?_eq_some_iff.1 hd).1
    rcases Nat.lt_or_ge cap (es.length + new.length) with hfull | hin
    · have hfirst := firsts_of_row (C := C) (cap := cap) (n := es.length) (sz := i.size) hcc (by rw [hcsz]; exact Nat.mul_le_mul_right _ hle)
      have hol : (cc.toList.take (es.length * i.size)).length = es.length * i.size := by
        rw [List.length_take, show cc.toList.length = cc.size from rfl, hcsz]; exact Nat.min_eq_left (Nat.mul_le_mul_right _ hle)
      obtain ⟨nc, c', hrun, hge, hnm, hcs, hget⟩ := run_appendNew (ty := o.type) hu hi hiz hzs hfirst hol hnl hf hfull r2 r1
      have hrun' := exec_append (C := C) hop hc ha ht (by rw [hv, hxv]; exact hrun)
      have hkey : ∀ (y : Owner) (own1 : Own), own1 = reOwn own w.heap.size y ((es ++ new).length * i.size) → ExtA w own (st.lose s).heap (w.drew.alloc (.cells c' e)) own1 (st.lose s).heap →
          OwnRel C.P (w.drew.alloc (.cells c' e)) own1 y (.slice (some ⟨w.heap.size, 0, none⟩) (es.length + new.length) nc) (es ++ new) := by
        intro y own1 ho e'
        refine .inr ⟨w.heap.size, nc, c', e, i, hne', by rw [hln], by rw [ho, reOwn_at], drew_at w _, hi, hpos, by rw [hln]; exact hge, hnm, hcs, ?_, hall⟩
        refine row_rep (n := es.length + new.length) (drew_at w _) hln hge hall (fun x f hx => by rw [ho, reOwn_at] at hx; simp only [Option.some.injEq, Prod.mk.injEq] at hx; rw [← hx.2, hln]; exact Nat.le_refl _) (fun j d hd => ?_)
        have hj := hflt j d hd
        rw [app_get hessz] at hd
        rw [hget j hj, List.getElem?_append, hol]
        split at hd
        · rename_i hjl
          obtain ⟨u, g1, g2, g3⟩ := hold j d hd
          rw [if_pos hjl, List.getElem?_take, if_pos hjl]
          exact ⟨u, by simpa using g1, g2, g3.mono e'.ext⟩
        · rename_i hjl
          obtain ⟨u, g1, g2, g3⟩ := nget _ d hd
          rw [if_neg hjl]
          exact ⟨u, g1, g2, g3.mono e'.ext⟩
      obtain ⟨own', S2, F, E⟩ := S1.turnOwn (dst := o.dst) (v := .slice (some ⟨w.heap.size, 0, none⟩) (es.length + new.length) nc) (es := es ++ new) (turns_new w (.cells c' e) own ((es ++ new).length * i.size)) (fun _ h => h.elim) (fun y own' _ ho e' => hkey y own' ho e') hp
      exact eff_of_run hrun' S2 F (by rw [← hheap]; exact E)
    · obtain ⟨c', hrun, hcs, hget⟩ := run_appendIn (ty := o.type) hu hi hcc (fun j _ hj => by simp at hj) hnl (hf w rfl) h1 hin (by rw [hcsz]; exact Nat.le_refl _)
      have hrun' := exec_append (C := C) hop hc ha ht (by rw [hv, hxv]; exact hrun)
      have hT : Turns w own (fun x => x = z) (w.setRow b c') b ((es ++ new).length * i.size) := by
        refine ⟨rfl, rfl, rfl, by rw [size_setRow]; exact Nat.le_refl _, fun k _ hk => setRow_other w b k c' hk, by rw [size_setRow]; exact lt_of_heap hcc, .inr ⟨z, _, hob, rfl, by rw [hln]; exact Nat.mul_le_mul_right _ (by omega), fun j v hj hcv => ?_⟩⟩
        rw [cell_of_row _ b j _ T (0, 0) (setRow_heap w b cc c' T (0, 0) hcc), hget j, if_neg (by omega)]
        rw [cell_of_row w b j cc T (0, 0) hcc] at hcv
        exact hcv
      have hkey : ∀ (y : Owner) (own1 : Own), own1 = reOwn own b y ((es ++ new).length * i.size) → ExtA w own (st.lose s).heap (w.setRow b c') own1 (st.lose s).heap →
          OwnRel C.P (w.setRow b c') own1 y (.slice (some ⟨b, 0, none⟩) (es.length + new.length) cap) (es ++ new) := by
        intro y own1 ho e'
        refine .inr ⟨b, cap, c', T, i', hne', by rw [hln], by rw [ho, reOwn_at, hii], setRow_heap w b cc c' T (0, 0) hcc, hi', hpos', by rw [hln]; exact hin, hmax, by rw [hcs, hcsz, hii], ?_, by rw [hii]; exact hall⟩
        refine row_rep (n := es.length + new.length) (setRow_heap w b cc c' T (0, 0) hcc) hln hin hall (fun x f hx => by rw [ho, reOwn_at] at hx; simp only [Option.some.injEq, Prod.mk.injEq] at hx; rw [← hx.2, hln]; exact Nat.le_refl _) (fun j d hd => ?_)
        have hj := hflt j d hd
        rw [app_get hessz] at hd
        rw [hget j]
        rw [Nat.add_mul] at hj
        split at hd
        · rename_i hjl
          obtain ⟨u, g1, g2, g3⟩ := hold j d hd
          rw [if_neg (by omega)]
          exact ⟨u, g1, g2, g3.mono e'.ext⟩
        · rename_i hjl
          obtain ⟨u, g1, g2, g3⟩ := nget _ d hd
          rw [if_pos (by omega)]
          exact ⟨u, g1, g2, g3.mono e'.ext⟩
      obtain ⟨own', S2, F, E⟩ := S1.turnOwn (dst := o.dst) (v := .slice (some ⟨b, 0, none⟩) (es.length + new.length) cap) (es := es ++ new) hT (fun y hy => by rw [hy]; exact hd) (fun y own' _ ho e' => hkey y own' ho e') hp
      exact eff_of_run hrun' S2 F (by rw [← hheap]; exact E)
end
end Go.Abs
namespace Go.Abs
section
variable {C : Ctx} {call : CallT} {fa : FA} {own own' : Own} {st st' : St} {a : Act} {w w' : World} {o : Oper}

theorem eff_litTake (S : SRel C.P fa own st a w) {t : TypeId} {n : Nat} {ps : Array (Nat × Operand)} {es : List DV} (hop : o.op = .buildSlice t n ps)
    (he : evBuildSlice C t n st ps.toList = some es) (hp : st.putOwn fa o.dst es = some st') : EffWP C.P fa own st.heap st' a w o := by
  obtain ⟨e, inf, c, hu, hi, hs0, hn, hn0, hmax, hcs, hsz, h1, h2, hrun⟩ := run_lit S hop he
  have g := Grow.alloc w (.cells c e)
  have hT : Turns w own (fun _ => False) (w.alloc (.cells c e)) w.heap.size (es.length * inf.size) :=
    ⟨rfl, rfl, rfl, g.size, fun k hk _ => g.blk k hk, by rw [alloc_size]; omega, .inl (Nat.le_refl _)⟩
  have hne : es ≠ [] := by rintro rfl; simp at hn; omega
  have hkey : ∀ (y : Owner) (own1 : Own), own1 = reOwn own w.heap.size y (es.length * inf.size) → ExtA w own st.heap (w.alloc (.cells c e)) own1 st.heap →
      OwnRel C.P (w.alloc (.cells c e)) own1 y (.slice (some ⟨w.heap.size, 0, none⟩) n n) es := by
    intro y own1 ho e'
    refine .inr ⟨w.heap.size, n, c, e, inf, hne, by rw [hn], by rw [ho, reOwn_at], alloc_at w _, hi, hs0, by omega, by simp only [maxLen]; omega, hcs, ?_, hsz⟩
    refine row_rep (alloc_at w _) hn (Nat.le_refl _) hsz (fun x f hx => by
      rw [ho, reOwn_at] at hx
      simp only [Option.some.injEq, Prod.mk.injEq] at hx
      rw [← hx.2, hn]
      exact Nat.le_refl _) (fun j d hd => ?_)
    have hj : j < n * inf.size := by rw [← hn, ← flat_len hsz]; exact (List.getElem?_eq_some_iff.1 hd).1
    have hjc : j < c.size := by omega
    have hu := Array.getElem?_eq_getElem hjc
    exact ⟨_, hu, h1 j _ hu, (h2 j _ d hu hd).mono e'.ext⟩
  obtain ⟨own', S2, F, E⟩ := S.turnOwn (dst := o.dst) (v := .slice (some ⟨w.heap.size, 0, none⟩) n n) (es := es) hT (fun _ h => h.elim) (fun y own' _ ho e' => hkey y own' ho e') hp
  exact eff_of_run hrun S2 F E

theorem dcells (d : DV) : (AV.d d).cells = d.cells.map .d := by cases d <;> rfl
theorem dflat (l : List DV) : (l.map AV.d).flatMap AV.cells = (l.flatMap DV.cells).map .d := by
  rw [List.flatMap_map, List.map_flatMap]
  congr 1
  funext y
  exact dcells y
theorem dsizes {l : List DV} {sz : Nat} (h : ∀ e ∈ l, e.cells.length = sz) : ∀ e ∈ l.map AV.d, e.cells.length = sz := by
  intro e he
  obtain ⟨d, hd, rfl⟩ := List.mem_map.1 he
  rw [dcells, List.length_map, h d hd]

theorem eff_appendHeapy (S : SRel C.P fa own st a w) {c : Call} {s x : Operand} {t : TypeId} {sz : Nat} {new : List DV} (hop : o.op = .call c) (hc : c.callee = .builtin .append) (ha : c.args.toList = [s, x]) (ht : c.argTypes.toList = [t, t])
    (hes : ownOf st s = some []) (hx : opD st x = some (.slc new)) (hnn : new ≠ []) (hsz : C.elemSize t = some sz) (hs1 : sizesOk sz new = true) (hroom : roomOk C t new.length = true)
    (hok : C.elemOk t sz = true) (hp : St.put fa { (st.lose s) with heap := st.heap ++ [AObj.arr 0 true (new.map AV.d)] } o.dst (.a (.osl st.heap.length 0 new.length)) = some st') : EffWP C.P fa own st.heap st' a w o := by
  obtain ⟨e, i, zv, zd, hu, hi, rfl, hiz, hzs, hpos, _, _, _⟩ := elemOk_spec hsz hok
  obtain ⟨r1, r2⟩ := roomOk_spec hu hi hroom
  have hnew := sizesOk_spec hs1
  obtain ⟨xb, xc, news, hxv, hnl, hf, h1, hnr⟩ := new_rel (C := C) (opD_rel S hx) hnew
  rw [hxv] at hf
  obtain ⟨S1, z, hr, hd⟩ := own_lose S hes
  have hheap := lose_heap st s
  have hpl : 0 < new.length := List.length_pos_iff.2 hnn
  rcases hr with ⟨_, hv⟩ | ⟨b, cap, cc, T, i', hne, _⟩
  · obtain ⟨nc, c', hrun, hge, hnm, hcs, hget⟩ := run_appendNew (ty := o.type) (n := 0) (cap := 0) (sb := none) (olds := []) hu hi hiz hzs (fun w' _ => run_firstCells_none _ _ _ _ _) (by simp) hnl hf (by omega) (by simpa using r2) (by simpa using r1)
    have hrun' := exec_append (C := C) hop hc ha ht (by rw [hv, hxv]; exact hrun)
    have g := grow_drew w (.cells c' e)
    rw [← hheap] at hp
    have S2 := S1.newObj g (by rw [drew_size]; omega) (x := .arr 0 true (new.map AV.d)) (fun own' e' _ => by
      refine ⟨c', e, (0, 0), i, drew_at w _, hi, (fun j _ hj => by simp at hj), (fun _ => ⟨rfl, fun h => by simp at h; exact absurd h hnn⟩), dsizes hnew, hpos, ?_, fun j y hy => ?_⟩
      · rw [List.length_map, hcs]; exact Nat.mul_le_mul_right _ (by omega)
      · rw [dflat, List.getElem?_map, Option.map_eq_some_iff] at hy
        obtain ⟨d, hd, rfl⟩ := hy
        have hj : j < new.length * i.size := by rw [← flat_len hnew]; exact (List.getElem?_eq_some_iff.1 hd).1
        have hjn : j < news.length := by omega
        have hu := List.getElem?_eq_getElem hjn
        exact ⟨_, by rw [hget j (by rw [Nat.zero_add]; exact hj)]; exact hu, h1 _ (List.mem_of_getElem? hu), .d _ _ ((hnr j _ d hu hd).mono e'.ext)⟩)
    refine eff_of_run hrun' (S2.1.put (fun t' _ => ?_) hp) (new_frm g _) (by rw [put_heap hp, ← hheap]; exact S2.2)
    simp only [Nat.zero_add]
    refine .osl _ _ _ _ (by simp) ⟨_, _, rfl⟩ (fun g' ap es h => Nat.zero_le _) (fun ap es h => ?_)
    exact ⟨w.heap.size, _, _, e, _, i, rfl, by simp [upd], drew_at w _, hi, hcs⟩
  · exact absurd rfl hne

theorem headOk_spec {sz : Nat} {es : List AV} (h : headOk sz es = true) : ∀ x l, es = x :: l → x.cells.length = sz := by
  intro x l he
  subst he
  exact Nat.eq_of_beq_eq_true h

theorem eff_appendOsl (S : SRel C.P fa own st a w) {c : Call} {s x : Operand} {t : TypeId} {sz id g : Nat} {es : List AV} {new : List DV} (hop : o.op = .call c) (hc : c.callee = .builtin .append) (ha : c.args.toList = [s, x]) (ht : c.argTypes.toList = [t, t])
    (hs : opA st s = some (.osl id g es.length)) (ho : st.heap[id]? = some (.arr g true es)) (hx : opD st x = some (.slc new)) (hsz : C.elemSize t = some sz) (hs1 : sizesOk sz new = true) (hs2 : headOk sz es = true)
    (hroom : roomOk C t (es.length + new.length) = true) (hok : C.elemOk t sz = true)
    (hp : St.put fa { st with heap := st.heap.set id (.arr (g + 1) true (es ++ new.map AV.d)) } o.dst (.a (.osl id (g + 1) (es.length + new.length))) = some st') : EffWP C.P fa own st.heap st' a w o := by
  obtain ⟨e, i, zv, zd, hu, hi, rfl, hiz, hzs, hpos, _, _, _⟩ := elemOk_spec hsz hok
  obtain ⟨r1, r2⟩ := roomOk_spec hu hi hroom
  have hnew := sizesOk_spec hs1
  obtain ⟨xb, xc, news, hxv, hnl, hf, h1, hnr⟩ := new_rel (C := C) (opD_rel S hx) hnew
  rw [hxv] at hf
  obtain ⟨hid, _, _, hl⟩ := (opA_rel S hs).osl_inv
  obtain ⟨b, cap, cc, T, fr, i', hv, hob, hcc, hi', hcsz⟩ := hl true es ho
  obtain ⟨c2, T2, fr2, i2, hc2, hi2, hnf, hap, hessz, hpos', hle, hcells⟩ := S.h.objAt ho hob
  rw [hcc] at hc2
  simp only [Option.some.injEq, Obj.cells.injEq] at hc2
  obtain ⟨rfl, rfl, rfl⟩ := hc2
  rw [hi'] at hi2
  simp only [Option.some.injEq] at hi2
  subst hi2
  obtain ⟨hfr, hempty⟩ := hap rfl
  subst hfr
  have hcap : es.length ≤ cap := by
    have : es.length * i'.size ≤ cap * i'.size := by rw [← hcsz]; exact hle
    exact Nat.le_of_mul_le_mul_right this hpos'
  -- either there is nothing yet, or the sizes are one
  have hsize : (es = [] ∧ cap = 0) ∨ i'.size = i.size := by
    cases hee : es with
    | nil =>
      left
      refine ⟨rfl, ?_⟩
      have := hempty hee
      rw [hcsz] at this
      rcases Nat.mul_eq_zero.1 this with h | h
      · exact h
      · omega
    | cons x l =>
      right
      rw [← hessz x (by rw [hee]; simp), headOk_spec hs2 x l hee]
  have hgs : ∀ k, (st.heap.set id (.arr (g + 1) true (es ++ new.map AV.d)))[k]? = if k = id then some (.arr (g + 1) true (es ++ new.map AV.d)) else st.heap[k]? := by
    intro k
    rw [List.getElem?_set]
    by_cases hk : k = id
    · subst hk; simp [hid]
    · rw [if_neg (Ne.symm hk), if_neg hk]
  have hlater : ∀ (k : Nat) (y y' : AObj), st.heap[k]? = some y → (st.heap.set id (.arr (g + 1) true (es ++ new.map AV.d)))[k]? = some y' → y.later y' := by
    intro k y y' h1 h2
    rw [hgs k] at h2
    split at h2
    · rename_i hk; subst hk; rw [ho] at h1; simp only [Option.some.injEq] at h1 h2; subst h1; subst h2; exact ⟨Nat.le_succ g, rfl⟩
    · rw [h1] at h2; simp only [Option.some.injEq] at h2; subst h2; exact AObj.later_refl y
  have hln : (es ++ new.map AV.d).length = es.length + new.length := by simp
  have hall : i'.size = i.size → ∀ x ∈ es ++ new.map AV.d, x.cells.length = i.size := by
    intro hii x hx
    rcases List.mem_append.1 hx with h | h
    · rw [hessz x h, hii]
    · exact dsizes hnew x h
  have hfin : ∀ {w1 : World} {own1 : Own} {b1 cap1 : Nat} {c1 : Array Value} {T1 : TypeId} {i1 : TypeInfo}, SRel C.P fa own1 { st with heap := st.heap.set id (.arr (g + 1) true (es ++ new.map AV.d)) } a w1 → own1 b1 = some (.obj id, 0) →
      w1.heap[b1]? = some (.cells c1 T1 (0, 0)) → C.P.info? T1 = some i1 → c1.size = cap1 * i1.size → SRel C.P fa own1 st' (a.put o.dst (.slice (some ⟨b1, 0, none⟩) (es.length + new.length) cap1)) w1 := by
    intro w1 own1 b1 cap1 c1 T1 i1 S1 e1 e2 e3 e4
    refine S1.put (fun t' _ => ?_) hp
    refine .osl _ _ _ _ (by simpa using hid) ⟨_, _, rfl⟩ (fun g' ap es' h => ?_) (fun ap es' h => ⟨b1, cap1, c1, T1, (0, 0), i1, rfl, e1, e2, e3, e4⟩)
    simp only at h
    rw [hgs id, if_pos rfl] at h
    simp only [Option.some.injEq, AObj.arr.injEq] at h
    rw [h.1]; exact Nat.le_refl _
  have nget : ∀ (j : Nat) d, (new.flatMap DV.cells)[j]? = some d → ∃ u, news[j]? = some u ∧ u.oneCell' = true ∧ Rep w own u d := by
    intro j d hd
    have hj : j < news.length := by
      rw [hnl, ← flat_len hnew]; exact (List.getElem?_eq_some_iff.1 hd).1
    have hu := List.getElem?_eq_getElem hj
    exact ⟨_, hu, h1 _ (List.mem_of_getElem? hu), hnr j _ d hu hd⟩
  -- what the new row holds
  have hrow : ∀ {w1 : World} {own1 : Own} {c1 : Array Value}, ExtA w own st.heap w1 own1 (st.heap.set id (.arr (g + 1) true (es ++ new.map AV.d))) →
      (∀ j : Nat, j < es.length * i'.size → c1[j]? = cc[j]?) → (∀ j : Nat, j < new.length * i.size → c1[es.length * i'.size + j]? = news[j]?) →
      ∀ (j : Nat) y, ((es ++ new.map AV.d).flatMap AV.cells)[j]? = some y → ∃ v, c1[j]? = some v ∧ v.oneCell' = true ∧ ARep C.P w1 own1 (st.heap.set id (.arr (g + 1) true (es ++ new.map AV.d))) v y := by
    intro w1 own1 c1 e' ho1 hn1 j y hy
    rw [List.flatMap_append, List.getElem?_append, flat_len hessz] at hy
    split at hy
    · rename_i hj
      obtain ⟨v, g1, g2, g3⟩ := hcells j y hy
      exact ⟨v, by rw [ho1 j hj, g1], g2, g3.mono e'⟩
    · rename_i hj
      rw [dflat, List.getElem?_map, Option.map_eq_some_iff] at hy
      obtain ⟨d, hd, rfl⟩ := hy
      obtain ⟨u, g1, g2, g3⟩ := nget _ d hd
      have hlt : j - es.length * i'.size < new.length * i.size := by rw [← flat_len hnew]; exact (List.getElem?_eq_some_iff.1 hd).1
      refine ⟨u, ?_, g2, .d _ _ (g3.mono e'.ext)⟩
      rw [← hn1 _ hlt] at g1
      rw [← g1]
      congr 1
      omega
  rcases Nat.lt_or_ge cap (es.length + new.length) with hfull | hin
  · -- a new block
    have heqs : es.length * i'.size = es.length * i.size := by
      rcases hsize with ⟨rfl, _⟩ | h
      · simp
      · rw [h]
    have hol : (cc.toList.take (es.length * i.size)).length = es.length * i.size := by
      rw [List.length_take, show cc.toList.length = cc.size from rfl]
      exact Nat.min_eq_left (by rw [← heqs]; exact hle)
    have hfirst := firsts_of_row (C := C) (cap := cap) (n := es.length) (sz := i.size) hcc (by rw [← heqs]; exact hle)
    obtain ⟨nc, c', hrun, hge, hnm, hcs, hget⟩ := run_appendNew (ty := o.type) hu hi hiz hzs hfirst hol hnl hf hfull r2 r1
    have hrun' := exec_append (C := C) hop hc ha ht (by rw [hv, hxv]; exact hrun)
    have hT := turns_new w (.cells c' e) own 0
    have e1 := hT.extA' (y := .obj id) (h' := st.heap.set id (.arr (g + 1) true (es ++ new.map AV.d))) S.h (fun _ h => h) (fun k y y' h1 h2 h3 hk => by
      cases hk
      rw [hgs id, if_pos rfl] at h2
      rw [ho] at h1
      simp only [Option.some.injEq] at h1 h2
      subst h1; subst h2
      simp only [AObj.stays] at h3
      omega) (by simp) hlater
    refine eff_of_run (own' := reOwn own w.heap.size (.obj id) 0) hrun' (hfin (S.heapStep ⟨fun k y hy => ?_, hT.uniq S.h, hT.lt S.h, fun k id' f hk => ?_⟩ e1 (fun y hy => hT.keep S.h (fun h => h) (hy id))) (reOwn_at _ _ _ _) (drew_at w _) hi hcs) (hT.frm (fun h => h) (by simp)) (by rw [put_heap hp]; exact e1)
    · rw [hgs k] at hy
      split at hy
      · rename_i hk
        subst hk
        simp only [Option.some.injEq] at hy
        subst hy
        have hszs : ∀ x ∈ es ++ new.map AV.d, x.cells.length = i.size := by
          rcases hsize with ⟨rfl, _⟩ | h
          · simpa using dsizes hnew
          · exact hall h
        refine ⟨w.heap.size, reOwn_at _ _ _ _, c', e, (0, 0), i, drew_at w _, hi, (fun j _ hj => by simp at hj), (fun _ => ⟨rfl, fun h => ?_⟩), hszs, hpos, by rw [hln, hcs]; exact Nat.mul_le_mul_right _ hge, hrow e1 (fun j hj => ?_) (fun j hj => ?_)⟩
        · have : es.length + new.length = 0 := by rw [← hln, h]; rfl
          omega
        · rw [heqs] at hj
          rw [hget j (by rw [Nat.add_mul]; omega), List.getElem?_append_left (by rw [hol]; exact hj), List.getElem?_take, if_pos hj]
          simp
        · rw [heqs, hget _ (by rw [Nat.add_mul]; omega), List.getElem?_append_right (by rw [hol]; omega), hol]
          congr 1
          omega
      · rename_i hk
        obtain ⟨q, hq, hr⟩ := S.h.obj k y hy
        obtain ⟨k1, k2⟩ := hT.keep (y := .obj id) S.h (fun h => h) (by simpa using hk) q 0 hq
        exact ⟨q, k1, hr.mono e1 k2⟩
    · rcases reOwn_cases hk with ⟨_, h2, h3⟩ | ⟨_, h2, _⟩
      · simp only [Owner.obj.injEq] at h2; subst h2; exact ⟨by simpa using hid, h3⟩
      · have := S.h.idlt k id' f h2; exact ⟨by simpa using this.1, this.2⟩
  · -- in place
    rcases hsize with ⟨rfl, rfl⟩ | hii
    · have : new = [] := List.eq_nil_of_length_eq_zero (by simpa using hin)
      subst this
      have hnews : news = [] := List.eq_nil_of_length_eq_zero (by simpa using hnl)
      subst hnews
      obtain ⟨c', hrun, hcs, hget⟩ := run_appendIn (ty := o.type) (n := 0) (cap := 0) hu hi hcc hnf hnl (hf w rfl) h1 hin (by simp)
      have hrun' := exec_append (C := C) hop hc ha ht (by rw [hv, hxv]; exact hrun)
      have e1 := row_ext (h := st.heap) (h' := st.heap.set id (.arr (g + 1) true ([] ++ [].map AV.d))) hob hcc hcs (by simp) hlater
      refine eff_of_run (own' := own) hrun' (hfin (S.heapStep ⟨fun k y hy => ?_, S.h.uniq, fun k z hz => by rw [size_setRow]; exact S.h.lt k z hz, fun k id' f hk => by have := S.h.idlt k id' f hk; exact ⟨by simpa using this.1, this.2⟩⟩ e1
        (fun y hy => row_keep hob y (hy id))) hob (setRow_heap w b cc c' T (0, 0) hcc) hi' (by rw [hcs, hcsz])) (row_frm hob (by simp)) (by rw [put_heap hp]; exact e1)
      rw [hgs k] at hy
      split at hy
      · rename_i hk
        subst hk
        simp only [Option.some.injEq] at hy
        subst hy
        exact ⟨b, hob, c', T, (0, 0), i', setRow_heap w b cc c' T (0, 0) hcc, hi', (fun j _ hj => by simp at hj), (fun _ => ⟨rfl, fun _ => by rw [hcs, hcsz]; simp⟩), (fun x hx => by simp at hx), hpos', by simp, fun j y hy => by simp at hy⟩
      · rename_i hk
        obtain ⟨q, hq, hr⟩ := S.h.obj k y hy
        exact ⟨q, hq, hr.mono e1 (row_keep hob _ (by simpa using hk) q 0 hq).2⟩
    · obtain ⟨c', hrun, hcs, hget⟩ := run_appendIn (ty := o.type) hu hi hcc hnf hnl (hf w rfl) h1 hin (by rw [hcsz, hii]; exact Nat.le_refl _)
      have hrun' := exec_append (C := C) hop hc ha ht (by rw [hv, hxv]; exact hrun)
      have e1 := row_ext (h := st.heap) (h' := st.heap.set id (.arr (g + 1) true (es ++ new.map AV.d))) hob hcc hcs (by simp) hlater
      refine eff_of_run (own' := own) hrun' (hfin (S.heapStep ⟨fun k y hy => ?_, S.h.uniq, fun k z hz => by rw [size_setRow]; exact S.h.lt k z hz, fun k id' f hk => by have := S.h.idlt k id' f hk; exact ⟨by simpa using this.1, this.2⟩⟩ e1
        (fun y hy => row_keep hob y (hy id))) hob (setRow_heap w b cc c' T (0, 0) hcc) hi' (by rw [hcs, hcsz])) (row_frm hob (by simp)) (by rw [put_heap hp]; exact e1)
      rw [hgs k] at hy
      split at hy
      · rename_i hk
        subst hk
        simp only [Option.some.injEq] at hy
        subst hy
        refine ⟨b, hob, c', T, (0, 0), i', setRow_heap w b cc c' T (0, 0) hcc, hi', (fun j _ hj => by simp at hj), (fun _ => ⟨rfl, fun h => ?_⟩), by rw [hii]; exact hall hii, hpos', by rw [hln, hcs, hcsz]; exact Nat.mul_le_mul_right _ hin, hrow e1 (fun j hj => ?_) (fun j hj => ?_)⟩
        · have h0 : es.length = 0 ∧ new.length = 0 := by
            have : es.length + new.length = 0 := by rw [← hln, h]; rfl
            omega
          rw [hcs]
          exact hempty (List.eq_nil_of_length_eq_zero h0.1)
        · rw [hget j, if_neg (by rw [← hii]; omega)]
        · rw [hget _, if_pos (by rw [hii]; omega), hii]
          congr 1
          omega
      · rename_i hk
        obtain ⟨q, hq, hr⟩ := S.h.obj k y hy
        exact ⟨q, hq, hr.mono e1 (row_keep hob _ (by simpa using hk) q 0 hq).2⟩
end
end Go.Abs
namespace Go.Abs
section
variable {C : Ctx} {call : CallT} {fa : FA} {own own' own1 : Own} {st st' : St} {a : Act} {w w' w1 : World} {o : Oper} {h h' h1 hc : List AObj}

theorem AObj.later_trans {x y z : AObj} (h1 : x.later y) (h2 : y.later z) : x.later z := by
  cases x <;> cases y <;> cases z <;> first | exact h1.elim | exact h2.elim | exact ⟨Nat.le_trans h1.1 h2.1, h1.2.trans h2.2⟩ | exact trivial
theorem AObj.stays_mid {x y z : AObj} (h1 : x.later y) (h2 : y.later z) (h3 : x.stays z) : x.stays y ∧ y.stays z := by
  cases x <;> cases y <;> cases z <;> first | exact h1.elim | exact h2.elim | exact ⟨trivial, trivial⟩ | (
    have e1 := h1.1
    have e2 := h2.1
    simp only [AObj.stays] at h3 ⊢
    omega)
theorem ExtA.trans (e : ExtA w own h w1 own1 h1) (e' : ExtA w1 own1 h1 w' own' h') : ExtA w own h w' own' h' := by
  have mid : ∀ (id : Nat) (x : AObj), h[id]? = some x → ∃ y, h1[id]? = some y := fun id x hx => by
    have := (List.getElem?_eq_some_iff.1 hx).1
    exact ⟨h1[id]'(Nat.lt_of_lt_of_le this e.len), List.getElem?_eq_getElem _⟩
  refine ⟨e.ext.trans e'.ext, Nat.le_trans e.len e'.len, fun id x z hx hz => ?_, fun b id x z hb hx hz hs => ?_⟩
  · obtain ⟨y, hy⟩ := mid id x hx
    exact AObj.later_trans (e.kind id x y hx hy) (e'.kind id y z hy hz)
  · obtain ⟨y, hy⟩ := mid id x hx
    obtain ⟨s1, s2⟩ := AObj.stays_mid (e.kind id x y hx hy) (e'.kind id y z hy hz) hs
    obtain ⟨b1, b2⟩ := e.blk b id x y hb hx hy s1
    obtain ⟨b3, b4⟩ := e'.blk b id y z b1 hy hz s2
    refine ⟨b3, fun c T fr hcc => ?_⟩
    obtain ⟨c1, g1, g2⟩ := b2 c T fr hcc
    obtain ⟨c2, g3, g4⟩ := b4 c1 T fr g1
    exact ⟨c2, g3, by rw [g4, g2]⟩

/-! what a callee made is taken over under new numbers -/
theorem shiftL_get (k : Nat) : ∀ (as : List AV) (i : Nat), (AV.shiftL k as)[i]? = (as[i]?).map (AV.shift k) := by
  intro as
  induction as with
  | nil => intro i; simp [AV.shiftL]
  | cons a as ih => intro i; cases i with
    | zero => simp [AV.shiftL]
    | succ i => simp [AV.shiftL, ih]
theorem shiftL_len (k : Nat) (as : List AV) : (AV.shiftL k as).length = as.length := by
  induction as with
  | nil => rfl
  | cons a as ih => simp [AV.shiftL, ih]
theorem shift_cells (k : Nat) (v : AV) : (v.shift k).cells = v.cells.map (AV.shift k) := by
  cases v with
  | d x => cases x <;> simp [AV.shift, AV.cells]
  | _ => simp [AV.shift, AV.cells]

structure Shifts (w : World) (own1 own' : Own) (h hc : List AObj) : Prop where
  ext : Ext w own1 w own'
  obj : ∀ id b, own1 b = some (.obj id, 0) → own' b = some (.obj (id + h.length), 0)

theorem shift_at (h hc : List AObj) (id : Nat) {x : AObj} (hx : (h ++ hc.map (AObj.shift h.length))[id + h.length]? = some x) : ∃ y, hc[id]? = some y ∧ x = y.shift h.length := by
  rw [List.getElem?_append_right (by omega), Nat.add_sub_cancel, List.getElem?_map, Option.map_eq_some_iff] at hx
  obtain ⟨y, hy, e⟩ := hx
  exact ⟨y, hy, e.symm⟩

theorem ARep.shifted {P : Program} (T : Shifts w own1 own' h hc) {v : Value} {x : AV} (r : ARep P w own1 hc v x) : ARep P w own' (h ++ hc.map (AObj.shift h.length)) v (x.shift h.length) := by
  induction r with
  | d v x hr => exact .d v x (hr.mono T.ext)
  | ptr v id off hid hl hv =>
    refine .ptr v _ off (by simp; omega) (fun cs hcs => ?_) hv
    obtain ⟨y, hy, e⟩ := shift_at h hc id hcs
    cases y <;> simp only [AObj.shift] at e <;> try (cases e; done)
    obtain ⟨b, hb, hv'⟩ := hl _ hy
    exact ⟨b, T.obj _ _ hb, hv'⟩
  | osl v id g n hid hv hg hl =>
    refine .osl v _ g n (by simp; omega) hv (fun g' ap es hes => ?_) (fun ap es hes => ?_)
    · obtain ⟨y, hy, e⟩ := shift_at h hc id hes
      cases y <;> simp only [AObj.shift] at e <;> try (cases e; done)
      simp only [AObj.arr.injEq] at e
      rw [e.1]
      exact hg _ _ _ hy
    · obtain ⟨y, hy, e⟩ := shift_at h hc id hes
      cases y <;> simp only [AObj.shift] at e <;> try (cases e; done)
      simp only [AObj.arr.injEq] at e
      obtain ⟨rfl, rfl, rfl⟩ := e
      obtain ⟨b, cap, c, T', fr, i, hv', hb, rest⟩ := hl _ _ hy
      exact ⟨b, cap, c, T', fr, i, hv', T.obj _ _ hb, rest⟩
  | mp v id hid hl hv =>
    refine .mp v _ (by simp; omega) (fun cs hcs => ?_) hv
    obtain ⟨y, hy, e⟩ := shift_at h hc id hcs
    cases y <;> simp only [AObj.shift] at e <;> try (cases e; done)
    obtain ⟨b, hb, hv'⟩ := hl _ hy
    exact ⟨b, T.obj _ _ hb, hv'⟩
  | fn f cs as hl hh ih =>
    refine .fn f cs _ (by rw [shiftL_len, hl]) fun i v y hv hy => ?_
    rw [shiftL_get, Option.map_eq_some_iff] at hy
    obtain ⟨z, hz, rfl⟩ := hy
    exact ih i v z hv hz
  | tup cs as hl hh ih =>
    refine .tup cs _ (by rw [shiftL_len, hl]) fun i v y hv hy => ?_
    rw [shiftL_get, Option.map_eq_some_iff] at hy
    obtain ⟨z, hz, rfl⟩ := hy
    exact ih i v z hv hz
  | raw v h1 => exact .raw v h1

theorem flat_shift (k : Nat) (es : List AV) : (es.map (AV.shift k)).flatMap AV.cells = (es.flatMap AV.cells).map (AV.shift k) := by
  rw [List.flatMap_map, List.map_flatMap]
  congr 1
  funext y
  exact shift_cells k y

theorem ORel.shifted {P : Program} (T : Shifts w own1 own' h hc) {b : Nat} {x : AObj} (r : ORel P w own1 hc b x) : ORel P w own' (h ++ hc.map (AObj.shift h.length)) b (x.shift h.length) := by
  cases x with
  | arr g ap es =>
    obtain ⟨c, T', fr, i, h1, h2, h3, h4, h5, h6, h7, h8⟩ := r
    refine ⟨c, T', fr, i, h1, h2, h3, fun hap => ⟨(h4 hap).1, fun he => (h4 hap).2 (List.map_eq_nil_iff.1 he)⟩, fun e he => ?_, h6, by simpa using h7, fun j y hy => ?_⟩
    · obtain ⟨e', he', rfl⟩ := List.mem_map.1 he
      rw [shift_cells, List.length_map, h5 e' he']
    · rw [flat_shift, List.getElem?_map, Option.map_eq_some_iff] at hy
      obtain ⟨z, hz, rfl⟩ := hy
      obtain ⟨v, g1, g2, g3⟩ := h8 j z hz
      exact ⟨v, g1, g2, g3.shifted T⟩
  | var cs =>
    obtain ⟨c, T', fr, h1, h2, h3, h4⟩ := r
    refine ⟨c, T', fr, h1, h2, by simpa using h3, fun j y hy => ?_⟩
    rw [List.getElem?_map, Option.map_eq_some_iff] at hy
    obtain ⟨z, hz, rfl⟩ := hy
    obtain ⟨v, g1, g2, g3⟩ := h4 j z hz
    exact ⟨v, g1, g2, g3.shifted T⟩
  | map es =>
    obtain ⟨m, cl, h1, hst, h2, h3⟩ := r
    refine ⟨m, cl, h1, hst, by simpa using h2, fun j e y he hy => ?_⟩
    rw [List.getElem?_map, Option.map_eq_some_iff] at hy
    obtain ⟨z, hz, rfl⟩ := hy
    obtain ⟨g1, g2⟩ := h3 j e z he hz
    exact ⟨g1.mono T.ext, g2.shifted T⟩

/-- whose it is after a call that was given data alone -/
def ownA (own own1 : Own) (n k : Nat) : Own := fun b => if b < n then own b else match own1 b with
  | some (.obj id, f) => some (.obj (id + k), f)
  | x => x
theorem ownA_old {own own1 : Own} {n k b : Nat} (h : b < n) : ownA own own1 n k b = own b := by simp [ownA, h]
theorem ownA_new {own own1 : Own} {n k b : Nat} (h : ¬ b < n) : (ownA own own1 n k b = none ∧ own1 b = none) ∨ (∃ id f, ownA own own1 n k b = some (.obj (id + k), f) ∧ own1 b = some (.obj id, f)) ∨
    ∃ x f, ownA own own1 n k b = some (x, f) ∧ own1 b = some (x, f) ∧ ∀ id, x ≠ .obj id := by
  cases hb : own1 b with
  | none => exact .inl ⟨by simp [ownA, h, hb], rfl⟩
  | some y =>
    obtain ⟨x, f⟩ := y
    cases x with
    | obj id => exact .inr (.inl ⟨id, f, by simp [ownA, h, hb], rfl⟩)
    | _ => exact .inr (.inr ⟨_, f, by simp [ownA, h, hb], rfl, by simp⟩)

abbrev noneLent : Nat → Bool := fun _ => false
theorem ownNone_some {b : Nat} {x : Owner} {f : Nat} (h : own b = some (x, f)) : ownData noneLent own b = some (.ext, f) := by
  rcases ownData_cases noneLent own b with ⟨h2, _⟩ | ⟨_, _, _, h3, _⟩ | ⟨x', f', h2, h3, _⟩
  · rw [h2] at h; cases h
  · cases h3
  · rw [h2] at h
    simp only [Option.some.injEq, Prod.mk.injEq] at h
    rw [h3, h.2]

theorem adopt (H : HRel C.P w own h) (H1 : HRel C.P w' own1 hc) (hO : onlyOE own1) (F : Frm w (ownData noneLent own) w' own1) :
    HRel C.P w' (ownA own own1 w.heap.size h.length) (h ++ hc.map (AObj.shift h.length)) ∧ ExtA w own h w' (ownA own own1 w.heap.size h.length) (h ++ hc.map (AObj.shift h.length)) ∧
      (∀ z, Keep w own w' (ownA own own1 w.heap.size h.length) z) ∧ Frm w own w' (ownA own own1 w.heap.size h.length) ∧ Shifts w' own1 (ownA own own1 w.heap.size h.length) h hc := by
  have g := ownData_grow F
  have back := fun b hb => ownData_back F b hb
  have keep : ∀ z, Keep w own w' (ownA own own1 w.heap.size h.length) z := fun z b f hb => by
    have hlt := H.lt b _ hb
    exact ⟨by rw [ownA_old hlt, hb], g.blk b hlt⟩
  have newObj : ∀ b id f, own1 b = some (.obj id, f) → ¬ b < w.heap.size := by
    intro b id f hb hlt
    rw [back b hlt] at hb
    rcases ownData_cases noneLent own b with ⟨_, h2⟩ | ⟨_, _, _, h3, _⟩ | ⟨_, _, _, h3, _⟩
    · rw [h2] at hb; cases hb
    · cases h3
    · rw [h3] at hb; simp at hb
  have sh : Shifts w' own1 (ownA own own1 w.heap.size h.length) h hc := by
    refine ⟨⟨fun b i v hv hp => ⟨hv, fun x f hx => ?_⟩, fun b es c hm hn => ⟨hm, ?_⟩⟩, fun id b hb => ?_⟩
    · by_cases hlt : b < w.heap.size
      · rw [ownA_old hlt] at hx
        exact hp .ext f (by rw [back b hlt]; exact ownNone_some hx)
      · rcases ownA_new (own := own) (own1 := own1) (k := h.length) hlt with ⟨h2, _⟩ | ⟨id, f', h2, h3⟩ | ⟨x', f', h2, h3, _⟩
        · rw [h2] at hx; cases hx
        · rw [h2] at hx; simp only [Option.some.injEq, Prod.mk.injEq] at hx; rw [← hx.2]; exact hp _ _ h3
        · rw [h2] at hx; simp only [Option.some.injEq, Prod.mk.injEq] at hx; rw [← hx.2]; exact hp _ _ h3
    · by_cases hlt : b < w.heap.size
      · rw [ownA_old hlt]
        cases hb : own b with
        | none => rfl
        | some y => obtain ⟨x, f⟩ := y; rw [back b hlt, ownNone_some hb] at hn; cases hn
      · rcases ownA_new (own := own) (own1 := own1) (k := h.length) hlt with ⟨h2, _⟩ | ⟨id, f', h2, h3⟩ | ⟨x', f', h2, h3, _⟩
        · exact h2
        · rw [h3] at hn; cases hn
        · rw [h3] at hn; cases hn
    · rcases ownA_new (own := own) (own1 := own1) (k := h.length) (newObj b id 0 hb) with ⟨_, h3⟩ | ⟨id', f', h2, h3⟩ | ⟨x', f', h2, h3, h4⟩
      · rw [h3] at hb; cases hb
      · rw [h3] at hb; simp only [Option.some.injEq, Prod.mk.injEq, Owner.obj.injEq] at hb; rw [h2, hb.1, hb.2]
      · rw [h3] at hb; simp only [Option.some.injEq, Prod.mk.injEq] at hb; exact absurd hb.1 (h4 id)
  have hold : ∀ (id : Nat) (x : AObj), h[id]? = some x → (h ++ hc.map (AObj.shift h.length))[id]? = some x := fun id x hx => by rw [List.getElem?_append_left (List.getElem?_eq_some_iff.1 hx).1, hx]
  have ex : ExtA w own h w' (ownA own own1 w.heap.size h.length) (h ++ hc.map (AObj.shift h.length)) := by
    refine ⟨⟨fun b i v hv hp => ⟨by rw [cell_of_blk (g.blk b (lt_of_cell hv)), hv], fun x f hx => hp x f (by rwa [ownA_old (lt_of_cell hv)] at hx)⟩,
      fun b es c hm hn => ⟨by rw [g.blk b (lt_of_heap hm), hm], by rw [ownA_old (lt_of_heap hm), hn]⟩⟩, by simp, fun id x y hx hy => ?_, fun b id x y hb _ _ _ => ?_⟩
    · rw [hold id x hx] at hy; simp only [Option.some.injEq] at hy; subst hy; exact AObj.later_refl x
    · obtain ⟨k1, k2⟩ := keep (.obj id) b 0 hb
      exact ⟨k1, fun c T fr hcc => ⟨c, by rw [k2, hcc], rfl⟩⟩
  have key : ∀ b x f, ownA own own1 w.heap.size h.length b = some (x, f) → (b < w.heap.size ∧ own b = some (x, f)) ∨ (¬ b < w.heap.size ∧ ∃ id, x = .obj (id + h.length) ∧ own1 b = some (.obj id, f)) ∨
      (¬ b < w.heap.size ∧ own1 b = some (x, f) ∧ x = .ext) := by
    intro b x f hx
    by_cases hlt : b < w.heap.size
    · rw [ownA_old hlt] at hx; exact .inl ⟨hlt, hx⟩
    · rcases ownA_new (own := own) (own1 := own1) (k := h.length) hlt with ⟨h2, _⟩ | ⟨id, f', h2, h3⟩ | ⟨x', f', h2, h3, h4⟩
      · rw [h2] at hx; cases hx
      · rw [h2] at hx; simp only [Option.some.injEq, Prod.mk.injEq] at hx; obtain ⟨rfl, rfl⟩ := hx; exact .inr (.inl ⟨hlt, id, rfl, h3⟩)
      · rw [h2] at hx; simp only [Option.some.injEq, Prod.mk.injEq] at hx; obtain ⟨rfl, rfl⟩ := hx
        rcases hO b x' f' h3 with e | ⟨id, e⟩
        · exact .inr (.inr ⟨hlt, h3, e⟩)
        · exact absurd e (h4 id)
  refine ⟨⟨fun id x hx => ?_, fun b b' x f f' h1 h2 hne => ?_, fun b y hy => ?_, fun b id f hb => ?_⟩, ex, keep, ⟨g.os, g.tape, g.output, g.size, fun b hb _ => ⟨g.blk b hb, ownA_old hb⟩⟩, sh⟩
  · rcases Nat.lt_or_ge id h.length with hid | hid
    · rw [List.getElem?_append_left hid] at hx
      obtain ⟨b, hb, hr⟩ := H.obj id x hx
      obtain ⟨k1, k2⟩ := keep (.obj id) b 0 hb
      exact ⟨b, k1, hr.mono ex k2⟩
    · obtain ⟨j, rfl⟩ : ∃ j, id = j + h.length := ⟨id - h.length, by omega⟩
      obtain ⟨y, hy, rfl⟩ := shift_at h hc j hx
      obtain ⟨b, hb, hr⟩ := H1.obj j y hy
      exact ⟨b, sh.obj j b hb, hr.shifted sh⟩
  · rcases key b x f h1 with ⟨l1, e1⟩ | ⟨l1, id, e1, e2⟩ | ⟨l1, e1, e2⟩ <;> rcases key b' x f' h2 with ⟨l1', e1'⟩ | ⟨l1', id', e1', e2'⟩ | ⟨l1', e1', e2'⟩
    · exact H.uniq b b' x f f' e1 e1' hne
    · rw [e1'] at e1; have := (H.idlt _ _ _ e1).1; omega
    · exact absurd e2' hne
    · rw [e1] at e1'; have := (H.idlt _ _ _ e1').1; omega
    · rw [e1] at e1'
      simp only [Owner.obj.injEq] at e1'
      have : id = id' := by omega
      subst this
      exact H1.uniq b b' _ f f' e2 e2' (by simp)
    · exact absurd e2' hne
    · exact absurd e2 hne
    · exact absurd e2 hne
    · exact absurd e2 hne
  · obtain ⟨x, f⟩ := y
    rcases key b x f hy with ⟨l1, _⟩ | ⟨_, id, _, e2⟩ | ⟨_, e1, _⟩
    · exact Nat.lt_of_lt_of_le l1 g.size
    · exact H1.lt b _ e2
    · exact H1.lt b _ e1
  · rcases key b _ f hb with ⟨l1, e1⟩ | ⟨_, id', e1, e2⟩ | ⟨_, _, e2⟩
    · have := H.idlt b id f e1; exact ⟨by simp; omega, this.2⟩
    · simp only [Owner.obj.injEq] at e1
      have := H1.idlt b id' f e2
      exact ⟨by simp; omega, this.2⟩
    · cases e2

/-! a call that is given objects -/
/-- to a callee: the objects as they are, all else another's -/
def ownC (own : Own) : Own := fun b => match own b with
  | some (.obj id, f) => some (.obj id, f)
  | some (_, f) => some (.ext, f)
  | none => none
theorem ownC_cases (own : Own) (b : Nat) : (own b = none ∧ ownC own b = none) ∨ (∃ id f, own b = some (.obj id, f) ∧ ownC own b = some (.obj id, f)) ∨
    ∃ x f, own b = some (x, f) ∧ ownC own b = some (.ext, f) ∧ ∀ id, x ≠ .obj id := by
  cases hb : own b with
  | none => exact .inl ⟨rfl, by simp [ownC, hb]⟩
  | some y =>
    obtain ⟨x, f⟩ := y
    cases x with
    | obj id => exact .inr (.inl ⟨id, f, rfl, by simp [ownC, hb]⟩)
    | _ => exact .inr (.inr ⟨_, f, rfl, by simp [ownC, hb], by simp⟩)
/-- and after it -/
def ownR (own own1 : Own) : Own := fun b => match own b with
  | some (.obj _, _) => own1 b
  | some y => some y
  | none => own1 b
theorem ownR_keeps {own own1 : Own} {b : Nat} {x : Owner} {f : Nat} (h : own b = some (x, f)) (hx : ∀ id, x ≠ .obj id) : ownR own own1 b = some (x, f) := by
  cases x with
  | obj id => exact absurd rfl (hx id)
  | _ => simp [ownR, h]
theorem ownR_cases {own own1 : Own} {b : Nat} : (∃ x f, own b = some (x, f) ∧ (∀ id, x ≠ .obj id) ∧ ownR own own1 b = some (x, f)) ∨ ((own b = none ∨ ∃ id f, own b = some (.obj id, f)) ∧ ownR own own1 b = own1 b) := by
  cases hb : own b with
  | none => exact .inr ⟨.inl rfl, by simp [ownR, hb]⟩
  | some y =>
    obtain ⟨x, f⟩ := y
    cases x with
    | obj id => exact .inr ⟨.inr ⟨id, f, rfl⟩, by simp [ownR, hb]⟩
    | _ => exact .inl ⟨_, f, rfl, by simp, by simp [ownR, hb]⟩

theorem ownC_extA (w : World) (own : Own) (h : List AObj) : ExtA w own h w (ownC own) h := by
  refine ⟨⟨fun b i v hv hp => ⟨hv, fun x f hx => ?_⟩, fun b es c hm hn => ⟨hm, ?_⟩⟩, Nat.le_refl _, fun id x y hx hy => by rw [hx] at hy; simp only [Option.some.injEq] at hy; subst hy; exact AObj.later_refl x, fun b id x y hb _ _ _ => ?_⟩
  · rcases ownC_cases own b with ⟨_, h2⟩ | ⟨id, f', h1, h2⟩ | ⟨x', f', h1, h2, _⟩
    · rw [h2] at hx; cases hx
    · rw [h2] at hx; simp only [Option.some.injEq, Prod.mk.injEq] at hx; rw [← hx.2]; exact hp _ _ h1
    · rw [h2] at hx; simp only [Option.some.injEq, Prod.mk.injEq] at hx; rw [← hx.2]; exact hp _ _ h1
  · simp [ownC, hn]
  · exact ⟨by simp [ownC, hb], fun c T fr hcc => ⟨c, hcc, rfl⟩⟩
theorem ownC_only (own : Own) : onlyOE (ownC own) := by
  intro b x f hx
  rcases ownC_cases own b with ⟨_, h2⟩ | ⟨id, f', h1, h2⟩ | ⟨x', f', h1, h2, _⟩
  · rw [h2] at hx; cases hx
  · rw [h2] at hx; simp only [Option.some.injEq, Prod.mk.injEq] at hx; exact .inr ⟨id, hx.1.symm⟩
  · rw [h2] at hx; simp only [Option.some.injEq, Prod.mk.injEq] at hx; exact .inl hx.1.symm
theorem ownC_hrel (H : HRel C.P w own h) : HRel C.P w (ownC own) h := by
  have key : ∀ b x f, ownC own b = some (x, f) → (∃ id, x = .obj id ∧ own b = some (.obj id, f)) ∨ (x = .ext ∧ ∃ y, own b = some (y, f)) := by
    intro b x f hx
    rcases ownC_cases own b with ⟨_, h2⟩ | ⟨id, f', h1, h2⟩ | ⟨x', f', h1, h2, _⟩
    · rw [h2] at hx; cases hx
    · rw [h2] at hx; simp only [Option.some.injEq, Prod.mk.injEq] at hx; obtain ⟨rfl, rfl⟩ := hx; exact .inl ⟨id, rfl, h1⟩
    · rw [h2] at hx; simp only [Option.some.injEq, Prod.mk.injEq] at hx; obtain ⟨rfl, rfl⟩ := hx; exact .inr ⟨rfl, x', h1⟩
  refine ⟨fun id x hx => ?_, fun b b' x f f' h1 h2 hne => ?_, fun b y hy => ?_, fun b id f hb => ?_⟩
  · obtain ⟨b, hb, hr⟩ := H.obj id x hx
    exact ⟨b, by simp [ownC, hb], hr.mono (ownC_extA w own h) rfl⟩
  · rcases key b x f h1 with ⟨id, rfl, e1⟩ | ⟨rfl, _⟩
    · rcases key b' _ f' h2 with ⟨id', e, e1'⟩ | ⟨e, _⟩
      · simp only [Owner.obj.injEq] at e; subst e; exact H.uniq b b' _ f f' e1 e1' (by simp)
      · cases e
    · exact absurd rfl hne
  · obtain ⟨x, f⟩ := y
    rcases key b x f hy with ⟨id, _, e1⟩ | ⟨_, y, e1⟩
    · exact H.lt b _ e1
    · exact H.lt b _ e1
  · rcases key b _ f hb with ⟨id', e, e1⟩ | ⟨e, _⟩
    · simp only [Owner.obj.injEq] at e; subst e; exact H.idlt b id f e1
    · cases e

theorem restore (H : HRel C.P w own h) (H1 : HRel C.P w' own1 h') (hO : onlyOE own1) (F : Frm w (ownC own) w' own1) (E : ExtA w (ownC own) h w' own1 h') :
    HRel C.P w' (ownR own own1) h' ∧ ExtA w own h w' (ownR own own1) h' ∧ (∀ z, (∀ id, z ≠ .obj id) → Keep w own w' (ownR own own1) z) ∧ Frm w own w' (ownR own own1) ∧ ExtA w' own1 h' w' (ownR own own1) h' := by
  have other : ∀ b x f, own b = some (x, f) → (∀ id, x ≠ .obj id) → w'.heap[b]? = w.heap[b]? ∧ own1 b = some (.ext, f) := by
    intro b x f hb hx
    have hlt := H.lt b _ hb
    rcases ownC_cases own b with ⟨h2, _⟩ | ⟨id, f', h1, h2⟩ | ⟨x', f', h1, h2, _⟩
    · rw [h2] at hb; cases hb
    · rw [h1] at hb; simp only [Option.some.injEq, Prod.mk.injEq] at hb; exact absurd hb.1.symm (hx id)
    · rw [h1] at hb; simp only [Option.some.injEq, Prod.mk.injEq] at hb
      obtain ⟨e1, e2⟩ := F.blk b hlt (.inr ⟨f', h2⟩)
      exact ⟨e1, by rw [e2, h2, hb.2]⟩
  have e2 : ExtA w' own1 h' w' (ownR own own1) h' := by
    refine ⟨⟨fun b i v hv hp => ⟨hv, fun x f hx => ?_⟩, fun b es c hm hn => ⟨hm, ?_⟩⟩, Nat.le_refl _, fun id x y hx hy => by rw [hx] at hy; simp only [Option.some.injEq] at hy; subst hy; exact AObj.later_refl x, fun b id x y hb _ _ _ => ?_⟩
    · rcases ownR_cases (own := own) (own1 := own1) (b := b) with ⟨x', f', h1, h2, h3⟩ | ⟨_, h3⟩
      · rw [h3] at hx; simp only [Option.some.injEq, Prod.mk.injEq] at hx; rw [← hx.2]; exact hp _ _ (other b x' f' h1 h2).2
      · rw [h3] at hx; exact hp x f hx
    · rcases ownR_cases (own := own) (own1 := own1) (b := b) with ⟨x', f', h1, h2, h3⟩ | ⟨_, h3⟩
      · rw [(other b x' f' h1 h2).2] at hn; cases hn
      · rw [h3]; exact hn
    · refine ⟨?_, fun c T fr hcc => ⟨c, hcc, rfl⟩⟩
      rcases ownR_cases (own := own) (own1 := own1) (b := b) with ⟨x', f', h1, h2, h3⟩ | ⟨_, h3⟩
      · rw [(other b x' f' h1 h2).2] at hb; simp at hb
      · rw [h3]; exact hb
  refine ⟨⟨fun id x hx => ?_, fun b b' x f f' h1 h2 hne => ?_, fun b y hy => ?_, fun b id f hb => ?_⟩, ((ownC_extA w own h).trans E).trans e2, fun z hz b f hb => ?_, ⟨F.os, F.tape, F.output, F.size, fun b hb ho => ?_⟩, e2⟩
  · obtain ⟨b, hb, hr⟩ := H1.obj id x hx
    refine ⟨b, ?_, hr.mono e2 rfl⟩
    rcases ownR_cases (own := own) (own1 := own1) (b := b) with ⟨x', f', h1, h2, h3⟩ | ⟨_, h3⟩
    · rw [(other b x' f' h1 h2).2] at hb; simp at hb
    · rw [h3]; exact hb
  · rcases ownR_cases (own := own) (own1 := own1) (b := b) with ⟨y, g, e1, e3, e4⟩ | ⟨_, e4⟩ <;> rcases ownR_cases (own := own) (own1 := own1) (b := b') with ⟨y', g', e1', e3', e4'⟩ | ⟨_, e4'⟩
    · rw [e4] at h1; rw [e4'] at h2
      simp only [Option.some.injEq, Prod.mk.injEq] at h1 h2
      rw [h1.1] at e1; rw [h2.1] at e1'
      exact H.uniq b b' x g g' e1 e1' hne
    · rw [e4] at h1; rw [e4'] at h2
      simp only [Option.some.injEq, Prod.mk.injEq] at h1
      rcases hO b' x f' h2 with h | ⟨id, h⟩
      · exact absurd h hne
      · exact absurd (h1.1.trans h) (e3 id)
    · rw [e4] at h1; rw [e4'] at h2
      simp only [Option.some.injEq, Prod.mk.injEq] at h2
      rcases hO b x f h1 with h | ⟨id, h⟩
      · exact absurd h hne
      · exact absurd (h2.1.trans h) (e3' id)
    · rw [e4] at h1; rw [e4'] at h2
      exact H1.uniq b b' x f f' h1 h2 hne
  · rcases ownR_cases (own := own) (own1 := own1) (b := b) with ⟨x', f', h1, h2, h3⟩ | ⟨_, h3⟩
    · exact Nat.lt_of_lt_of_le (H.lt b _ h1) F.size
    · rw [h3] at hy; exact H1.lt b y hy
  · rcases ownR_cases (own := own) (own1 := own1) (b := b) with ⟨x', f', h1, h2, h3⟩ | ⟨_, h3⟩
    · rw [h3] at hb; simp only [Option.some.injEq, Prod.mk.injEq] at hb; exact absurd hb.1 (h2 id)
    · rw [h3] at hb; exact H1.idlt b id f hb
  · exact ⟨ownR_keeps hb hz, (other b z f hb hz).1⟩
  · rcases ho with ho | ⟨f, ho⟩
    · have hc : ownC own b = none := by simp [ownC, ho]
      obtain ⟨e1, e3⟩ := F.blk b hb (.inl hc)
      exact ⟨e1, by rw [ho]; simp [ownR, ho, e3, hc]⟩
    · exact ⟨(other b _ f ho (by simp)).1, by rw [ho]; exact ownR_keeps ho (by simp)⟩
end
end Go.Abs
namespace Go.Abs
section
variable {C : Ctx} {call : CallT} {fa : FA} {own own' own1 : Own} {st st' : St} {a : Act} {w w' w1 : World} {o : Oper}

theorem eff_call (hn : NoCount C.P) (hK : CallOk C.P call) (S : SRel C.P fa own st a w) {c : Call} {g : Operand} {fv r : AV} {vs caps : List AV} {f : FuncId} {h : List AObj} (hop : o.op = .call c) (hc : c.callee = .value g)
    (hg : opA st g = some fv) (hv : evArgs st c.args.toList = some vs) (hf : fnOf fv = some (f, caps)) (hcall : callH call f (vs ++ caps) st.heap = some (r, h))
    (hp : St.put fa { st with heap := h } o.dst (.a r) = some st') : EffWP C.P fa own st.heap st' a w o := by
  intro K Q hKK
  obtain ⟨cs, hgv, hcl, hch⟩ := fnOf_rel (opA_rel S hg) hf
  obtain ⟨ha1, ha2⟩ := args_rel S hv hcl hch
  unfold callH at hcall
  split at hcall
  · rename_i ds hds
    split at hcall
    · rename_i r0 hc0 hr0
      simp only [Option.some.injEq, Prod.mk.injEq] at hcall
      obtain ⟨rfl, rfl⟩ := hcall
      obtain ⟨hb, hhas⟩ := hK _ _ _ _ _ hr0
      refine wp_enter hn hop hc hgv hb ?_
      refine (hhas w (ownData noneLent own) _ (ownData_hrel S.h noneLent) (ownData_only noneLent own) ha1 (fun i v x hv' hx => ?_)).mono ?_
      · have hda := allD_get hds
        rw [hda, List.getElem?_map, Option.map_eq_some_iff] at hx
        obtain ⟨d, hd, rfl⟩ := hx
        have := ha2 i v (.d d) hv' (by rw [hda, List.getElem?_map, hd]; rfl)
        exact .d _ _ (this.d_inv.mono (ownData_ext w own noneLent))
      · rintro e w' ⟨v, own1, rfl, hO, H1, hrr, F, _⟩
        obtain ⟨H2, E2, K2, F2, T2⟩ := adopt S.h H1 hO F
        exact hKK _ _ _ ((S.heapStep H2 E2 (fun z _ => K2 z)).put (x := .a (r0.shift st.heap.length)) (fun t _ => hrr.shifted T2) hp) F2 (by rw [put_heap hp]; exact E2)
    · cases hcall
  · obtain ⟨hb, hhas⟩ := hK _ _ _ _ _ hcall
    refine wp_enter hn hop hc hgv hb ?_
    refine (hhas w (ownC own) _ (ownC_hrel S.h) (ownC_only own) ha1 (fun i v x hv' hx => (ha2 i v x hv' hx).mono (ownC_extA w own st.heap))).mono ?_
    rintro e w' ⟨v, own1, rfl, hO, H1, hrr, F, E⟩
    obtain ⟨H2, E2, K2, F2, E3⟩ := restore S.h H1 hO F E
    exact hKK _ _ _ ((S.heapStep H2 E2 K2).put (x := .a r) (fun t _ => hrr.mono E3) hp) F2 (by rw [put_heap hp]; exact E2)

theorem evEff_sound (hn : NoCount C.P) (hK : CallOk C.P call) (S : SRel C.P fa own st a w) (he : evEff C call fa o st = some st') : EffWP C.P fa own st.heap st' a w o := by
  have take : ∀ {x : Operand}, (o.op = .move x ∨ o.op = .assign x) → evTake fa st o.dst x = some st' → EffWP C.P fa own st.heap st' a w o := by
    intro x hop he
    unfold evTake at he
    split at he
    · rename_i es hes; exact eff_take S hop hes he
    · split at he
      · rename_i v hv
        refine eff_of_val S (Good.wp ⟨a.eval x, ?_, opd_rel S hv⟩) he
        rcases hop with h | h <;> simp [Runs, execOp, h]
      · cases he
  unfold evEff at he
  split at he
  case h_1 x hop => exact take (.inl hop) he
  case h_2 x hop => exact take (.inr hop) he
  case h_3 t hop =>
    split at he
    · rename_i z hz
      obtain ⟨zv, h1, _, h2⟩ := zero_spec hz
      refine eff_alloc S (v := zv) (t := t) (.d _ _ (h2 w own)) ?_ he
      simp [execOp, hop, Instr.alloc, h1 w, newVar, newRow]
    · cases he
  case h_4 t x hop =>
    split at he
    · rename_i v hv
      refine eff_alloc S (v := a.eval x) (t := t) (opA_rel S hv) ?_ he
      simp [execOp, hop, Instr.box, newVar, newRow]
    · cases he
  case h_5 t n ps hop =>
    split at he
    · rename_i es hes; exact eff_litTake S hop hes he
    · cases he
  case h_6 t x y hop =>
    split at he
    · rename_i p v hx hy
      split at he
      · rename_i st1 hs; exact eff_store S hop hx hy hs he
      · cases he
    · cases he
  case h_7 s t x hop =>
    split at he
    · rename_i b hx
      cases hb : C.isStr s && C.isBytes t && C.elemOne t with
      | false => rw [hb] at he; cases he
      | true =>
        rw [hb] at he
        simp only [Bool.and_eq_true] at hb
        exact eff_toBytes S hop hx hb.1.1 hb.1.2 hb.2 he
    · cases he
  case h_8 t hop =>
    cases hb : C.isMap t with
    | false => rw [hb] at he; cases he
    | true => rw [hb] at he; exact eff_makeMap S hop he
  case h_9 t l c hop =>
    split at he
    · rename_i z sz k1 n k2 m hz hsz hl hc
      split at he
      · rename_i hcond
        obtain ⟨h0, rfl, hr, hok⟩ := hcond
        exact eff_makeSlice S hop hz hsz hl hc h0 hr hok he
      · cases he
    · cases he
  case h_10 t m k x hop =>
    split at he
    · rename_i z id kd v hz hm hk hx
      cases hc : v.cellOk with
      | false => rw [hc] at he; cases he
      | true =>
        rw [hc] at he
        simp only [Bool.not_true, cond_false] at he
        split at he
        · rename_i es ho
          split at he
          · rename_i es' hs
            cases hok : C.keyOk t kd with
            | false => rw [hok] at he; cases he
            | true => rw [hok] at he; exact eff_mapUpdate S hop hz hm hk hx hc ho hs hok he
          · cases he
        · cases he
    · cases he
  case h_11 c hop =>
    split at he
    · rename_i b hb
      split at he
      · rename_i s x t t' ha ht
        cases hbt : Nat.beq t t' with
        | false => rw [hbt] at he; cases he
        | true =>
          rw [hbt] at he
          have := Nat.eq_of_beq_eq_true hbt
          subst this
          simp only [cond_true] at he
          unfold evAppend at he
          split at he
          · rename_i sz new hsz hx
            split at he
            · rename_i id g n hs
              split at he
              · rename_i g' es ho
                cases hcond : Nat.beq g g' && Nat.beq n es.length && headOk sz es && sizesOk sz new && roomOk C t (n + new.length) && C.elemOk t sz with
                | false => rw [hcond] at he; cases he
                | true =>
                  rw [hcond] at he
                  simp only [Bool.and_eq_true] at hcond
                  obtain ⟨⟨⟨⟨⟨c1, c2⟩, c3⟩, c4⟩, c5⟩, c6⟩ := hcond
                  have e1 := Nat.eq_of_beq_eq_true c1
                  have e2 := Nat.eq_of_beq_eq_true c2
                  subst e1; subst e2
                  exact eff_appendOsl S hop hb ha ht (by unfold opA; rw [hs]) ho hx hsz c4 c3 c5 c6 he
              · cases he
            · split at he
              · rename_i es hes
                cases hcond : sizesOk sz new && sizesOk sz (es.take 1) && roomOk C t (es.length + new.length) && C.elemOk t sz with
                | false => rw [hcond] at he; cases he
                | true =>
                  rw [hcond] at he
                  simp only [Bool.and_eq_true] at hcond
                  obtain ⟨⟨⟨c1, c2⟩, c3⟩, c4⟩ := hcond
                  simp only [cond_true] at he
                  cases hh : isHeapy fa o.dst with
                  | true =>
                    rw [hh] at he
                    simp only [cond_true] at he
                    split at he
                    · exact eff_appendHeapy S hop hb ha ht hes hx (by simp) hsz c1 (by simpa using c3) c4 he
                    · cases he
                  | false =>
                    rw [hh] at he
                    exact eff_appendOwn S hop hb ha ht hes hx hsz c1 c2 c3 c4 he
              · cases he
          · cases he
      · rename_i m k t ts ha ht
        unfold evDelete at he
        split at he
        · rename_i z id kd hz hm hk
          split at he
          · rename_i es ho
            split at he
            · rename_i es' hs
              cases hok : C.keyOk t kd with
              | false => rw [hok] at he; cases he
              | true => rw [hok] at he; exact eff_delete S hop hb ha ht hm hk ho hs hok he
            · cases he
          · cases he
        · cases he
      · cases he
    · rename_i g hg
      split at he
      · rename_i fv vs hfv hvs
        split at he
        · rename_i f caps hf
          cases hl : flagged fa.lend o.dst with
          | true => rw [hl] at he; cases he
          | false =>
            rw [hl] at he
            simp only [cond_false] at he
            split at he
            · rename_i r h hcall; exact eff_call hn hK S hop hg hfv hvs hf hcall he
            · cases he
        · cases he
      · cases he
    · cases he
  case h_12 => cases he

theorem evOp_sound (hn : NoCount C.P) (hK : CallOk C.P call) (S : SRel C.P fa own st a w) (he : evOp C call fa o st = some st') : EffWP C.P fa own st.heap st' a w o := by
  unfold evOp at he
  split at he
  · rename_i x hx; exact eff_of_val S (evVal_sound hn hK S hx) he
  · exact evEff_sound hn hK S he
end
end Go.Abs
namespace Go.Abs
section
variable {C : Ctx} {call : CallT} {fa : FA} {own own' own1 : Own} {st st' st1 st2 : St} {a : Act} {w w' w1 : World} {o : Oper}

theorem wantedA_spec {all : List Oper} {b : Bool} (S : SRel C.P fa own st a w) (h : wantedA all o st = some b) : Region.wanted o (yielded all.toArray a.tmps) = b := by
  unfold wantedA at h
  unfold Region.wanted
  split at h
  · simp only [Option.some.injEq] at h; rename_i hg; rw [hg]; exact h
  · rename_i j want hg
    rw [hg]
    simp only
    split at h
    · rename_i t ht
      have hy : yielded all.toArray a.tmps j = match a.tmps[t]? with
          | some (.bool b) => some b
          | _ => none := by
        unfold yielded
        have : (all.toArray[j]?).bind (·.dst) = some t := by simpa using ht
        rw [this]
        rfl
      split at h
      · rename_i v hv
        simp only [Option.some.injEq] at h
        have hr : ARep C.P w own st.heap (a.tmps.getD t undef) (.d (.bool v)) := S.tmp t _ hv
        have hb : a.tmps.getD t undef = .bool v := hr.d_inv.bool_inv
        have hget : a.tmps[t]? = some (.bool v) := by
          rw [Array.getD_eq_getD_getElem?] at hb
          cases ha : a.tmps[t]? with
          | none => rw [ha] at hb; simp [undef] at hb
          | some u => rw [ha] at hb; simp at hb; rw [hb]
        rw [hy, hget]
        rw [← h]
        simp
      · rename_i hv
        simp only [Option.some.injEq] at h
        have hr : a.tmps.getD t undef = undef := S.tmp t _ hv
        have hget : ∀ v, a.tmps[t]? ≠ some (.bool v) := by
          intro v hv
          rw [Array.getD_eq_getD_getElem?, hv] at hr
          simp [undef] at hr
        rw [hy, ← h]
        cases ha : a.tmps[t]? with
        | none => simp
        | some u =>
          cases u <;> first | (simp; done) | exact absurd ha (hget _)
      · cases h
    · cases h

def StepWP (P : Program) (fa : FA) (own : Own) (h : List AObj) (st' : St) (a : Act) (w : World) (ops : Array Oper) (o : Oper) : Prop :=
  ∀ (K : Act → World → Prop) (Q : Exit → Act → World → Prop), (∀ a' w' own', SRel P fa own' st' a' w' → Frm w own w' own' → ExtA w own h w' own' st'.heap → K a' w') →
    if Region.wanted o (yielded ops a.tmps) then o.wp P a w K Q ∨ (o.asks P a w ∧ LetsOut Q) else K (a.put o.dst undef) w

theorem step_sound (hn : NoCount C.P) (hK : CallOk C.P call) (S : SRel C.P fa own st a w) {all : List Oper} {q : Bool} (he : evStep C call fa all q o st = some st') : StepWP C.P fa own st.heap st' a w all.toArray o := by
  intro K Q hKK
  unfold evStep at he
  split at he
  · rename_i hw
    rw [wantedA_spec S hw]
    simp only [if_true]
    left
    cases q with
    | true =>
      simp only [cond_true] at he
      split at he
      · rename_i x hx; exact eff_of_val S (evVal_sound hn hK S hx) he K Q hKK
      · cases he
    | false => exact evOp_sound hn hK S he K Q hKK
  · rename_i hw
    rw [wantedA_spec S hw]
    simp only [Bool.false_eq_true, if_false]
    exact hKK _ _ own (S.put (x := .un) (fun t _ => rfl) he) (.refl w own) (by rw [put_heap he]; exact (Grow.refl w).extA own _)
  · cases he

/-- after a run of steps -/
def Post (P : Program) (fa : FA) (own : Own) (h : List AObj) (st' : St) (w : World) (K : Act → World → Prop) : Prop :=
  ∀ a' w' own', SRel P fa own' st' a' w' → Frm w own w' own' → ExtA w own h w' own' st'.heap → K a' w'

theorem evOps_sound (hn : NoCount C.P) (hK : CallOk C.P call) {all : List Oper} {Q : Exit → Act → World → Prop} : ∀ (rest : List Oper) (st : St) (own : Own) (a : Act) (w : World), evOps C call fa all rest st = some st' → SRel C.P fa own st a w →
    Post C.P fa own st.heap st' w (Q .normal) → wpList C.P all.toArray Q rest a w
  | [], st, own, a, w, he, S, hQ => by
    simp only [evOps, Option.some.injEq] at he
    subst he
    exact hQ a w own S (.refl w own) ((Grow.refl w).extA own _)
  | o :: rest, st, own, a, w, he, S, hQ => by
    simp only [evOps] at he
    split at he
    · rename_i st1 h1
      exact step_sound hn hK S h1 _ Q fun a' w' own' S' F E => evOps_sound hn hK rest st1 own' a' w' he S' fun a2 w2 own2 S2 F2 E2 => hQ a2 w2 own2 S2 (F.trans F2) (E.trans E2)
    · cases he

/-! every order -/
def anyE (C : Ctx) (call : CallT) (fa : FA) (ops : Array Oper) (q : Nat → Bool) : Nat → Array Bool → St → St → Prop
  | 0, listed, st, st' => Region.ready .any ops listed = [] ∧ st = st'
  | fuel + 1, listed, st, st' => (Region.ready .any ops listed = [] → st = st') ∧
    ∀ i ∈ Region.ready .any ops listed, ∃ o st1, ops[i]? = some o ∧ evStep C call fa ops.toList (q i) o st = some st1 ∧ anyE C call fa ops q fuel (listed.setIfInBounds i true) st1 st'

theorem anyE_sound (hn : NoCount C.P) (hK : CallOk C.P call) {ops : Array Oper} {q : Nat → Bool} {Q : Exit → Act → World → Prop} : ∀ (fuel : Nat) (listed : Array Bool) (st : St) (own : Own) (a : Act) (w : World),
    anyE C call fa ops q fuel listed st st' → SRel C.P fa own st a w → Post C.P fa own st.heap st' w (Q .normal) → wpAny C.P .any ops Q fuel listed a w
  | 0, listed, st, own, a, w, he, S, hQ => by
    obtain ⟨h1, rfl⟩ := he
    exact ⟨h1, hQ a w own S (.refl w own) ((Grow.refl w).extA own _)⟩
  | fuel + 1, listed, st, own, a, w, he, S, hQ => by
    refine ⟨fun h => ?_, fun i hi => ?_⟩
    · have := he.1 h
      subst this
      exact hQ a w own S (.refl w own) ((Grow.refl w).extA own _)
    · obtain ⟨o, st1, ho, h1, h2⟩ := he.2 i hi
      unfold wpOp
      simp only [ho]
      have := step_sound hn hK S h1 (wpAny C.P .any ops Q fuel (listed.setIfInBounds i true)) Q fun a' w' own' S' F E =>
        anyE_sound hn hK fuel _ st1 own' a' w' h2 S' fun a2 w2 own2 S2 F2 E2 => hQ a2 w2 own2 S2 (F.trans F2) (E.trans E2)
      simpa using this

/-! two quiet steps change places -/
theorem ins_cons {α : Type} (k : Nat) (u : α) (r : List (Nat × α)) (t : Nat) (v : α) : ins ((k, u) :: r) t v = if k < t then (t, v) :: (k, u) :: r else if k = t then (k, v) :: r else (k, u) :: ins r t v := by
  simp only [ins]
  by_cases h1 : k < t
  · rw [if_pos h1, show Nat.blt k t = true by rw [Nat.blt_eq]; exact h1, cond_true]
  · rw [if_neg h1]
    have : Nat.blt k t = false := by rw [Bool.eq_false_iff]; intro h'; rw [Nat.blt_eq] at h'; exact h1 h'
    rw [this, cond_false]
    by_cases h2 : k = t
    · rw [if_pos h2, beq_iff.2 h2, cond_true]
    · rw [if_neg h2, beq_ne.2 h2, cond_false]
theorem ins_comm {α : Type} (l : List (Nat × α)) {s t : Nat} (x y : α) (h : s ≠ t) : ins (ins l s x) t y = ins (ins l t y) s x := by
  induction l with
  | nil =>
    simp only [ins, ins_cons]
    rcases Nat.lt_or_gt_of_ne h with hlt | hlt
    · rw [if_pos hlt, if_neg (Nat.lt_asymm hlt), if_neg (Ne.symm h)]
    · rw [if_pos hlt, if_neg (Nat.lt_asymm hlt), if_neg h]
  | cons e l ih =>
    obtain ⟨k, u⟩ := e
    rw [ins_cons, ins_cons]
    by_cases a1 : k < s <;> by_cases b1 : k < t
    · rw [if_pos a1, if_pos b1, ins_cons, ins_cons, ins_cons, ins_cons, if_pos a1, if_pos b1]
      rcases Nat.lt_or_gt_of_ne h with hlt | hlt
      · rw [if_pos hlt, if_neg (Nat.lt_asymm hlt), if_neg (Ne.symm h)]
      · rw [if_pos hlt, if_neg (Nat.lt_asymm hlt), if_neg h]
    · have b3 : ¬ s < t := by omega
      rw [if_pos a1, if_neg b1, ins_cons, ins_cons, if_neg b3, if_neg b1, if_neg h]
      by_cases b2 : k = t
      · rw [if_pos b2, ins_cons, if_pos a1]
      · rw [if_neg b2, ins_cons, if_pos a1]
    · have b3 : ¬ t < s := by omega
      rw [if_neg a1, if_pos b1, ins_cons, if_neg b3, if_neg (Ne.symm h), ins_cons, if_neg a1]
      by_cases b2 : k = s
      · rw [if_pos b2, ins_cons, if_pos b1]
      · rw [if_neg b2, ins_cons, if_pos b1]
    · rw [if_neg a1, if_neg b1]
      by_cases a2 : k = s <;> by_cases b2 : k = t
      · exact absurd (a2.symm.trans b2) h
      · rw [if_pos a2, if_neg b2, ins_cons, ins_cons, if_neg b1, if_neg b2, if_neg a1, if_pos a2]
      · rw [if_neg a2, if_pos b2, ins_cons, ins_cons, if_neg b1, if_pos b2, if_neg a1, if_neg a2]
      · rw [if_neg a2, if_neg b2, ins_cons, ins_cons, if_neg b1, if_neg b2, if_neg a1, if_neg a2, ih]

/-! a value op depends on what its operands read, and on the heap -/
theorem opx_ins (st : St) {d : Nat} (v : XV) {x : Operand} (h : x ≠ .tmp d) : opx { st with tmp := ins st.tmp d v } x = opx st x := by
  cases x with
  | tmp t =>
    have : Nat.beq d t = false := beq_ne.2 (fun e => h (by rw [e]))
    simp only [opx, alook_ins, this, cond_false]
  | _ => rfl
structure SameOps (st1 st : St) (xs : List Operand) : Prop where
  env : st1.env = st.env
  heap : st1.heap = st.heap
  x : ∀ x ∈ xs, opx st1 x = opx st x
variable {xs : List Operand}
theorem SameOps.sub {ys : List Operand} (h : SameOps st1 st xs) (hs : ∀ y ∈ ys, y ∈ xs) : SameOps st1 st ys := ⟨h.env, h.heap, fun y hy => h.x y (hs y hy)⟩
theorem SameOps.opd (h : SameOps st1 st xs) {x : Operand} (hx : x ∈ xs) : opd st1 x = opd st x := by unfold Abs.opd; rw [h.x x hx]
theorem SameOps.opA (h : SameOps st1 st xs) {x : Operand} (hx : x ∈ xs) : opA st1 x = opA st x := by unfold Abs.opA; rw [h.opd hx]
theorem SameOps.opD (h : SameOps st1 st xs) {x : Operand} (hx : x ∈ xs) : opD st1 x = opD st x := by unfold Abs.opD; rw [h.opd hx]
theorem SameOps.args (h : SameOps st1 st xs) : ∀ {l : List Operand}, (∀ x ∈ l, x ∈ xs) → evArgs st1 l = evArgs st l
  | [], _ => rfl
  | x :: l, hl => by
    have ih := h.args (l := l) (fun y hy => hl y (List.mem_cons_of_mem _ hy))
    simp only [evArgs, h.opA (hl x (by simp)), ih]
theorem SameOps.parts (h : SameOps st1 st xs) : ∀ {l : List (Nat × Operand)}, (∀ x ∈ l, x.2 ∈ xs) → evParts st1 l = evParts st l
  | [], _ => rfl
  | (i, x) :: l, hl => by
    have ih := h.parts (l := l) (fun y hy => hl y (List.mem_cons_of_mem _ hy))
    have h1 := h.opD (x := x) (hl (i, x) (by simp))
    simp only [evParts, h1, ih]
theorem SameOps.mapO (h : SameOps st1 st xs) : ∀ {l : List Operand}, (∀ x ∈ l, x ∈ xs) → Abs.mapO (Abs.opD st1) l = Abs.mapO (Abs.opD st) l
  | [], _ => rfl
  | x :: l, hl => by
    have ih := h.mapO (l := l) (fun y hy => hl y (List.mem_cons_of_mem _ hy))
    simp only [Abs.mapO, h.opD (hl x (by simp)), ih]
theorem SameOps.optD (h : SameOps st1 st xs) {x : Option Operand} (hx : ∀ y, x = some y → y ∈ xs) : optD st1 x = optD st x := by
  cases x with
  | none => rfl
  | some y => simp only [Abs.optD, h.opD (hx y rfl)]
theorem load_same (h1 : st1.env = st.env) (h2 : st1.heap = st.heap) (t : TypeId) (p : XV) : evLoad C t st1 p = evLoad C t st p := by
  unfold evLoad; rw [h1, h2]
theorem indexAddr_same (h2 : st1.heap = st.heap) (t : TypeId) (x : AV) (i : Int) : evIndexAddr C t st1 x i = evIndexAddr C t st x i := by
  unfold evIndexAddr; rw [h2]

theorem evVal_same (h : SameOps st1 st o.op.operands.toList) : evVal C call fa o st1 = evVal C call fa o st := by
  unfold evVal
  cases hop : o.op <;> rw [hop] at h <;> (try simp only) <;> try (rfl; done)
  case move x => rw [h.x x (by simp [Op.operands])]
  case assign x => rw [h.x x (by simp [Op.operands])]
  case pick c x y => rw [h.opD (x := c) (by simp [Op.operands]), h.opd (x := x) (by simp [Op.operands]), h.opd (x := y) (by simp [Op.operands])]
  case build t ps =>
    have := h.parts (l := ps.toList) (fun x hx => by simp [Op.operands]; exact ⟨x.1, by simpa using hx⟩)
    unfold evBuild; rw [this]
  case buildSlice t n ps =>
    have := h.parts (l := ps.toList) (fun x hx => by simp [Op.operands]; exact ⟨x.1, by simpa using hx⟩)
    unfold evBuildSlice; rw [this]
  case load t x => rw [h.opd (x := x) (by simp [Op.operands])]; simp only [load_same h.env h.heap]
  case nilCheck x => rw [h.opd (x := x) (by simp [Op.operands])]
  case binOp op t x y _ => rw [h.opA (x := x) (by simp [Op.operands]), h.opA (x := y) (by simp [Op.operands])]
  case unOp op t x => rw [h.opD (x := x) (by simp [Op.operands])]
  case convert s t x => rw [h.opA (x := x) (by simp [Op.operands]), h.heap]
  case makeFunc f first cap =>
    cases f <;> simp only
    rw [h.args (l := cap.toList) (fun x hx => by simp [Op.operands]; right; simpa using hx)]
  case slice t x lo hi mx =>
    cases mx <;> simp only
    rw [h.opD (x := x) (by simp [Op.operands]), h.optD (x := lo) (fun y hy => by simp [Op.operands, hy]), h.optD (x := hi) (fun y hy => by simp [Op.operands, hy])]
  case fieldAddr t x f => rw [h.opd (x := x) (by simp [Op.operands])]
  case field t x f => rw [h.opD (x := x) (by simp [Op.operands])]
  case indexAddr t x i => rw [h.opA (x := x) (by simp [Op.operands]), h.opD (x := i) (by simp [Op.operands])]; simp only [indexAddr_same h.heap]
  case index t x i => rw [h.opD (x := x) (by simp [Op.operands]), h.opD (x := i) (by simp [Op.operands])]
  case lookup t x k ok => rw [h.opA (x := x) (by simp [Op.operands]), h.opD (x := k) (by simp [Op.operands]), h.heap]
  case extract x i => rw [h.opA (x := x) (by simp [Op.operands])]
  case call c =>
    have hargs : ∀ x ∈ c.args.toList, x ∈ (Op.call c).operands.toList := fun x hx => by simp [Op.operands, Call.operands]; right; simpa using hx
    cases hc : c.callee with
    | builtin b =>
      simp only
      congr 1
      unfold evBuiltinV
      rw [h.heap]
      cases b <;> (try simp only) <;> try (rfl; done)
      case len =>
        cases ha : c.args.toList with
        | nil => rfl
        | cons x l =>
          cases l with
          | nil =>
            cases ht : c.argTypes.toList with
            | nil => rfl
            | cons t l =>
              cases l with
              | nil => simp only [h.opA (hargs x (by rw [ha]; simp))]
              | cons t' l => rfl
          | cons y l => rfl
      case max => rw [h.mapO hargs]
      case min => rw [h.mapO hargs]
    | value g =>
      simp only
      rw [h.opA (x := g) (by simp [Op.operands, Call.operands, hc]), h.args hargs, h.heap]
    | invoke r m => rfl
end
end Go.Abs
namespace Go.Abs
section
variable {C : Ctx} {call : CallT} {fa : FA} {own own' own1 : Own} {st st' st1 st2 : St} {a : Act} {w w' w1 : World} {o : Oper}

theorem wantedA_ins {ops : Array Oper} {d : Nat} {v : XV} (h : d ∉ o.looksAt ops) : wantedA ops.toList o { st with tmp := ins st.tmp d v } = wantedA ops.toList o st := by
  unfold wantedA
  cases hg : o.guard with
  | none => rfl
  | some gw =>
    obtain ⟨g, want⟩ := gw
    simp only
    cases ht : (ops.toList[g]?).bind (·.dst) with
    | none => rfl
    | some t =>
      have hne : d ≠ t := fun e => h (by
        subst e
        have ht' : (ops[g]?).bind (·.dst) = some d := by simpa using ht
        simp [Oper.looksAt, hg, ht'])
      simp only [alook_ins, beq_ne.2 hne, cond_false]

theorem evVal_ins {ops : Array Oper} {d : Nat} {v : XV} (h : d ∉ o.looksAt ops) : evVal C call fa o { st with tmp := ins st.tmp d v } = evVal C call fa o st :=
  evVal_same ⟨rfl, rfl, fun x hx => opx_ins st v fun e => h (by
    subst e
    exact List.mem_append_left _ (List.mem_filterMap.2 ⟨.tmp d, hx, rfl⟩))⟩

theorem quiet_step {all : List Oper} (hk : quietKind fa o = true) (h : evStep C call fa all true o st = some st1) : ∃ t x, o.dst = some t ∧ st1 = { st with tmp := ins st.tmp t x } ∧ has fa.keep t = false ∧ Nat.blt t fa.nt = true ∧
    ((wantedA all o st = some true ∧ evVal C call fa o st = some x) ∨ (wantedA all o st = some false ∧ x = .un)) := by
  unfold quietKind at hk
  simp only [Bool.and_eq_true] at hk
  obtain ⟨hk, _⟩ := hk
  have put : ∀ {t x}, o.dst = some t → has fa.keep t = false → st.put fa o.dst x = some st1 → st1 = { st with tmp := ins st.tmp t x } ∧ Nat.blt t fa.nt = true := by
    intro t x hd hkt hp
    rw [hd] at hp
    simp only [St.put] at hp
    cases hb : Nat.blt t fa.nt with
    | false => rw [hb] at hp; cases hp
    | true =>
      rw [hb, hkt] at hp
      simp only [cond_true, cond_false, Option.some.injEq] at hp
      exact ⟨hp.symm, rfl⟩
  split at hk
  · rename_i t hd
    have hkt : has fa.keep t = false := by simpa using hk
    unfold evStep at h
    split at h
    · rename_i hw
      simp only [cond_true] at h
      split at h
      · rename_i x hx
        obtain ⟨h1, h2⟩ := put hd hkt h
        exact ⟨t, x, hd, h1, hkt, h2, .inl ⟨hw, hx⟩⟩
      · cases h
    · rename_i hw
      obtain ⟨h1, h2⟩ := put hd hkt h
      exact ⟨t, .un, hd, h1, hkt, h2, .inr ⟨hw, rfl⟩⟩
    · cases h
  · cases hk
theorem quiet_step_of {all : List Oper} {t : Nat} {x : XV} (hd : o.dst = some t) (hkt : has fa.keep t = false) (hb : Nat.blt t fa.nt = true)
    (h : (wantedA all o st = some true ∧ evVal C call fa o st = some x) ∨ (wantedA all o st = some false ∧ x = .un)) : evStep C call fa all true o st = some { st with tmp := ins st.tmp t x } := by
  unfold evStep
  rcases h with ⟨h1, h2⟩ | ⟨h1, rfl⟩
  · rw [h1]; simp only [cond_true, h2]; rw [hd]; simp only [St.put, hb, hkt, cond_true, cond_false]
  · rw [h1]; simp only; rw [hd]; simp only [St.put, hb, hkt, cond_true, cond_false]

theorem quiet_comm {ops : Array Oper} {oi oj : Oper} (hi : quietKind fa oi = true) (hj : quietKind fa oj = true) (hap : oi.apart ops oj = true)
    (h1 : evStep C call fa ops.toList true oi st = some st1) (h2 : evStep C call fa ops.toList true oj st1 = some st2) :
    ∃ st1', evStep C call fa ops.toList true oj st = some st1' ∧ evStep C call fa ops.toList true oi st1' = some st2 := by
  obtain ⟨e1, e2, e3⟩ := Oper.apart_spec hap
  obtain ⟨t, x, d1, rfl, k1, b1, c1⟩ := quiet_step hi h1
  obtain ⟨s, y, d2, rfl, k2, b2, c2⟩ := quiet_step hj h2
  rw [wantedA_ins (e1 t d1), evVal_ins (e1 t d1)] at c2
  refine ⟨_, quiet_step_of d2 k2 b2 c2, ?_⟩
  have hts : t ≠ s := fun e => e2 t d1 (by rw [d2, e])
  have := quiet_step_of (C := C) (call := call) (st := { st with tmp := ins st.tmp s y }) (all := ops.toList) (x := x) d1 k1 b1 (by rw [wantedA_ins (e3 s d2), evVal_ins (e3 s d2)]; exact c1)
  rw [this]
  simp only [Option.some.injEq, St.mk.injEq, true_and, and_true]
  exact ins_comm _ _ _ (Ne.symm hts)

/-! the order of the operations -/
def listedB (listed : Array Bool) (i : Nat) : Prop := listed.getD i false = true
def Closed (ops : Array Oper) (listed : Array Bool) : Prop := ∀ m, listedB listed m → ∀ p ∈ preds ops.toList m, listedB listed p

theorem preds_ready {ops : Array Oper} {listed : Array Bool} {j : Nat} (h : j ∈ Region.ready .any ops listed) : ∀ p ∈ preds ops.toList j, listedB listed p := by
  obtain ⟨_, o, ho, hall⟩ := mem_ready.1 h
  intro p hp
  unfold preds at hp
  rw [show ops.toList[j]? = some o by simpa using ho] at hp
  simp only [List.mem_map, List.mem_filter] at hp
  obtain ⟨e, ⟨he, hb⟩, rfl⟩ := hp
  exact hall e (by simpa using he) hb
theorem closed_set {ops : Array Oper} {listed : Array Bool} (hc : Closed ops listed) {j : Nat} (h : j ∈ Region.ready .any ops listed) : Closed ops (listed.setIfInBounds j true) := by
  intro m hm p hp
  by_cases hmj : j = m
  · subst hmj; exact getD_set_true (preds_ready h p hp)
  · unfold listedB at hm
    rw [getD_set_ne false hmj] at hm
    exact getD_set_true (hc m hm p hp)

theorem closeP_listed {ops : Array Oper} {listed : Array Bool} (hc : Closed ops listed) : ∀ (n : Nat) (l : List Nat), (∀ x ∈ l, listedB listed x) → ∀ x ∈ closeP ops.toList n l, listedB listed x
  | 0, l, h, x, hx => h x hx
  | n + 1, l, h, x, hx => by
    refine closeP_listed hc n _ (fun y hy => ?_) x hx
    have inner : ∀ (ps acc : List Nat), (∀ p ∈ ps, listedB listed p) → (∀ p ∈ acc, listedB listed p) → ∀ y ∈ ps.foldl (fun acc k => bif has acc k then acc else k :: acc) acc, listedB listed y := by
      intro ps
      induction ps with
      | nil => intro acc _ h2; exact h2
      | cons p ps ih =>
        intro acc h1 h2
        simp only [List.foldl_cons]
        refine ih _ (fun q hq => h1 q (List.mem_cons_of_mem _ hq)) (fun q hq => ?_)
        cases hh : has acc p with
        | true => rw [hh] at hq; exact h2 q hq
        | false =>
          rw [hh] at hq
          simp only [cond_false, List.mem_cons] at hq
          rcases hq with rfl | hq
          · exact h1 q (by simp)
          · exact h2 q hq
    have outer : ∀ (m acc : List Nat), (∀ p ∈ m, listedB listed p) → (∀ p ∈ acc, listedB listed p) →
        ∀ y ∈ m.foldl (fun acc i => (preds ops.toList i).foldl (fun acc k => bif has acc k then acc else k :: acc) acc) acc, listedB listed y := by
      intro m
      induction m with
      | nil => intro acc _ h2; exact h2
      | cons p m ih =>
        intro acc h1 h2
        simp only [List.foldl_cons]
        exact ih _ (fun q hq => h1 q (List.mem_cons_of_mem _ hq)) (inner _ _ (hc p (h1 p (by simp))) h2)
    exact outer l l h h y hy

theorem ancs_listed {ops : Array Oper} {listed : Array Bool} (hc : Closed ops listed) {j : Nat} (h : j ∈ Region.ready .any ops listed) : ∀ x, has (ancs ops.toList j) x = true → listedB listed x :=
  fun x hx => closeP_listed hc _ _ (preds_ready h) x (has_iff.1 hx)

theorem not_listed {ops : Array Oper} {listed : Array Bool} {j : Nat} (h : j ∈ Region.ready .any ops listed) : ¬ listedB listed j := by
  intro hl
  have h0 := (mem_ready.1 h).1
  unfold listedB at hl
  rcases Nat.lt_or_ge j listed.size with h' | h'
  · simp [h'] at h0 hl; rw [h0] at hl; cases hl
  · simp [Array.getElem?_eq_none h'] at hl

/-- two that may both come up now: neither has its place -/
theorem both_quiet {ops : Array Oper} {listed : Array Bool} (hc : Closed ops listed) {i j : Nat} (hi : i ∈ Region.ready .any ops listed) (hj : j ∈ Region.ready .any ops listed) (hne : i ≠ j)
    (hlt : ∀ k, k ∈ Region.ready .any ops listed → k < ops.size) : soloB ops.toList ((List.range ops.toList.length).map (ancs ops.toList)) i = false := by
  cases hs : soloB ops.toList ((List.range ops.toList.length).map (ancs ops.toList)) i with
  | false => rfl
  | true =>
    unfold soloB at hs
    rw [List.all_eq_true] at hs
    have hjl : j < ops.toList.length := by have := hlt j hj; simpa using this
    have hil : i < ops.toList.length := by have := hlt i hi; simpa using this
    have h1 := hs j (List.mem_range.2 hjl)
    have hji : Nat.beq j i = false := beq_ne.2 (Ne.symm hne)
    rw [hji, Bool.false_or] at h1
    have anc : ∀ k, k < ops.toList.length → ((List.range ops.toList.length).map (ancs ops.toList)).getD k [] = ancs ops.toList k := by
      intro k hk
      rw [List.getD_eq_getElem?_getD, List.getElem?_map, List.getElem?_range hk]
      rfl
    cases hb : Nat.blt j i with
    | true =>
      rw [hb, cond_true, anc i hil] at h1
      exact absurd (ancs_listed hc hi j h1) (not_listed hj)
    | false =>
      rw [hb, cond_false, anc j hjl] at h1
      exact absurd (ancs_listed hc hj i h1) (not_listed hi)

theorem anyE_first {ops : Array Oper} {q : Nat → Bool} {i : Nat} {oi : Oper} (hi : ops[i]? = some oi)
    (hq : ∀ j, j < ops.size → soloB ops.toList ((List.range ops.toList.length).map (ancs ops.toList)) j = false → q j = true ∧ ∀ oj, ops[j]? = some oj → quietKind fa oj = true) :
    ∀ (fuel : Nat) (listed : Array Bool) (st st1 st' : St), Closed ops listed →
      (∀ j oj, ops[j]? = some oj → j ≠ i → listed.getD j true = false → (∀ e ∈ oj.after, Region.binds .any e = true → e.on ≠ i) → oi.apart ops oj = true) →
      i ∈ Region.ready .any ops listed → evStep C call fa ops.toList (q i) oi st = some st1 →
      anyE C call fa ops q fuel (listed.setIfInBounds i true) st1 st' → anyE C call fa ops q (fuel + 1) listed st st' := by
  have rlt : ∀ listed k, k ∈ Region.ready .any ops listed → k < ops.size := fun listed k hk => by
    obtain ⟨_, o, ho, _⟩ := mem_ready.1 hk
    exact (Array.getElem?_eq_some_iff.1 ho).1
  intro fuel
  induction fuel with
  | zero =>
    intro listed st st1 st' _ _ hr hy H
    refine ⟨fun h => (by rw [h] at hr; cases hr), fun j hj => ?_⟩
    by_cases hji : j = i
    · subst hji; exact ⟨oi, st1, hi, hy, H⟩
    · have := ready_mono hj hji
      rw [H.1] at this
      cases this
  | succ fuel ih =>
    intro listed st st1 st' hc hfree hr hy H
    refine ⟨fun h => (by rw [h] at hr; cases hr), fun j hj => ?_⟩
    by_cases hji : j = i
    · subst hji; exact ⟨oi, st1, hi, hy, H⟩
    · obtain ⟨oj, st2, hoj, h2, h3⟩ := H.2 j (ready_mono hj hji)
      obtain ⟨hjun, oj', hoj', hall⟩ := mem_ready.1 hj
      rw [hoj] at hoj'
      simp only [Option.some.injEq] at hoj'
      subst hoj'
      have hnot : ∀ e ∈ oj.after, Region.binds .any e = true → e.on ≠ i := fun e he hb heq => by
        have h1 := hall e he hb
        rw [heq] at h1
        exact not_listed hr h1
      have qi := hq i (rlt _ i hr) (both_quiet hc hr hj (Ne.symm hji) (rlt listed))
      have qj := hq j (rlt _ j hj) (both_quiet hc hj hr hji (rlt listed))
      rw [qi.1] at hy
      rw [qj.1] at h2
      obtain ⟨st1', g1, g2⟩ := quiet_comm (qi.2 oi hi) (qj.2 oj hoj) (hfree j oj hoj hji hjun hnot) hy h2
      refine ⟨oj, st1', hoj, by rw [qj.1]; exact g1, ih (listed.setIfInBounds j true) st1' st2 st' (closed_set hc hj) (fun k ok hk hki hun hno => ?_) (ready_mono hr (Ne.symm hji)) (by rw [qi.1]; exact g2) ?_⟩
      · refine hfree k ok hk hki ?_ hno
        by_cases hjk : j = k
        · subst hjk; exact hjun
        · rw [getD_set_ne true hjk] at hun; exact hun
      · rw [Array.setIfInBounds_comm _ _ hji]
        exact h3

theorem anyE_lex {ops : Array Oper} {q : Nat → Bool}
    (hq : ∀ j, j < ops.size → soloB ops.toList ((List.range ops.toList.length).map (ancs ops.toList)) j = false → q j = true ∧ ∀ oj, ops[j]? = some oj → quietKind fa oj = true) :
    ∀ (l : List Oper) (qs : List Bool) (k : Nat) (listed : Array Bool) (st st' : St), (∀ j, l[j]? = ops[k + j]?) → (∀ j b, qs[j]? = some b → q (k + j) = b) → Closed ops listed →
    Region.lexFrom .any ops l.length k listed = true → evOpsQ C call fa ops.toList qs l st = some st' → anyE C call fa ops q l.length listed st st'
  | [], qs, k, listed, st, st', _, _, _, hB, h => by
    refine ⟨by simpa [Region.lexFrom] using hB, ?_⟩
    cases qs <;> simpa [evOpsQ] using h
  | o :: l, [], k, listed, st, st', _, _, _, _, h => by simp [evOpsQ] at h
  | o :: l, b :: qs, k, listed, st, st', hl, hqs, hc, hB, h => by
    have h0 : ops[k]? = some o := by simpa using (hl 0).symm
    have hqb : q k = b := by simpa using hqs 0 b rfl
    simp only [List.length_cons, Region.lexFrom, Bool.and_eq_true] at hB
    obtain ⟨⟨hr, hf⟩, hB'⟩ := hB
    have hr' : k ∈ Region.ready .any ops listed := by simpa using hr
    simp only [evOpsQ] at h
    split at h
    · rename_i st1 h1
      refine anyE_first h0 hq l.length listed st st1 st' hc (Region.free_spec h0 hf) hr' (by rw [hqb]; exact h1) ?_
      exact anyE_lex hq l qs (k + 1) _ st1 st' (fun j => by have := hl (j + 1); simpa [Nat.add_assoc, Nat.add_comm 1 j] using this)
        (fun j b' hb' => by have := hqs (j + 1) b' (by simpa using hb'); rw [← this]; congr 1; omega) (closed_set hc hr') hB' h
    · cases h

theorem SRel.dropTmp (S : SRel C.P fa own st a w) : SRel C.P fa own { st with tmp := [] } a w :=
  ⟨S.h, S.nt, S.defers, S.ek, fun t x h => by simp [alook] at h, S.env, fun t x h => by simp [alook] at h⟩

/-- a region -/
theorem region_sound (hn : NoCount C.P) (hm : C.P.follows .mixedOrders = true) (hK : CallOk C.P call) (S : SRel C.P fa own st a w) {id : Nat} {ops : Array Oper} {draw : Bool} {Q : Exit → Act → World → Prop}
    (he : evRegion C call fa draw ops.toList st = some st') (hQ : Post C.P fa own st.heap { st' with tmp := [] } w (Q .normal)) : (Code.region id ops draw).wp C.P Q a w := by
  have hQ' : Post C.P fa own st.heap st' w (Q .normal) := fun a' w' own' S' F E => hQ a' w' own' S'.dropTmp F E
  unfold evRegion at he
  cases draw with
  | false =>
    simp only [cond_false] at he
    exact wp_region_list (by
      have := evOps_sound hn hK (Q := Q) ops.toList st own a w he S hQ'
      simpa using this)
  | true =>
    simp only [cond_true] at he
    cases hd : drawOk fa ops.toList with
    | false => rw [hd] at he; cases he
    | true =>
      rw [hd] at he
      simp only [cond_true] at he
      unfold drawOk at hd
      simp only [Bool.and_eq_true] at hd
      obtain ⟨⟨d1, d2⟩, _⟩ := hd
      have d1' : Region.lexB .any ops = true := by simpa using d1
      simp only [Region.lexB, Bool.and_eq_true] at d1'
      have S' : SRel C.P fa own st a { w with drawn := w.drawn + 1 } := S.grow ⟨rfl, rfl, rfl, Nat.le_refl _, fun _ _ => rfl⟩
      refine wp_region_any hm ?_
      refine anyE_sound hn hK ops.size _ st own a _ (q := fun j => (quietList ops.toList).getD j true) ?_ S' (fun a' w' own' S2 F E => hQ' a' w' own' S2 ⟨F.os, F.tape, F.output, F.size, F.blk⟩ ⟨⟨E.ext.cell, E.ext.map⟩, E.len, E.kind, E.blk⟩)
      have hql : ∀ j, j < ops.toList.length → (quietList ops.toList)[j]? = some (!soloB ops.toList ((List.range ops.toList.length).map (ancs ops.toList)) j) := by
        intro j hj
        unfold quietList
        simp only [List.getElem?_map, List.getElem?_range hj]
        rfl
      have := anyE_lex (C := C) (call := call) (fa := fa) (ops := ops) (q := fun j => (quietList ops.toList).getD j true) (fun j hj hs => by
        have hjl : j < ops.toList.length := by simpa using hj
        refine ⟨?_, fun oj hoj => ?_⟩
        · rw [List.getD_eq_getElem?_getD, hql j hjl, hs]; rfl
        · rw [List.all_eq_true] at d2
          have := d2 j (List.mem_range.2 hjl)
          rw [hs, Bool.false_or, show ops.toList[j]? = some oj by simpa using hoj] at this
          exact this) ops.toList (quietList ops.toList) 0 (Array.replicate ops.size false) st st' (by simp) (fun j b hb => by rw [Nat.zero_add, List.getD_eq_getElem?_getD, hb]; rfl) (fun m hm => by
          unfold listedB at hm
          rcases Nat.lt_or_ge m (Array.replicate ops.size false).size with h' | h'
          · simp at h'; simp [h'] at hm
          · simp at h'; simp [h'] at hm) (by simpa using d1'.2) he
      simpa using this
end
end Go.Abs
namespace Go.Abs

def Out.st : Out → St
  | .norm st => st
  | .exit _ st => st
  | .goto _ st => st
  | .ret st => st
def Out.ex : Out → Exit
  | .norm _ => .normal
  | .exit id _ => .exit id
  | .goto l _ => .goto l
  | .ret _ => .ret

/-- how a piece of code may leave -/
def OutRel (P : Program) (fa : FA) (own : Own) (h : List AObj) (w : World) (out : Out) : Exit → Act → World → Prop :=
  fun e a' w' => e = out.ex ∧ ∃ own', SRel P fa own' out.st a' w' ∧ Frm w own w' own' ∧ ExtA w own h w' own' out.st.heap

section
variable {C : Ctx} {call : CallT} {fa : FA} {own own' own1 : Own} {st st' st1 st2 : St} {a a1 : Act} {w w' w1 : World} {h : List AObj} {out : Out}

theorem OutRel.after {P : Program} (F : Frm w own w1 own1) (E : ExtA w own h w1 own1 st1.heap) {e : Exit} {a' : Act} (r : OutRel P fa own1 st1.heap w1 out e a' w') : OutRel P fa own h w out e a' w' := by
  obtain ⟨h1, own', h2, h3, h4⟩ := r
  exact ⟨h1, own', h2, F.trans h3, E.trans h4⟩

theorem alook_trim (e0 : List (Nat × SV)) : ∀ (env : List (Nat × SV)) (s : Nat) (sv : SV), alook (trimEnv e0 env) s = some sv → alook env s = some sv := by
  intro env
  have key : ∀ (env : List (Nat × SV)) (s : Nat), alook (trimEnv e0 env) s = match alook e0 s with
      | some _ => alook env s
      | none => none := by
    intro env s
    induction env with
    | nil => simp only [trimEnv, alook]; split <;> rfl
    | cons e env ih =>
      obtain ⟨k, v⟩ := e
      simp only [trimEnv]
      cases hk : alook e0 k with
      | some u =>
        simp only [alook]
        cases hb : Nat.beq k s with
        | true =>
          have := Nat.eq_of_beq_eq_true hb
          subst this
          rw [hk]; rfl
        | false => exact ih
      | none =>
        simp only [ih, alook]
        cases hb : Nat.beq k s with
        | true =>
          have := Nat.eq_of_beq_eq_true hb
          subst this
          rw [hk]
        | false => rfl
  intro s sv hs
  rw [key env s] at hs
  split at hs
  · exact hs
  · cases hs

theorem SRel.trim (S : SRel C.P fa own st a w) (e0 : List (Nat × SV)) : SRel C.P fa own (st.trim e0) a w :=
  ⟨S.h, S.nt, S.defers, fun s sv hs => S.ek s sv (alook_trim e0 _ s sv hs), S.tk, fun s sv hs => S.env s sv (alook_trim e0 _ s sv hs), fun t x ht =>
    (S.tmp t x ht).mono ((Grow.refl w).extA own st.heap) (fun _ _ _ _ hb => hb) ((Grow.refl w).keep S.h _) (fun s es _ es' hes => ⟨alook_trim e0 _ s _ hes, rfl⟩)⟩

/-- rounds, counted down -/
theorem wp_loop_n {P : Program} {Q : Exit → Act → World → Prop} {c : Code} (I : Nat → Act → World → Prop) (n : Nat) (h0 : I n a w)
    (round : ∀ n a w, I n a w → c.wp P (Exit.then (fun a' w' => ∃ m, m < n ∧ I m a' w') Q) a w) : (Code.loop c).wp P Q a w := by
  have least : ∀ a w, (∃ n, I n a w) → ∃ n, I n a w ∧ ∀ m, I m a w → n ≤ m := by
    intro a w ⟨n, hn⟩
    induction n using Nat.strongRecOn with
    | _ n ih =>
      by_cases hm : ∃ m, m < n ∧ I m a w
      · obtain ⟨m, h1, h2⟩ := hm; exact ih m h1 h2
      · exact ⟨n, hn, fun m h => Nat.le_of_not_lt fun hlt => hm ⟨m, hlt, h⟩⟩
  classical
  let μ : Act → World → Nat := fun a w => if h : ∃ n, I n a w then Classical.choose (least a w h) else 0
  have hμ : ∀ a w (h : ∃ n, I n a w), I (μ a w) a w ∧ ∀ m, I m a w → μ a w ≤ m := by
    intro a w h
    have : μ a w = Classical.choose (least a w h) := dif_pos h
    rw [this]
    exact Classical.choose_spec (least a w h)
  refine wp_loop (fun a w => ∃ n, I n a w) μ ⟨n, h0⟩ fun a w h => ?_
  refine wp_mono (round _ a w (hμ a w h).1) fun e a' w' q => ?_
  cases e <;> try exact q
  obtain ⟨m, hm, hI⟩ := q
  exact ⟨⟨m, hI⟩, Nat.lt_of_le_of_lt ((hμ a' w' ⟨m, hI⟩).2 m hI) hm⟩

theorem iter_sound {c : Code} {f : St → Option Out} {e0 : List (Nat × SV)} (hf : ∀ st out own a w, f st = some out → SRel C.P fa own st a w → c.wp C.P (OutRel C.P fa own st.heap w out) a w)
    {n : Nat} (he : iter f e0 n st = some out) (S : SRel C.P fa own st a w) : (Code.loop c).wp C.P (OutRel C.P fa own st.heap w out) a w := by
  refine wp_loop_n (fun n a' w' => ∃ st1 own1, iter f e0 n st1 = some out ∧ SRel C.P fa own1 st1 a' w' ∧ Frm w own w' own1 ∧ ExtA w own st.heap w' own1 st1.heap) n ⟨st, own, he, S, .refl w own, (Grow.refl w).extA own _⟩ ?_
  rintro n a' w' ⟨st1, own1, h1, S1, F1, E1⟩
  cases n with
  | zero => simp [iter] at h1
  | succ n =>
    simp only [iter] at h1
    split at h1
    · rename_i st2 h2
      refine wp_mono (hf st1 _ own1 a' w' h2 S1) fun e a2 w2 r => ?_
      obtain ⟨rfl, own2, S2, F2, E2⟩ := r
      exact ⟨n, Nat.lt_succ_self n, st2.trim e0, own2, h1, S2.trim e0, F1.trans F2, E1.trans E2⟩
    · rename_i hne
      refine wp_mono (hf st1 out own1 a' w' h1 S1) fun e a2 w2 r => ?_
      have r' := OutRel.after F1 E1 r
      have hex : ∀ st, out ≠ .norm st := fun st hst => hne st (by rw [h1, hst])
      obtain ⟨he, _⟩ := r
      cases out with
      | norm st => exact absurd rfl (hex st)
      | exit id st => subst he; exact r'
      | goto l st => subst he; exact r'
      | ret st => subst he; exact r'

theorem evC_sound (hn : NoCount C.P) (hm : C.P.follows .mixedOrders = true) (hK : CallOk C.P call) (n : Nat) : ∀ (c : Code) (st : St) (out : Out) (own : Own) (a : Act) (w : World), evC C call fa n c st = some out → SRel C.P fa own st a w →
    c.wp C.P (OutRel C.P fa own st.heap w out) a w := by
  intro c
  induction c with
  | skip =>
    intro st out own a w he S
    simp only [evC, Option.some.injEq] at he
    subst he
    exact wp_skip ⟨rfl, own, S, .refl w own, (Grow.refl w).extA own _⟩
  | label l =>
    intro st out own a w he S
    simp only [evC, Option.some.injEq] at he
    subst he
    exact wp_label ⟨rfl, own, S, .refl w own, (Grow.refl w).extA own _⟩
  | region id ops draw =>
    intro st out own a w he S
    simp only [evC] at he
    split at he
    · rename_i st' h1
      simp only [Option.some.injEq] at he
      subst he
      exact region_sound hn hm hK S h1 fun a' w' own' S' F E => ⟨rfl, own', S', F, E⟩
    · cases he
  | seq x y ihx ihy =>
    intro st out own a w he S
    simp only [evC] at he
    split at he
    · rename_i st1 h1
      refine wp_seq (wp_mono (ihx st _ own a w h1 S) fun e a1 w1 r => ?_)
      obtain ⟨rfl, own1, S1, F1, E1⟩ := r
      exact wp_mono (ihy st1 out own1 a1 w1 he S1) fun e a2 w2 r => r.after F1 E1
    · rename_i hne
      refine wp_seq (wp_mono (ihx st out own a w he S) fun e a1 w1 r => ?_)
      have hex : ∀ st, out ≠ .norm st := fun st hst => hne st (by rw [he, hst])
      have r' := r
      obtain ⟨h1, _⟩ := r
      cases out with
      | norm st => exact absurd rfl (hex st)
      | exit id st => subst h1; exact r'
      | goto l st => subst h1; exact r'
      | ret st => subst h1; exact r'
  | cond c x y ihx ihy =>
    intro st out own a w he S
    simp only [evC] at he
    split at he
    · rename_i t ht
      have hc : a.eval c = .bool t := (opD_rel S ht).bool_inv
      refine wp_cond hc ?_
      cases t with
      | true => exact ihx st out own a w he S
      | false => exact ihy st out own a w he S
    · cases he
  | block id c ih =>
    intro st out own a w he S
    simp only [evC] at he
    refine wp_block ?_
    split at he
    · rename_i k st1 h1
      refine wp_mono (ih st _ own a w h1 S) fun e a1 w1 r => ?_
      obtain ⟨rfl, own1, S1, F1, E1⟩ := r
      cases hb : Nat.beq k id with
      | true =>
        rw [hb] at he
        simp only [cond_true, Option.some.injEq] at he
        subst he
        have := Nat.eq_of_beq_eq_true hb
        subst this
        simp only [Out.ex, Exit.inBlock, if_true]
        exact ⟨rfl, own1, S1.trim _, F1, E1⟩
      | false =>
        rw [hb] at he
        simp only [cond_false, Option.some.injEq] at he
        subst he
        simp only [Out.ex, Exit.inBlock, if_neg (beq_ne.1 hb)]
        exact ⟨rfl, own1, S1, F1, E1⟩
    · rename_i st1 h1
      simp only [Option.some.injEq] at he
      subst he
      refine wp_mono (ih st _ own a w h1 S) fun e a1 w1 r => ?_
      obtain ⟨rfl, own1, S1, F1, E1⟩ := r
      exact ⟨rfl, own1, S1.trim _, F1, E1⟩
    · rename_i hne1 hne2
      refine wp_mono (ih st out own a w he S) fun e a1 w1 r => ?_
      have r' := r
      obtain ⟨h1, _⟩ := r
      cases out with
      | norm st2 => exact absurd he (hne2 st2)
      | exit k st2 => exact absurd he (hne1 k st2)
      | goto l st2 => subst h1; exact r'
      | ret st2 => subst h1; exact r'
  | loop c ih =>
    intro st out own a w he S
    simp only [evC] at he
    exact iter_sound (fun st out own a w h S => ih st out own a w h S) he S
  | exit id =>
    intro st out own a w he S
    simp only [evC, Option.some.injEq] at he
    subst he
    exact wp_exit ⟨rfl, own, S, .refl w own, (Grow.refl w).extA own _⟩
  | ret =>
    intro st out own a w he S
    simp only [evC, Option.some.injEq] at he
    subst he
    exact wp_ret ⟨rfl, own, S, .refl w own, (Grow.refl w).extA own _⟩
  | goto l =>
    intro st out own a w he S
    simp only [evC, Option.some.injEq] at he
    subst he
    exact wp_goto ⟨rfl, own, S, .refl w own, (Grow.refl w).extA own _⟩
  | rangeFunc f ps x y _ _ => intro st out own a w he S; simp [evC] at he
  | scope c _ => intro st out own a w he S; simp [evC] at he
  | refuse s => intro st out own a w he S; simp [evC] at he

theorem evRes_sound (S : SRel C.P fa own st a w) : ∀ {rs : List ResultVar} {vs : List AV}, evRes C st rs = some vs → ∃ us : List Value, us.length = vs.length ∧
    (∀ g : ResultVar → Sem Value, (∀ t, g (.tmp t) = pure (a.tmps.getD t undef)) → (∀ s t, g (.cell s t) = asAddr (a.tmps.getD s undef) >>= loadVar t) → (rs.mapM g).run C.P w = .ok us w) ∧
    ∀ (i : Nat) u v, us[i]? = some u → vs[i]? = some v → ARep C.P w own st.heap u v := by
  intro rs
  induction rs with
  | nil =>
    intro vs he
    simp only [evRes, Option.some.injEq] at he
    subst he
    exact ⟨[], rfl, fun g _ _ => by simp, fun i u v h => by simp at h⟩
  | cons r rs ih =>
    intro vs he
    cases r with
    | tmp t =>
      simp only [evRes] at he
      split at he
      · rename_i v hv
        simp only [Option.map_eq_some_iff] at he
        obtain ⟨vs', h1, rfl⟩ := he
        obtain ⟨us, g1, g2, g3⟩ := ih h1
        have hr := opA_rel S hv
        rw [eval_tmp] at hr
        refine ⟨a.tmps.getD t undef :: us, by simp [g1], fun g k1 k2 => ?_, fun i u v' hu hv' => ?_⟩
        · rw [List.mapM_cons, k1]
          simp only [Sem.run_bind, Sem.run_pure, Result.andThen_ok, g2 g k1 k2]
        · cases i with
          | zero => simp only [List.getElem?_cons_zero, Option.some.injEq] at hu hv'; subst hu; subst hv'; exact hr
          | succ i => simp only [List.getElem?_cons_succ] at hu hv'; exact g3 i u v' hu hv'
      · cases he
    | cell s t =>
      simp only [evRes] at he
      split at he
      · rename_i p hp
        split at he
        · rename_i v hv
          simp only [Option.map_eq_some_iff] at he
          obtain ⟨vs', h1, rfl⟩ := he
          obtain ⟨us, g1, g2, g3⟩ := ih h1
          obtain ⟨b, off, u0, e1, e2, e3⟩ := load_spec S hp hv
          rw [eval_tmp] at e1
          refine ⟨u0 :: us, by simp [g1], fun g k1 k2 => ?_, fun i u v' hu hv' => ?_⟩
          · have ha : (asAddr (.pointer (some ⟨b, off, none⟩))).run C.P w = .ok ⟨b, off, none⟩ w := by simp [asAddr]
            rw [List.mapM_cons, k2]
            simp only [Sem.run_bind, Sem.run_pure, e1, ha, Result.andThen_ok, e2, g2 g k1 k2]
          · cases i with
            | zero => simp only [List.getElem?_cons_zero, Option.some.injEq] at hu hv'; subst hu; subst hv'; exact e3
            | succ i => simp only [List.getElem?_cons_succ] at hu hv'; exact g3 i u v' hu hv'
        · cases he
      · cases he

theorem results_run {fn : Func} (S : SRel C.P fa own st a w) {vs : List AV} (he : evRes C st fn.results.toList = some vs) : ∃ v, (results fn a.tmps).run C.P w = .ok v w ∧ ARep C.P w own st.heap v (resVal vs) := by
  obtain ⟨us, h1, h2, h3⟩ := evRes_sound S he
  have hrun : (results fn a.tmps).run C.P w = .ok (if h : us.toArray.size = 1 then us.toArray[0] else .tuple us.toArray) w := by
    unfold results
    rw [Sem.run_bind, ← Array.toArray_toList (xs := fn.results), List.mapM_toArray, Sem.run_map]
    rw [h2 _ (fun _ => rfl) (fun _ _ => rfl)]
    simp only [Result.andThen_ok, Sem.run_pure]
  refine ⟨_, hrun, ?_⟩
  by_cases hl : us.length = 1
  · obtain ⟨u, rfl⟩ := List.length_eq_one_iff.1 hl
    obtain ⟨v, rfl⟩ : ∃ v, vs = [v] := List.length_eq_one_iff.1 (by rw [← h1]; rfl)
    exact h3 0 u v rfl rfl
  · have hs : ¬ us.toArray.size = 1 := by simpa using hl
    rw [dif_neg hs]
    have : resVal vs = mkTup vs := by
      unfold resVal
      split
      · rename_i v; simp at h1; exact absurd h1 hl
      · rfl
    rw [this]
    exact mkTup_rel (C := C) h1 h3

theorem keepsAll_spec {l : List Nat} : ∀ {n : Nat}, keepsAll l n = true → ∀ i, i < n → has l i = true := by
  intro n
  induction n with
  | zero => intro _ i hi; omega
  | succ n ih =>
    intro h i hi
    simp only [keepsAll, Bool.and_eq_true] at h
    rcases Nat.lt_succ_iff_lt_or_eq.1 hi with h1 | rfl
    · exact ih h.2 i h1
    · exact h.1
theorem alook_env0 : ∀ (vs : List AV) (k s : Nat) (sv : SV), alook (env0 k vs) s = some sv → ∃ v, sv = .val v ∧ k ≤ s ∧ vs[s - k]? = some v := by
  intro vs
  induction vs with
  | nil => intro k s sv h; simp [env0, alook] at h
  | cons v vs ih =>
    intro k s sv h
    simp only [env0, alook] at h
    cases hb : Nat.beq k s with
    | true =>
      rw [hb] at h
      simp only [cond_true, Option.some.injEq] at h
      have := Nat.eq_of_beq_eq_true hb
      subst this
      exact ⟨v, h.symm, Nat.le_refl _, by simp⟩
    | false =>
      rw [hb] at h
      obtain ⟨u, h1, h2, h3⟩ := ih (k + 1) s sv h
      refine ⟨u, h1, by omega, ?_⟩
      rw [show s - k = (s - (k + 1)) + 1 by omega, List.getElem?_cons_succ]
      exact h3

/-- a function's body, from what it is called with -/
theorem fn_sound (hn : NoCount C.P) (hm : C.P.follows .mixedOrders = true) (hK : CallOk C.P call) {n : Nat} {f : FuncId} {args : List AV} {h h' : List AObj} {r : AV} (he : evFn C call n f args h = some (r, h')) : Has C.P f args h r h' := by
  unfold evFn at he
  split at he
  · rename_i fn hfn
    split at he
    · rename_i c hc
      cases hb : Nat.beq fn.ntmps (C.ann f).nt && Nat.ble args.length fn.ntmps && keepsAll (C.ann f).keep args.length with
      | false => rw [hb] at he; cases he
      | true =>
        rw [hb] at he
        simp only [Bool.and_eq_true] at hb
        obtain ⟨⟨b1, b2⟩, b3⟩ := hb
        have hnt : fn.ntmps = (C.ann f).nt := Nat.eq_of_beq_eq_true b1
        have hle : args.length ≤ fn.ntmps := Nat.le_of_ble_eq_true b2
        simp only [cond_true] at he
        refine ⟨⟨fn, hfn, by rw [hc]; rfl⟩, fun w own vs H hO hl hr => ?_⟩
        refine calls_of_wp hfn hc ?_
        have S : SRel C.P (C.ann f) own ⟨env0 0 args, [], h⟩ { tmps := vs ++ Array.replicate (fn.ntmps - vs.size) undef, defers := [] } w := by
          refine ⟨H, by simp; omega, rfl, fun s sv hs => ?_, fun t x ht => by simp [alook] at ht, fun s sv hs => ?_, fun t x ht => by simp [alook] at ht⟩
          · obtain ⟨v, _, _, h3⟩ := alook_env0 args 0 s sv hs
            exact keepsAll_spec b3 s (by have := (List.getElem?_eq_some_iff.1 h3).1; simpa using this)
          · obtain ⟨v, rfl, _, h3⟩ := alook_env0 args 0 s sv hs
            rw [Nat.sub_zero] at h3
            have hlt : s < vs.size := by rw [hl]; exact (List.getElem?_eq_some_iff.1 h3).1
            have hu := Array.getElem?_eq_getElem hlt
            have hg : (vs ++ Array.replicate (fn.ntmps - vs.size) undef).getD s undef = vs[s] := by
              rw [Array.getD_eq_getD_getElem?, Array.getElem?_append_left hlt, hu]; rfl
            simp only [SVRel]
            rw [hg]
            exact hr s _ v hu h3
        have fin : ∀ (st' : St), (match evRes C st' fn.results.toList with
            | some vs => some (resVal vs, st'.heap)
            | none => none) = some (r, h') → ∀ (a' : Act) (w' : World), (∃ own', SRel C.P (C.ann f) own' st' a' w' ∧ Frm w own w' own' ∧ ExtA w own h w' own' st'.heap) →
            a'.defers = [] ∧ ∃ v, (results fn a'.tmps).run C.P w' = .ok v w' ∧ ∃ v1 own', Ending.returned v = .returned v1 ∧ onlyOE own' ∧ HRel C.P w' own' h' ∧ ARep C.P w' own' h' v1 r ∧ Frm w own w' own' ∧ ExtA w own h w' own' h' := by
          intro st' hres a' w' ⟨own', S', F, E⟩
          split at hres
          · rename_i vs' hvs
            simp only [Option.some.injEq, Prod.mk.injEq] at hres
            obtain ⟨rfl, rfl⟩ := hres
            obtain ⟨v, hv, hrep⟩ := results_run S' hvs
            -- what is the frame's own is another's from here on
            have E2 := ownC_extA w' own' st'.heap
            refine ⟨S'.defers, v, hv, v, ownC own', rfl, ownC_only own', ownC_hrel S'.h, hrep.mono E2, F.trans ⟨rfl, rfl, rfl, Nat.le_refl _, fun b _ hb => ⟨rfl, ?_⟩⟩, E.trans E2⟩
            rcases hb with hb | ⟨f, hb⟩ <;> simp [ownC, hb]
          · cases hres
        unfold evEnd at he
        split at he
        · rename_i st' hev
          refine wp_mono (evC_sound hn hm hK n c _ _ own _ w hev S) fun e a' w' q => ?_
          obtain ⟨rfl, q⟩ := q
          exact fin st' he a' w' q
        · rename_i st' hev
          refine wp_mono (evC_sound hn hm hK n c _ _ own _ w hev S) fun e a' w' q => ?_
          obtain ⟨rfl, q⟩ := q
          exact fin st' he a' w' q
        · cases he
    · cases he
  · cases he

theorem callN_sound (hn : NoCount C.P) (hm : C.P.follows .mixedOrders = true) {K : CallT} (hK : CallOk C.P K) : ∀ n, CallOk C.P (callN C K n)
  | 0 => fun f args h r h' he => by simp [callN] at he
  | n + 1 => fun f args h r h' he => by
    simp only [callN] at he
    split at he
    · rename_i r' hr
      simp only [Option.some.injEq] at he
      subst he
      exact hK f args h _ _ hr
    · exact fn_sound hn hm (callN_sound hn hm hK n) he
end
end Go.Abs
namespace Go.Abs

/-- from some number on -/
def Evt {X : Type} (F : Nat → Option X) (x : X) : Prop := ∃ N, ∀ n, N ≤ n → F n = some x
theorem Evt.uniq {X : Type} {F : Nat → Option X} {x y : X} (h : Evt F x) (k : Evt F y) : x = y := by
  obtain ⟨N, h⟩ := h
  obtain ⟨M, k⟩ := k
  have h1 := h (max N M) (Nat.le_max_left _ _)
  rw [k (max N M) (Nat.le_max_right _ _)] at h1
  simpa using h1.symm
theorem Evt.of {X : Type} {F : Nat → Option X} {x : X} (h : ∀ n, F n = some x) : Evt F x := ⟨0, fun n _ => h n⟩
open Classical in
/-- what the calls come to, with any amount of fuel -/
noncomputable def callV (C : Ctx) (K : CallT) : CallT := fun f args h => if e : ∃ r, Evt (fun n => callN C K n f args h) r then some (Classical.choose e) else none

section
variable {C : Ctx} {K : CallT} {fa : FA}

theorem callV_evt {f : FuncId} {args : List AV} {h : List AObj} {r : AV × List AObj} (he : callV C K f args h = some r) : Evt (fun n => callN C K n f args h) r := by
  unfold callV at he
  split at he
  · rename_i e
    simp only [Option.some.injEq] at he
    rw [← he]
    exact Classical.choose_spec e
  · cases he
theorem callV_of {f : FuncId} {args : List AV} {h : List AObj} {r : AV × List AObj} (he : Evt (fun n => callN C K n f args h) r) : callV C K f args h = some r := by
  unfold callV
  have e : ∃ r, Evt (fun n => callN C K n f args h) r := ⟨r, he⟩
  rw [dif_pos e]
  exact congrArg some ((Classical.choose_spec e).uniq he)
theorem callV_table {f : FuncId} {args : List AV} {h : List AObj} {r : AV × List AObj} (he : K f args h = some r) : callV C K f args h = some r :=
  callV_of ⟨1, fun n hn => by
    obtain ⟨m, rfl⟩ : ∃ m, n = m + 1 := ⟨n - 1, by omega⟩
    simp only [callN, he]⟩
theorem callV_sound (hn : NoCount C.P) (hm : C.P.follows .mixedOrders = true) (hK : CallOk C.P K) : CallOk C.P (callV C K) := by
  intro f args h r h' he
  obtain ⟨N, hN⟩ := callV_evt he
  exact callN_sound hn hm hK N f args h r h' (hN N (Nat.le_refl _))

abbrev cv (C : Ctx) (K : CallT) (n : Nat) : CallT := callN C K n

theorem callD_evt {frz : Bool} {f : FuncId} {ds : List DV} {r : DV} (he : callD (callV C K) frz f ds = some r) : Evt (fun n => callD (cv C K n) frz f ds) r := by
  unfold callD at he
  split at he
  · rename_i r' hc hcall
    obtain ⟨N, hN⟩ := callV_evt hcall
    refine ⟨N, fun n hn => ?_⟩
    unfold callD
    simp only [cv, hN n hn]
    exact he
  · rename_i rv hc hne hcall
    obtain ⟨N, hN⟩ := callV_evt hcall
    refine ⟨N, fun n hn => ?_⟩
    unfold callD
    simp only [cv, hN n hn]
    cases rv with
    | d x => exact absurd rfl (hne x)
    | _ => exact he
  · cases he
theorem callH_evt {f : FuncId} {args : List AV} {h : List AObj} {r : AV × List AObj} (he : callH (callV C K) f args h = some r) : Evt (fun n => callH (cv C K n) f args h) r := by
  unfold callH at he
  split at he
  · rename_i ds hds
    split at he
    · rename_i r0 hc hcall
      obtain ⟨N, hN⟩ := callV_evt hcall
      refine ⟨N, fun n hn => ?_⟩
      unfold callH
      simp only [hds, cv, hN n hn]
      exact he
    · cases he
  · rename_i hds
    obtain ⟨N, hN⟩ := callV_evt he
    refine ⟨N, fun n hn => ?_⟩
    unfold callH
    simp only [hds, cv, hN n hn]

theorem evVal_evt {o : Oper} {st : St} {x : XV} (he : evVal C (callV C K) fa o st = some x) : Evt (fun n => evVal C (cv C K n) fa o st) x := by
  unfold evVal at he ⊢
  cases hop : o.op <;> rw [hop] at he
  case makeFunc f _ _ => cases f <;> exact .of fun _ => he
  case slice mx => cases mx <;> exact .of fun _ => he
  case makeMap r => cases r <;> exact .of fun _ => he
  all_goals (try (exact .of fun _ => he))
  rename_i c
  simp only at he ⊢
  cases hc : c.callee <;> simp only [hc] at he ⊢ <;> (try (exact .of fun _ => he))
  rename_i g
  cases hg : opA st g <;> cases ha : evArgs st c.args.toList <;> simp only [hg, ha] at he ⊢ <;> (try (cases he; done))
  rename_i fv vs
  cases hf : fnOf fv <;> simp only [hf] at he ⊢ <;> (try (cases he; done))
  rename_i p
  obtain ⟨f, caps⟩ := p
  simp only at he ⊢
  cases hl : flagged fa.lend o.dst <;> simp only [hl, cond_true, cond_false] at he ⊢
  · cases hd : allD (vs ++ caps) <;> simp only [hd] at he ⊢
    · cases he
    · rename_i ds
      cases hcd : callD (callV C K) (flagged fa.frz o.dst) f ds with
      | none => rw [hcd] at he; cases he
      | some d =>
        rw [hcd] at he
        obtain ⟨N, hN⟩ := callD_evt hcd
        exact ⟨N, fun n hn => by simp only [hN n hn]; exact he⟩
  · cases hd : lendAll st.heap (vs ++ caps) <;> simp only [hd] at he ⊢
    · cases he
    · rename_i p
      obtain ⟨ds, k⟩ := p
      simp only at he ⊢
      cases hcd : callD (callV C K) false f ds with
      | none => rw [hcd] at he; cases he
      | some d =>
        rw [hcd] at he
        obtain ⟨N, hN⟩ := callD_evt hcd
        exact ⟨N, fun n hn => by simp only [hN n hn]; exact he⟩

theorem evEff_evt {o : Oper} {st st' : St} (he : evEff C (callV C K) fa o st = some st') : Evt (fun n => evEff C (cv C K n) fa o st) st' := by
  unfold evEff at he ⊢
  cases hop : o.op <;> rw [hop] at he
  case makeFunc f _ _ => cases f <;> exact .of fun _ => he
  case slice mx => cases mx <;> exact .of fun _ => he
  case makeMap r => cases r <;> exact .of fun _ => he
  all_goals (try (exact .of fun _ => he))
  rename_i c
  simp only at he ⊢
  cases hc : c.callee <;> simp only [hc] at he ⊢ <;> (try (exact .of fun _ => he))
  rename_i g
  cases hg : opA st g <;> cases ha : evArgs st c.args.toList <;> simp only [hg, ha] at he ⊢ <;> (try (cases he; done))
  rename_i fv vs
  cases hf : fnOf fv <;> simp only [hf] at he ⊢ <;> (try (cases he; done))
  rename_i p
  obtain ⟨f, caps⟩ := p
  simp only at he ⊢
  cases hl : flagged fa.lend o.dst <;> simp only [hl, cond_true, cond_false] at he ⊢
  · cases hcd : callH (callV C K) f (vs ++ caps) st.heap with
    | none => rw [hcd] at he; cases he
    | some d =>
      rw [hcd] at he
      obtain ⟨N, hN⟩ := callH_evt hcd
      exact ⟨N, fun n hn => by simp only [hN n hn]; exact he⟩
  · cases he

/-- what is no value in the end is none from some number on, if it is an effect -/
theorem evVal_none {o : Oper} {st st' : St} (hv : evVal C (callV C K) fa o st = none) (he : evEff C (callV C K) fa o st = some st') : ∃ N, ∀ n, N ≤ n → evVal C (cv C K n) fa o st = none := by
  unfold evVal at hv ⊢
  unfold evEff at he
  cases hop : o.op <;> rw [hop] at he hv
  case makeFunc f _ _ => cases f <;> exact ⟨0, fun _ _ => hv⟩
  case slice mx => cases mx <;> exact ⟨0, fun _ _ => hv⟩
  case makeMap r => cases r <;> exact ⟨0, fun _ _ => hv⟩
  all_goals (try (exact ⟨0, fun _ _ => hv⟩))
  rename_i c
  simp only at he hv ⊢
  cases hc : c.callee <;> simp only [hc] at he hv ⊢ <;> (try (exact ⟨0, fun _ _ => hv⟩))
  rename_i g
  cases hg : opA st g <;> cases ha : evArgs st c.args.toList <;> simp only [hg, ha] at he hv ⊢ <;> (try (cases he; done))
  rename_i fv vs
  cases hf : fnOf fv <;> simp only [hf] at he hv ⊢ <;> (try (cases he; done))
  rename_i p
  obtain ⟨f, caps⟩ := p
  simp only at he hv ⊢
  cases hl : flagged fa.lend o.dst <;> simp only [hl, cond_true, cond_false] at he hv ⊢
  · cases hd : allD (vs ++ caps) <;> simp only [hd] at he hv ⊢
    · exact ⟨0, fun _ _ => by simp⟩
    · rename_i ds
      cases hcd : callH (callV C K) f (vs ++ caps) st.heap with
      | none => rw [hcd] at he; cases he
      | some d =>
        unfold callH at hcd
        rw [hd] at hcd
        simp only at hcd
        have hda := allD_get hd
        rw [hda] at hcd
        cases hcall : callV C K f (ds.map .d) [] with
        | none => rw [hcall] at hcd; cases hcd
        | some p =>
          obtain ⟨r, hc⟩ := p
          obtain ⟨N, hN⟩ := callV_evt hcall
          refine ⟨N, fun n hn => ?_⟩
          unfold callD at hv ⊢
          simp only [hcall] at hv
          simp only [cv, hN n hn]
          cases r with
          | d x => cases hv
          | _ => exact hv
  · cases he

theorem evOp_evt {o : Oper} {st st' : St} (he : evOp C (callV C K) fa o st = some st') : Evt (fun n => evOp C (cv C K n) fa o st) st' := by
  unfold evOp at he
  split at he
  · rename_i x hx
    obtain ⟨N, hN⟩ := evVal_evt hx
    exact ⟨N, fun n hn => by have h1 := hN n hn; simp only [evOp] at h1 ⊢; rw [h1]; exact he⟩
  · rename_i hx
    obtain ⟨N, hN⟩ := evVal_none hx he
    obtain ⟨M, hM⟩ := evEff_evt he
    exact ⟨max N M, fun n hn => by have h1 := hN n (by omega); have h2 := hM n (by omega); simp only [evOp] at h1 h2 ⊢; rw [h1]; exact h2⟩

theorem evStep_evt {all : List Oper} {q : Bool} {o : Oper} {st st' : St} (he : evStep C (callV C K) fa all q o st = some st') : Evt (fun n => evStep C (cv C K n) fa all q o st) st' := by
  unfold evStep at he ⊢
  cases hw : wantedA all o st <;> simp only [hw] at he ⊢
  · cases he
  · rename_i b
    cases b <;> simp only at he ⊢
    · exact .of fun _ => he
    · cases q <;> simp only [cond_true, cond_false] at he ⊢
      · exact evOp_evt he
      · cases hv : evVal C (callV C K) fa o st with
        | none => rw [hv] at he; cases he
        | some x =>
          rw [hv] at he
          obtain ⟨N, hN⟩ := evVal_evt hv
          exact ⟨N, fun n hn => by simp only [hN n hn]; exact he⟩

theorem evOps_evt {all : List Oper} : ∀ {l : List Oper} {st st' : St}, evOps C (callV C K) fa all l st = some st' → Evt (fun n => evOps C (cv C K n) fa all l st) st'
  | [], st, st', he => .of fun _ => he
  | o :: l, st, st', he => by
    simp only [evOps] at he
    cases h1 : evStep C (callV C K) fa all false o st with
    | none => rw [h1] at he; cases he
    | some st1 =>
      rw [h1] at he
      obtain ⟨N, hN⟩ := evStep_evt h1
      obtain ⟨M, hM⟩ := evOps_evt (l := l) he
      exact ⟨max N M, fun n hn => by simp only [evOps, hN n (by omega)]; exact hM n (by omega)⟩
theorem evOpsQ_evt {all : List Oper} : ∀ {qs : List Bool} {l : List Oper} {st st' : St}, evOpsQ C (callV C K) fa all qs l st = some st' → Evt (fun n => evOpsQ C (cv C K n) fa all qs l st) st'
  | [], [], st, st', he => .of fun _ => he
  | _ :: _, [], st, st', he => .of fun _ => he
  | [], _ :: _, st, st', he => by simp [evOpsQ] at he
  | q :: qs, o :: l, st, st', he => by
    simp only [evOpsQ] at he
    cases h1 : evStep C (callV C K) fa all q o st with
    | none => rw [h1] at he; cases he
    | some st1 =>
      rw [h1] at he
      obtain ⟨N, hN⟩ := evStep_evt h1
      obtain ⟨M, hM⟩ := evOpsQ_evt (qs := qs) (l := l) he
      exact ⟨max N M, fun n hn => by simp only [evOpsQ, hN n (by omega)]; exact hM n (by omega)⟩
theorem evRegion_evt {draw : Bool} {ops : List Oper} {st st' : St} (he : evRegion C (callV C K) fa draw ops st = some st') : Evt (fun n => evRegion C (cv C K n) fa draw ops st) st' := by
  unfold evRegion at he ⊢
  cases draw <;> simp only [cond_true, cond_false] at he ⊢
  · exact evOps_evt he
  · cases hd : drawOk fa ops <;> simp only [hd, cond_true, cond_false] at he ⊢
    · cases he
    · exact evOpsQ_evt he

theorem iter_evt {f : St → Option Out} {g : Nat → St → Option Out} {e0 : List (Nat × SV)} (hf : ∀ st out, f st = some out → Evt (fun n => g n st) out) : ∀ (k : Nat) (st : St) (out : Out), iter f e0 k st = some out →
    ∃ N, ∀ n, N ≤ n → ∀ j, k ≤ j → iter (g n) e0 j st = some out
  | 0, st, out, he => by simp [iter] at he
  | k + 1, st, out, he => by
    simp only [iter] at he
    cases h1 : f st with
    | none => rw [h1] at he; cases he
    | some o1 =>
      rw [h1] at he
      obtain ⟨N, hN⟩ := hf st o1 h1
      cases o1 with
      | norm st1 =>
        simp only at he
        obtain ⟨M, hM⟩ := iter_evt hf k (st1.trim e0) out he
        refine ⟨max N M, fun n hn j hj => ?_⟩
        obtain ⟨i, rfl⟩ : ∃ i, j = i + 1 := ⟨j - 1, by omega⟩
        simp only [iter, hN n (by omega)]
        exact hM n (by omega) i (by omega)
      | _ =>
        simp only at he
        refine ⟨N, fun n hn j hj => ?_⟩
        obtain ⟨i, rfl⟩ : ∃ i, j = i + 1 := ⟨j - 1, by omega⟩
        simp only [iter, hN n hn]
        exact he

theorem evC_evt (m : Nat) : ∀ (c : Code) (st : St) (out : Out), evC C (callV C K) fa m c st = some out → Evt (fun n => evC C (cv C K n) fa n c st) out := by
  intro c
  induction c with
  | skip => exact fun st out he => .of fun _ => he
  | label l => exact fun st out he => .of fun _ => he
  | exit id => exact fun st out he => .of fun _ => he
  | goto l => exact fun st out he => .of fun _ => he
  | ret => exact fun st out he => .of fun _ => he
  | rangeFunc f ps x y _ _ => intro st out he; simp [evC] at he
  | scope c _ => intro st out he; simp [evC] at he
  | refuse s => intro st out he; simp [evC] at he
  | region id ops draw =>
    intro st out he
    simp only [evC] at he ⊢
    cases h1 : evRegion C (callV C K) fa draw ops.toList st with
    | none => rw [h1] at he; cases he
    | some st1 =>
      rw [h1] at he
      obtain ⟨N, hN⟩ := evRegion_evt h1
      exact ⟨N, fun n hn => by simp only [hN n hn]; exact he⟩
  | seq x y ihx ihy =>
    intro st out he
    simp only [evC] at he ⊢
    cases h1 : evC C (callV C K) fa m x st with
    | none => rw [h1] at he; cases he
    | some o1 =>
      rw [h1] at he
      obtain ⟨N, hN⟩ := ihx st o1 h1
      cases o1 with
      | norm st1 =>
        simp only at he
        obtain ⟨M, hM⟩ := ihy st1 out he
        exact ⟨max N M, fun n hn => by simp only [hN n (by omega)]; exact hM n (by omega)⟩
      | _ => exact ⟨N, fun n hn => by simp only [hN n hn]; exact he⟩
  | cond c x y ihx ihy =>
    intro st out he
    simp only [evC] at he ⊢
    cases hc : opD st c with
    | none => rw [hc] at he; cases he
    | some d =>
      rw [hc] at he
      cases d <;> simp only at he ⊢ <;> (try (cases he; done))
      rename_i b
      cases b <;> simp only [cond_true, cond_false] at he ⊢
      · exact ihy st out he
      · exact ihx st out he
  | block id c ih =>
    intro st out he
    simp only [evC] at he ⊢
    cases h1 : evC C (callV C K) fa m c st with
    | none => rw [h1] at he; cases he
    | some o1 =>
      rw [h1] at he
      obtain ⟨N, hN⟩ := ih st o1 h1
      exact ⟨N, fun n hn => by simp only [hN n hn]; exact he⟩
  | loop c ih =>
    intro st out he
    simp only [evC] at he ⊢
    obtain ⟨N, hN⟩ := iter_evt (f := evC C (callV C K) fa m c) (g := fun n => evC C (cv C K n) fa n c) (fun st out h => ih st out h) m st out he
    exact ⟨max N m, fun n hn => hN n (by omega) n (by omega)⟩

/-- a function's result, once its body is evaluated -/
theorem callV_fn {m : Nat} {f : FuncId} {args : List AV} {h : List AObj} {r : AV × List AObj} (hK : K f args h = none) (he : evFn C (callV C K) m f args h = some r) : callV C K f args h = some r := by
  refine callV_of ?_
  unfold evFn at he
  cases hf : C.P.funcs[f]? with
  | none => rw [hf] at he; cases he
  | some fn =>
    rw [hf] at he
    simp only at he
    cases hb : fn.body with
    | none => rw [hb] at he; cases he
    | some c =>
      rw [hb] at he
      simp only at he
      cases hc : Nat.beq fn.ntmps (C.ann f).nt && Nat.ble args.length fn.ntmps && keepsAll (C.ann f).keep args.length with
      | false => rw [hc] at he; cases he
      | true =>
        rw [hc] at he
        simp only [cond_true] at he
        cases ho : evC C (callV C K) (C.ann f) m c ⟨env0 0 args, [], h⟩ with
        | none => rw [ho] at he; simp [evEnd] at he
        | some out =>
          rw [ho] at he
          obtain ⟨N, hN⟩ := evC_evt m c _ out ho
          refine ⟨N + 1, fun n hn => ?_⟩
          obtain ⟨j, rfl⟩ : ∃ j, n = j + 1 := ⟨n - 1, by omega⟩
          have hj := hN j (by omega)
          simp only [callN, hK, evFn, hf, hb, hc, cond_true]
          rw [show evC C (callN C K j) (C.ann f) j c ⟨env0 0 args, [], h⟩ = some out from hj]
          exact he
end
end Go.Abs
namespace Go.Abs

/-- never a value -/
def effOp : Op → Bool
  | .alloc _ => true
  | .box _ _ => true
  | .store _ _ _ => true
  | .mapUpdate _ _ _ _ => true
  | .makeMap _ _ => true
  | .makeSlice _ _ _ => true
  | .call { callee := .builtin .append, .. } => true
  | .call { callee := .builtin .delete, .. } => true
  | _ => false
def effKind (fa : FA) (o : Oper) : Bool := effOp o.op || takes fa o.dst
/-- a region that draws, each operation a value unless it never is one -/
def evOpsK (C : Ctx) (call : CallT) (fa : FA) (draw : Bool) (all : List Oper) : List Oper → St → Option St
  | [], st => some st
  | o :: r, st => match evStep C call fa all (draw && !effKind fa o) o st with
    | some st' => evOpsK C call fa draw all r st'
    | none => none
def okRegion (fa : FA) (draw : Bool) (ops : List Oper) : Bool := bif draw then drawOk fa ops &&
    (let anc := (List.range ops.length).map (ancs ops)
     (List.range ops.length).all fun j => soloB ops anc j || (match ops[j]? with | some o => !effKind fa o | none => false)) else true
def okC (fa : FA) : Code → Bool
  | .region _ ops draw => okRegion fa draw ops.toList
  | .seq a b => okC fa a && okC fa b
  | .cond _ a b => okC fa a && okC fa b
  | .block _ c => okC fa c
  | .loop c => okC fa c
  | _ => true
def evQ (C : Ctx) (call : CallT) (fa : FA) (n : Nat) : Code → St → Option Out
  | .skip, st => some (.norm st)
  | .label _, st => some (.norm st)
  | .region _ ops draw, st => match evOpsK C call fa draw ops.toList ops.toList st with
    | some st' => some (.norm { st' with tmp := [] })
    | none => none
  | .seq a b, st => match evQ C call fa n a st with
    | some (.norm st') => evQ C call fa n b st'
    | r => r
  | .cond c a b, st => match opD st c with
    | some (.bool t) => bif t then evQ C call fa n a st else evQ C call fa n b st
    | _ => none
  | .block id c, st => match evQ C call fa n c st with
    | some (.exit k st') => bif Nat.beq k id then some (.norm (st'.trim st.env)) else some (.exit k st')
    | some (.norm st') => some (.norm (st'.trim st.env))
    | r => r
  | .loop c, st => iter (evQ C call fa n c) st.env n st
  | .exit id, st => some (.exit id st)
  | .ret, st => some (.ret st)
  | .goto l, st => some (.goto l st)
  | _, _ => none

section
variable {C : Ctx} {call : CallT} {fa : FA}

theorem q_skip (n : Nat) (st : St) : evQ C call fa n .skip st = some (.norm st) := rfl
theorem q_label (n l : Nat) (st : St) : evQ C call fa n (.label l) st = some (.norm st) := rfl
theorem q_region (n id : Nat) (ops : Array Oper) (draw : Bool) (st : St) : evQ C call fa n (.region id ops draw) st = match evOpsK C call fa draw ops.toList ops.toList st with
    | some st' => some (.norm { st' with tmp := [] })
    | none => none := rfl
theorem q_seq (n : Nat) (a b : Code) (st : St) : evQ C call fa n (.seq a b) st = match evQ C call fa n a st with
    | some (.norm st') => evQ C call fa n b st'
    | r => r := rfl
theorem q_cond (n : Nat) (c : Operand) (a b : Code) (st : St) : evQ C call fa n (.cond c a b) st = match opD st c with
    | some (.bool t) => bif t then evQ C call fa n a st else evQ C call fa n b st
    | _ => none := rfl
theorem q_block (n id : Nat) (c : Code) (st : St) : evQ C call fa n (.block id c) st = match evQ C call fa n c st with
    | some (.exit k st') => bif Nat.beq k id then some (.norm (st'.trim st.env)) else some (.exit k st')
    | some (.norm st') => some (.norm (st'.trim st.env))
    | r => r := rfl
theorem q_loop (n : Nat) (c : Code) (st : St) : evQ C call fa n (.loop c) st = iter (evQ C call fa n c) st.env n st := rfl
theorem q_exit (n id : Nat) (st : St) : evQ C call fa n (.exit id) st = some (.exit id st) := rfl
theorem q_ret (n : Nat) (st : St) : evQ C call fa n .ret st = some (.ret st) := rfl
theorem q_goto (n l : Nat) (st : St) : evQ C call fa n (.goto l) st = some (.goto l st) := rfl

theorem evStep_weaken {all : List Oper} {q q' : Bool} {o : Oper} {st st' : St} (hq : q' = true → q = true) (h : evStep C call fa all q o st = some st') : evStep C call fa all q' o st = some st' := by
  cases q' with
  | true => rw [hq rfl] at h; exact h
  | false =>
    cases q with
    | false => exact h
    | true =>
      unfold evStep at h ⊢
      cases hw : wantedA all o st with
      | none => rw [hw] at h; cases h
      | some b =>
        rw [hw] at h
        cases b with
        | false => exact h
        | true =>
          simp only [cond_true, cond_false] at h ⊢
          unfold evOp
          cases hv : evVal C call fa o st with
          | none => rw [hv] at h; cases h
          | some x => rw [hv] at h; exact h

theorem evOpsK_false (all : List Oper) : ∀ (l : List Oper) (st : St), evOpsK C call fa false all l st = evOps C call fa all l st
  | [], st => rfl
  | o :: l, st => by
    simp only [evOpsK, evOps, Bool.false_and]
    cases evStep C call fa all false o st with
    | none => rfl
    | some st1 => exact evOpsK_false all l st1
theorem evOpsK_true (all : List Oper) : ∀ (l : List Oper) (qs : List Bool) (st st' : St), l.length = qs.length → (∀ (j : Nat) o q, l[j]? = some o → qs[j]? = some q → q = true → effKind fa o = false) →
    evOpsK C call fa true all l st = some st' → evOpsQ C call fa all qs l st = some st'
  | [], [], st, st', _, _, h => h
  | [], _ :: _, st, st', hl, _, h => by simp at hl
  | _ :: _, [], st, st', hl, _, h => by simp at hl
  | o :: l, q :: qs, st, st', hl, hq, h => by
    simp only [evOpsK, Bool.true_and] at h
    cases h1 : evStep C call fa all (!effKind fa o) o st with
    | none => rw [h1] at h; cases h
    | some st1 =>
      rw [h1] at h
      have h2 := evStep_weaken (q' := q) (fun hqt => by rw [hq 0 o q rfl rfl hqt]; rfl) h1
      simp only [evOpsQ, h2]
      exact evOpsK_true all l qs st1 st' (by simpa using hl) (fun j o' q' h3 h4 => hq (j + 1) o' q' (by simpa using h3) (by simpa using h4)) h

theorem evRegion_of {draw : Bool} {ops : List Oper} {st st' : St} (hok : okRegion fa draw ops = true) (h : evOpsK C call fa draw ops ops st = some st') : evRegion C call fa draw ops st = some st' := by
  unfold evRegion
  cases draw with
  | false => rw [evOpsK_false] at h; exact h
  | true =>
    unfold okRegion at hok
    simp only [cond_true, Bool.and_eq_true] at hok
    simp only [cond_true, hok.1]
    refine evOpsK_true ops ops (quietList ops) st st' (by simp [quietList]) (fun j o q hj hq hqt => ?_) h
    have hlt : j < ops.length := (List.getElem?_eq_some_iff.1 hj).1
    have h2 := hok.2
    rw [List.all_eq_true] at h2
    have h3 := h2 j (List.mem_range.2 hlt)
    unfold quietList at hq
    simp only [List.getElem?_map, List.getElem?_range hlt, Option.map_some, Option.some.injEq] at hq
    rw [← hq] at hqt
    simp only [Bool.not_eq_true'] at hqt
    rw [hqt, hj, Bool.false_or] at h3
    simpa using h3

theorem iter_imp {f g : St → Option Out} {e0 : List (Nat × SV)} (h : ∀ st out, f st = some out → g st = some out) : ∀ (n : Nat) (st : St) (out : Out), iter f e0 n st = some out → iter g e0 n st = some out
  | 0, st, out, he => by simp [iter] at he
  | n + 1, st, out, he => by
    simp only [iter] at he ⊢
    cases h1 : f st with
    | none => rw [h1] at he; cases he
    | some o =>
      rw [h1] at he
      rw [h st o h1]
      cases o with
      | norm st1 => exact iter_imp h n _ out he
      | _ => exact he

theorem evC_of_evQ (n : Nat) : ∀ (c : Code) (st : St) (out : Out), okC fa c = true → evQ C call fa n c st = some out → evC C call fa n c st = some out := by
  intro c
  induction c with
  | skip => exact fun st out _ he => he
  | label l => exact fun st out _ he => he
  | exit id => exact fun st out _ he => he
  | goto l => exact fun st out _ he => he
  | ret => exact fun st out _ he => he
  | rangeFunc f ps x y _ _ => intro st out _ he; simp [evQ] at he
  | scope c _ => intro st out _ he; simp [evQ] at he
  | refuse s => intro st out _ he; simp [evQ] at he
  | region id ops draw =>
    intro st out hok he
    simp only [evQ] at he
    simp only [okC] at hok
    cases h1 : evOpsK C call fa draw ops.toList ops.toList st with
    | none => rw [h1] at he; cases he
    | some st1 =>
      rw [h1] at he
      simp only [evC, evRegion_of hok h1]
      exact he
  | seq x y ihx ihy =>
    intro st out hok he
    simp only [okC, Bool.and_eq_true] at hok
    simp only [evQ] at he
    cases h1 : evQ C call fa n x st with
    | none => rw [h1] at he; cases he
    | some o1 =>
      rw [h1] at he
      simp only [evC, ihx st o1 hok.1 h1]
      cases o1 with
      | norm st1 => exact ihy st1 out hok.2 he
      | _ => exact he
  | cond c x y ihx ihy =>
    intro st out hok he
    simp only [okC, Bool.and_eq_true] at hok
    simp only [evQ] at he
    simp only [evC]
    cases hc : opD st c with
    | none => rw [hc] at he; cases he
    | some d =>
      rw [hc] at he
      cases d <;> simp only at he ⊢ <;> (try (cases he; done))
      rename_i b
      cases b <;> simp only [cond_true, cond_false] at he ⊢
      · exact ihy st out hok.2 he
      · exact ihx st out hok.1 he
  | block id c ih =>
    intro st out hok he
    simp only [okC] at hok
    simp only [evQ] at he
    cases h1 : evQ C call fa n c st with
    | none => rw [h1] at he; cases he
    | some o1 =>
      rw [h1] at he
      simp only [evC, ih st o1 hok h1]
      exact he
  | loop c ih =>
    intro st out hok he
    simp only [okC] at hok
    simp only [evQ] at he
    simp only [evC]
    exact iter_imp (fun st out h => ih st out hok h) n st out he

def okF (fa : FA) (fn : Func) (k : Nat) : Bool := Nat.beq fn.ntmps fa.nt && Nat.ble k fn.ntmps && keepsAll fa.keep k && (match fn.body with | some c => okC fa c | none => false)
def bodyOf (fn : Func) : Code := fn.body.getD .skip

/-- a function's result: what is to be shown of it -/
theorem callV_q {K : CallT} {f : FuncId} {fn : Func} {args : List AV} {h : List AObj} {r : AV × List AObj} {out : Out} (m : Nat) (hK : K f args h = none) (hf : C.P.funcs[f]? = some fn) (hok : okF (C.ann f) fn args.length = true)
    (hev : evQ C (callV C K) (C.ann f) m (bodyOf fn) ⟨env0 0 args, [], h⟩ = some out) (hr : evEnd C fn (some out) = some r) : callV C K f args h = some r := by
  unfold okF at hok
  simp only [Bool.and_eq_true] at hok
  obtain ⟨⟨⟨h1, h2⟩, h3⟩, h4⟩ := hok
  refine callV_fn (m := m) hK ?_
  unfold evFn
  rw [hf]
  simp only
  cases hb : fn.body with
  | none => rw [hb] at h4; cases h4
  | some c =>
    rw [hb] at h4
    simp only at h4
    have hc : bodyOf fn = c := by simp [bodyOf, hb]
    rw [hc] at hev
    simp only [h1, h2, h3, Bool.and_self, cond_true]
    rw [evC_of_evQ m c _ out h4 hev]
    exact hr

theorem callV_q2 {K : CallT} {f : FuncId} {fn : Func} {args : List AV} {h : List AObj} {r : AV × List AObj} (m : Nat) (hK : K f args h = none) (hf : C.P.funcs[f]? = some fn) (hok : okF (C.ann f) fn args.length = true)
    (hev : evEnd C fn (evQ C (callV C K) (C.ann f) m (bodyOf fn) ⟨env0 0 args, [], h⟩) = some r) : callV C K f args h = some r := by
  cases ho : evQ C (callV C K) (C.ann f) m (bodyOf fn) ⟨env0 0 args, [], h⟩ with
  | none => rw [ho] at hev; simp [evEnd] at hev
  | some out => rw [ho] at hev; exact callV_q m hK hf hok ho hev
/-- of a call, as data -/
theorem callD_of {call : CallT} {frz : Bool} {f : FuncId} {ds : List DV} {r : DV} (h : call f (ds.map .d) [] = some (.d r, [])) : callD call frz f ds = some r := by
  unfold callD; rw [h]

/-- rounds, each one over an element; it may leave early -/
def runL {α β : Type} (step : Nat → β → α → β ⊕ Out) (fin : Nat → β → Out) : Nat → β → List α → Out
  | i, b, [] => fin i b
  | i, b, v :: r => match step i b v with
    | .inl b' => runL step fin (i + 1) b' r
    | .inr o => o
theorem iter_run {α β : Type} {f : St → Option Out} {e0 : List (Nat × SV)} (l : List α) (S : Nat → β → St) (I : Nat → β → Prop) (step : Nat → β → α → β ⊕ Out) (fin : Nat → β → Out)
    (h1 : ∀ i b v b', l[i]? = some v → I i b → step i b v = .inl b' → I (i + 1) b' ∧ ∃ T, f (S i b) = some (.norm T) ∧ T.trim e0 = S (i + 1) b')
    (h2 : ∀ i b v o, l[i]? = some v → I i b → step i b v = .inr o → f (S i b) = some o ∧ ∀ st, o ≠ .norm st)
    (h3 : ∀ b, I l.length b → f (S l.length b) = some (fin l.length b) ∧ ∀ st, fin l.length b ≠ .norm st) :
    ∀ (r : List α) (i : Nat) (b : β) (fuel : Nat), i ≤ l.length → l.drop i = r → I i b → r.length < fuel → iter f e0 fuel (S i b) = some (runL step fin i b r)
  | [], i, b, fuel, hle, hr, hI, hf => by
    obtain ⟨k, rfl⟩ : ∃ k, fuel = k + 1 := ⟨fuel - 1, by omega⟩
    have hi : i = l.length := by
      have := congrArg List.length hr
      simp at this
      omega
    subst hi
    obtain ⟨g1, g2⟩ := h3 b hI
    simp only [iter, runL, g1]
    cases hfin : fin l.length b with
    | norm st => exact absurd hfin (g2 st)
    | _ => rfl
  | v :: r, i, b, fuel, hle, hr, hI, hf => by
    obtain ⟨k, rfl⟩ : ∃ k, fuel = k + 1 := ⟨fuel - 1, by omega⟩
    have hv : l[i]? = some v := by
      have := congrArg (fun x => x[0]?) hr
      simpa using this
    have hi : i < l.length := (List.getElem?_eq_some_iff.1 hv).1
    have hr' : l.drop (i + 1) = r := by
      rw [← List.drop_drop, hr]; rfl
    simp only [runL]
    cases hs : step i b v with
    | inl b' =>
      obtain ⟨g1, T, g2, g3⟩ := h1 i b v b' hv hI hs
      simp only [iter, g2, g3]
      exact iter_run l S I step fin h1 h2 h3 r (i + 1) b' k (by omega) hr' g1 (by simp at hf; omega)
    | inr o =>
      obtain ⟨g1, g2⟩ := h2 i b v o hv hI hs
      simp only [iter, g1]
      cases o with
      | norm st => exact absurd rfl (g2 st)
      | _ => rfl

/-- rounds up to the one that leaves -/
theorem iter_to {f : St → Option Out} {e0 : List (Nat × SV)} (S : Nat → St) {out : Out} : ∀ (n fuel i : Nat), n < fuel → (∀ j, i ≤ j → j < i + n → ∃ T, f (S j) = some (.norm T) ∧ T.trim e0 = S (j + 1)) → f (S (i + n)) = some out → (∀ st, out ≠ .norm st) → iter f e0 fuel (S i) = some out
  | 0, fuel, i, hf, _, he, hne => by
    obtain ⟨k, rfl⟩ : ∃ k, fuel = k + 1 := ⟨fuel - 1, by omega⟩
    simp only [iter]
    rw [show S i = S (i + 0) from rfl, he]
    cases out with
    | norm st => exact absurd rfl (hne st)
    | _ => rfl
  | n + 1, fuel, i, hf, hb, he, hne => by
    obtain ⟨k, rfl⟩ : ∃ k, fuel = k + 1 := ⟨fuel - 1, by omega⟩
    obtain ⟨T, h1, h2⟩ := hb i (Nat.le_refl _) (by omega)
    simp only [iter, h1]
    rw [h2]
    exact iter_to S n k (i + 1) (by omega) (fun j hj1 hj2 => hb j (by omega) (by omega)) (by rw [show i + 1 + n = i + (n + 1) by omega]; exact he) hne

/-! a body as a row of atoms -/
def spine : Code → List Code
  | .seq a b => spine a ++ spine b
  | c => [c]
def evL (C : Ctx) (call : CallT) (fa : FA) (n : Nat) : List Code → St → Option Out
  | [], st => some (.norm st)
  | c :: r, st => match evQ C call fa n c st with
    | some (.norm st') => evL C call fa n r st'
    | x => x
theorem evL_append (n : Nat) : ∀ (l r : List Code) (st : St), evL C call fa n (l ++ r) st = match evL C call fa n l st with
    | some (.norm st') => evL C call fa n r st'
    | x => x
  | [], r, st => rfl
  | c :: l, r, st => by
    simp only [List.cons_append, evL]
    cases evQ C call fa n c st with
    | none => rfl
    | some o =>
      cases o with
      | norm st' => exact evL_append n l r st'
      | _ => rfl
theorem evL_one (n : Nat) (c : Code) (st : St) : evL C call fa n [c] st = evQ C call fa n c st := by
  simp only [evL]
  cases evQ C call fa n c st with
  | none => rfl
  | some o => cases o <;> rfl
theorem evQ_spine (n : Nat) : ∀ (c : Code) (st : St), evQ C call fa n c st = evL C call fa n (spine c) st
  | .seq a b, st => by
    simp only [spine, evL_append, q_seq]
    rw [← evQ_spine n a st]
    cases evQ C call fa n a st with
    | none => rfl
    | some o =>
      cases o with
      | norm st' => exact evQ_spine n b st'
      | _ => rfl
  | .skip, st => (evL_one n _ st).symm
  | .label _, st => (evL_one n _ st).symm
  | .region _ _ _, st => (evL_one n _ st).symm
  | .cond _ _ _, st => (evL_one n _ st).symm
  | .block _ _, st => (evL_one n _ st).symm
  | .loop _, st => (evL_one n _ st).symm
  | .exit _, st => (evL_one n _ st).symm
  | .ret, st => (evL_one n _ st).symm
  | .goto _, st => (evL_one n _ st).symm
  | .rangeFunc _ _ _ _, st => (evL_one n _ st).symm
  | .scope _, st => (evL_one n _ st).symm
  | .refuse _, st => (evL_one n _ st).symm
/-- the atoms, each by its place -/
def atom (c : Code) (k : Nat) : Code := (spine c).getD k .skip
def atoms (c : Code) (n : Nat) : List Code := (List.range n).map (atom c)
/-- what is in a block, behind a condition -/
def inner : Code → Code
  | .block _ c => c
  | .loop c => c
  | .cond _ a _ => a
  | c => c
def other : Code → Code
  | .cond _ _ b => b
  | c => c
theorem atoms_spine {c : Code} {n : Nat} (h : (spine c).length = n) : spine c = atoms c n := by
  subst h
  apply List.ext_getElem?
  intro i
  unfold atoms
  rw [List.getElem?_map]
  rcases Nat.lt_or_ge i (spine c).length with hi | hi
  · rw [List.getElem?_range hi, List.getElem?_eq_getElem hi]
    simp only [Option.map_some, atom, List.getD_eq_getElem?_getD, List.getElem?_eq_getElem hi, Option.getD_some]
  · rw [List.getElem?_eq_none (by simpa using hi), List.getElem?_eq_none (by simpa using hi)]
    rfl
end
end Go.Abs
namespace Go.Tev
open Go.Abs

/-! values of known types -/
inductive TV (X : Nat → Type) : Type where
  | b (v : Bool)
  | i (k : IntKind) (n : Int)
  | s (v : List UInt8)
  | t (ty : Nat) (x : X ty)
  | l (e : Nat) (xs : List (X e))
  | m (k v : Nat) (es : List (X k × X v))
  | g (cs : List (TV X))
  | e0
  | nilm
  | nilp
  | nilf
  | nili
  | fn (f : Nat) (caps : List (TV X))
  | tup (vs : List (TV X))
  | ptr (j off : Nat)
  | osl (j g e : Nat) (n : Nat)
  | mp (j : Nat)

inductive TX (X : Nat → Type) : Type where
  | a (v : TV X)
  | sp (slot off : Nat)
  | fp (cs : List (TV X))
  | ap (j g e : Nat) (i : Nat) (off : Nat)
  | own (e : Nat) (xs : List (X e))
  | al (slot : Nat) (e : Nat) (xs : List (X e))
  | un

inductive TSV (X : Nat → Type) : Type where
  | val (v : TV X)
  | own (e : Nat) (xs : List (X e))
  | box (cs : List (TV X))

inductive TObj (X : Nat → Type) : Type where
  | arr (g : Nat) (ap : Bool) (e : Nat) (xs : List (X e))
  | var (cs : List (TV X))
  | map (k v : Nat) (es : List (X k × X v))

abbrev Chain := List (Nat × Bool)
structure TE (X : Nat → Type) where
  g : Chain
  x : TX X
structure TSt (X : Nat → Type) where
  env : List (Nat × TSV X)
  tmp : List (Nat × TE X)
  heap : List (TObj X)

/-! what may fail: a part -/
inductive PR (α : Type) : Type 1 where
  | tot (a : α)
  | part {β : Type} (p : Option β) (d : β) (f : β → α)
def PR.map {α β : Type} (h : α → β) : PR α → PR β
  | .tot a => .tot (h a)
  | .part p d f => .part p d (fun b => h (f b))
def PR.go {α R : Type} (g : Option Bool) (r : PR α) (k : α → Option R) : Option R := match r with
  | .tot a => k a
  | .part p d f => match g with
    | none => Option.bind p fun b => k (f b)
    | some c => Option.bind (cond c p (some d)) fun b => k (f b)

/-- the program's types -/
structure Uni where
  X : Nat → Type
  enc : (t : Nat) → X t → DV
  dflt : (t : Nat) → X t
  keq : (t : Nat) → X t → X t → Bool
  noMap : (t : Nat) → Bool
  isKey : (t : Nat) → Bool
  dok : (t : Nat) → Bool
  inj : (t : Nat) → Option (X t → TV X)
  cells : (t : Nat) → Option (X t → List (TV X))
  csz : (t : Nat) → Option Nat
  prj : (t : Nat) → TV X → Option (X t)
  pack : (t : Nat) → List (TV X) → Option (X t)
  zcells : (t : Nat) → Option (List (TV X))
  eqT : (t : Nat) → Option (X t → X t → Bool)
  bytes : (e : Nat) → Option ((List UInt8 → List (X e)) × (List (X e) → List UInt8))

/-- of many types -/
def PX (X : Nat → Type) : List Nat → Type
  | [] => Unit
  | [t] => X t
  | t :: u :: r => X t × PX X (u :: r)

/-- an argument: of a type, or a closure that is known -/
inductive AK where
  | ty (t : Nat)
  | fn (f : Nat)
def AK.tys : List AK → List Nat
  | [] => []
  | .ty t :: r => t :: AK.tys r
  | _ :: r => AK.tys r
/-- a function of data -/
structure TCall (X : Nat → Type) where
  dir : Bool
  ak : List AK
  rts : List Nat
  fn : PX X (AK.tys ak) → Option (PX X rts)

/-- what a reference leads to -/
inductive RK where
  | map (k v : Nat)
  | var (ts : List Nat)
def RK.T (X : Nat → Type) : RK → Type
  | .map k v => List (X k × X v)
  | .var ts => PX X ts
def PR' (X : Nat → Type) : List RK → Type
  | [] => Unit
  | r :: l => r.T X × PR' X l
inductive AR where
  | ty (t : Nat)
  | fn (f : Nat)
  | ref (r : RK)
def AR.tys : List AR → List Nat
  | [] => []
  | .ty t :: r => t :: AR.tys r
  | _ :: r => AR.tys r
def AR.refs : List AR → List RK
  | [] => []
  | .ref k :: r => k :: AR.refs r
  | _ :: r => AR.refs r
/-- a function that writes what it is lent -/
structure TCallR (X : Nat → Type) where
  ak : List AR
  rts : List Nat
  fn : PX X (AR.tys ak) → PR' X (AR.refs ak) → Option (PX X rts × PR' X (AR.refs ak))

structure Cx where
  C : Ctx
  U : Uni
  T : List (Nat × TCall U.X)
  TR : List (Nat × TCallR U.X) := []
  lk : Nat → List Nat

def Ctx.elemT (C : Ctx) (t : TypeId) : Option Nat := match C.P.underlying t with
  | some (.slice e) => some e
  | _ => none
def Ctx.mapT (C : Ctx) (t : TypeId) : Option (Nat × Nat) := match C.P.underlying t with
  | some (.map k v) => some (k, v)
  | _ => none

section
variable (x : Cx)

abbrev Cx.X := x.U.X

def castX {X : Nat → Type} (t' t : Nat) (y : X t') : Option (X t) := if h : t' = t then some (h ▸ y) else none
def castL {X : Nat → Type} (t' t : Nat) (y : List (X t')) : Option (List (X t)) := if h : t' = t then some (h ▸ y) else none

def TX.flat {X : Nat → Type} : TX X → TX X
  | .own e xs => .a (.l e xs)
  | .al _ e xs => .a (.l e xs)
  | y => y
def TX.copy {X : Nat → Type} : TX X → TX X
  | .own e xs => .a (.l e xs)
  | y => y

def tdv1 {X : Nat → Type} : DV → Option (TV X)
  | .bool b => some (.b b)
  | .int k n => some (.i k n)
  | .str s => some (.s s)
  | .nilp => some .nilp
  | .nilm => some .nilm
  | .nilf => some .nilf
  | .nili => some .nili
  | .slc [] => some .e0
  | _ => none
def tdv {X : Nat → Type} : DV → Option (TV X)
  | .agg cs => (mapO tdv1 cs).map .g
  | v => tdv1 v

def isPrim {X : Nat → Type} : TV X → Bool
  | .b _ => true
  | .i _ _ => true
  | .s _ => true
  | .e0 => true
  | .nilm => true
  | .nilp => true
  | .nilf => true
  | .nili => true
  | _ => false
/-- data that can be a cell, or a row of cells -/
def isD {X : Nat → Type} : TV X → Bool
  | .ptr _ _ => false
  | .osl _ _ _ _ => false
  | .mp _ => false
  | .fn _ [] => true
  | .fn _ _ => false
  | .tup _ => false
  | .g cs => cs.all isPrim
  | _ => true

def memB (p : Nat × Bool) : Chain → Bool
  | [] => false
  | q :: r => bif Nat.beq p.1 q.1 && (p.2 == q.2) then true else memB p r
def subB : Chain → Chain → Bool
  | [], _ => true
  | p :: r, ch => memB p ch && subB r ch

def topx {X : Nat → Type} (s : TSt X) (ch : Chain) : Operand → Option (TX X)
  | .tmp t => match alook s.tmp t with
    | some e => bif subB e.g ch then some e.x.copy else none
    | none => match alook s.env t with
      | some (.val v) => some (.a v)
      | some (.own e xs) => some (.al t e xs)
      | some (.box _) => some (.sp t 0)
      | none => none
  | .const v => match cval v with
    | some d => match tdv d with
      | some y => some (.a y)
      | none => none
    | none => none
  | .func f => some (.a (.fn f []))
  | .global _ => none
def topd {X : Nat → Type} (s : TSt X) (ch : Chain) (o : Operand) : Option (TX X) := match topx s ch o with
  | some y => some y.flat
  | none => none
def topA {X : Nat → Type} (s : TSt X) (ch : Chain) (o : Operand) : Option (TV X) := match topd s ch o with
  | some (.a v) => some v
  | _ => none

/-- of a type -/
def Cx.coerce (t : Nat) : TV x.X → Option (TV x.X)
  | .e0 => match Ctx.elemT x.C t with
    | some e => some (.l e [])
    | none => some .e0
  | .g cs => match x.U.pack t cs with
    | some y => some (.t t y)
    | none => none
  | v => some v
def Cx.coerceX (t : Nat) : TX x.X → Option (TX x.X)
  | .a v => match x.coerce t v with
    | some w => some (.a w)
    | none => none
  | y => some y
def Cx.vcells : TV x.X → Option (List (TV x.X))
  | .t ty y => match x.U.cells ty with
    | some f => some (f y)
    | none => none
  | .g cs => some cs
  | .tup _ => none
  | v => some [v]
def Cx.ld (t : Nat) (cs : List (TV x.X)) : Option (TV x.X) := match x.C.isAgg t with
  | some true => match x.C.size t with
    | some n => bif Nat.ble n cs.length then (match x.U.pack t (cs.take n) with
      | some y => some (.t t y)
      | none => none) else none
    | none => none
  | some false => match cs with
    | v :: _ => x.coerce t v
    | [] => none
  | none => none

/-! operators -/
def pInt {X : Nat → Type} (k : IntKind) (p : Option Int) : PR (TV X) := .part p 0 (.i k)
def binII {X : Nat → Type} (op : BinOp) (k : IntKind) (a b : Int) : Option (PR (TV X)) := match op with
  | .add => some (.tot (.i k (k.wrap (a + b))))
  | .sub => some (.tot (.i k (k.wrap (a - b))))
  | .mul => some (.tot (.i k (k.wrap (a * b))))
  | .and => some (.tot (.i k (k.wrap (BitVec.ofInt k.bits a &&& BitVec.ofInt k.bits b).toNat)))
  | .or => some (.tot (.i k (k.wrap (BitVec.ofInt k.bits a ||| BitVec.ofInt k.bits b).toNat)))
  | .xor => some (.tot (.i k (k.wrap (BitVec.ofInt k.bits a ^^^ BitVec.ofInt k.bits b).toNat)))
  | .eql => some (.tot (.b (a == b)))
  | .neq => some (.tot (.b (a != b)))
  | .lss => some (.tot (.b (decide (a < b))))
  | .leq => some (.tot (.b (decide (a ≤ b))))
  | .gtr => some (.tot (.b (decide (a > b))))
  | .geq => some (.tot (.b (decide (a ≥ b))))
  | .quo => some (pInt k (if b = 0 then none else some (k.wrap (a.tdiv b))))
  | .rem => some (pInt k (if b = 0 then none else some (a.tmod b)))
  | _ => none
def binT (op : BinOp) (t : Nat) : TV x.X → TV x.X → Option (PR (TV x.X))
  | .i k a, .i k' b => match op with
    | .shl => some (pInt k (if b < 0 then none else some (k.wrap (a * 2 ^ (min b.toNat k.bits)))))
    | .shr => some (pInt k (if b < 0 then none else some (a.fdiv (2 ^ (min b.toNat k.bits)))))
    | _ => bif decide (k = k') then binII op k a b else none
  | .s a, .s b => match op with
    | .add => some (.part (if a.length + b.length ≤ 2 ^ 40 then some (a ++ b) else none) [] .s)
    | .eql => some (.tot (.b (a == b)))
    | .neq => some (.tot (.b (a != b)))
    | .lss => some (.tot (.b (Op.bytesLess a b)))
    | .leq => some (.tot (.b (Op.bytesLess a b || a == b)))
    | .gtr => some (.tot (.b (!(Op.bytesLess a b || a == b))))
    | .geq => some (.tot (.b (!Op.bytesLess a b)))
    | _ => none
  | .b a, .b b => match op, x.C.isBool t with
    | .eql, true => some (.tot (.b (a == b)))
    | .neq, true => some (.tot (.b (a != b)))
    | _, _ => none
  | .t ty a, .t ty' b => match castX ty' ty b, x.U.eqT ty with
    | some b', some f => bif Nat.beq ty t then (match op with
      | .eql => some (.tot (.b (f a b')))
      | .neq => some (.tot (.b (!(f a b'))))
      | _ => none) else none
    | _, _ => none
  | .m _ _ _, .nilm => match op, x.C.isMap t with
    | .eql, true => some (.tot (.b false))
    | .neq, true => some (.tot (.b true))
    | _, _ => none
  | .mp _, .nilm => match op, x.C.isMap t with
    | .eql, true => some (.tot (.b false))
    | .neq, true => some (.tot (.b true))
    | _, _ => none
  | _, _ => none
def unT {X : Nat → Type} (op : UnOp) : TV X → Option (PR (TV X))
  | .i k n => match op with
    | .neg => some (.tot (.i k (k.wrap (0 - n))))
    | _ => none
  | .b b => match op with
    | .not => some (.tot (.b (!b)))
    | _ => none
  | _ => none
def lenT (h : List (TObj x.X)) (t : Nat) : TV x.X → Option (PR (TV x.X))
  | .s s => bif x.C.isStr t then some (.tot (.i .i64 s.length)) else none
  | .l e xs => match x.C.elemSize t with
    | some _ => some (.tot (.i .i64 xs.length))
    | none => none
  | .e0 => match x.C.elemSize t with
    | some _ => some (.tot (.i .i64 0))
    | none => none
  | .osl j g e n => match x.C.elemSize t with
    | some _ => some (.tot (.i .i64 n))
    | none => none
  | .mp j => match h[j]? with
    | some (.map k v es) => bif x.C.isMap t then some (.tot (.i .i64 es.length)) else none
    | _ => none
  | _ => none
def dmaxT {X : Nat → Type} : List (TV X) → Option (PR (TV X))
  | [.i k a, .i k' b] => some (.tot (.i k (if b > a then b else a)))
  | _ => none
def dminT {X : Nat → Type} : List (TV X) → Option (PR (TV X))
  | [.i k a, .i k' b] => some (.tot (.i k (if b < a then b else a)))
  | _ => none
def convT (h : List (TObj x.X)) (s t : Nat) : TV x.X → Option (PR (TV x.X))
  | .i _ n => match x.C.P.underlying s, x.C.intKind t with
    | some _, some k => some (.tot (.i k (k.wrap n)))
    | _, _ => none
  | .s b => bif x.C.isStr s && x.C.isStr t then some (.tot (.s b)) else none
  | .osl j g e n => bif x.C.isBytes s && x.C.isStr t then match h[j]?, x.U.bytes e with
      | some (.arr g' _ e' xs), some (_, f) => match castL e' e xs with
        | some ys => bif Nat.beq g g' then some (.part (if n ≤ ys.length then some (f (ys.take n)) else none) [] .s) else none
        | none => none
      | _, _ => none
    else none
  | .l e xs => bif x.C.isBytes s && x.C.isStr t then match x.U.bytes e with
      | some (_, f) => some (.tot (.s (f xs)))
      | none => none
    else none
  | _ => none
/-- an element -/
def getI {α : Type} (xs : List α) (i : Int) : Option α := if 0 ≤ i then xs[i.toNat]? else none
def subL {α : Type} (xs : List α) (lo hi : Int) : Option (List α) := if 0 ≤ lo ∧ lo ≤ hi ∧ hi ≤ xs.length then some ((xs.take hi.toNat).drop lo.toNat) else none
def bndT {X : Nat → Type} (d : Int) : Option (TV X) → Option Int
  | none => some d
  | some (.i _ n) => some n
  | some _ => none
def sliceT (t : Nat) (lo hi : Option (TV x.X)) : TV x.X → Option (PR (TV x.X))
  | .s s => bif x.C.isStr t then match bndT 0 lo, bndT s.length hi with
      | some a, some b => some (.part (subL s a b) [] .s)
      | _, _ => none
    else none
  | .l e xs => match Ctx.elemT x.C t, bndT 0 lo, bndT xs.length hi with
    | some e', some a, some b => bif Nat.beq e e' then (match (match x.C.elemSize t with
        | some sz => (match x.U.csz e with
          | some sz' => bif Nat.beq sz' sz then some () else none
          | none => none)
        | none => none) with
      | some _ => some (.part (subL xs a b) [] (.l e))
      | none => none) else none
    | _, _, _ => none
  | _ => none
def optA {X : Nat → Type} (s : TSt X) (ch : Chain) : Option Operand → Option (Option (TV X))
  | none => some none
  | some o => match topA s ch o with
    | some v => some (some v)
    | none => none
def checkT {X : Nat → Type} : TX X → Option (TX X)
  | .a (.ptr j off) => some (.a (.ptr j off))
  | .sp s off => some (.sp s off)
  | .ap j g e i off => some (.ap j g e i off)
  | .fp cs => some (.fp cs)
  | _ => none
def fieldAddrT (t : Nat) (f : Nat) (y : TX x.X) : Option (TX x.X) := match x.C.field t f with
  | none => none
  | some fd => bif x.C.hasSize fd.type then match y with
      | .sp s off => some (.sp s (off + fd.offset))
      | .fp cs => bif Nat.ble fd.offset cs.length then some (.fp (cs.drop fd.offset)) else none
      | .ap j g e i off => some (.ap j g e i (off + fd.offset))
      | .a (.ptr j off) => some (.a (.ptr j (off + fd.offset)))
      | _ => none
    else none
def fieldT (t : Nat) (f : Nat) (v : TV x.X) : Option (TV x.X) := match x.C.field t f with
  | none => none
  | some fd => match v with
    | .t ty y => match x.U.cells ty with
      | some f => (match x.C.isAgg ty with
        | some true => x.ld fd.type ((f y).drop fd.offset)
        | _ => none)
      | none => none
    | .g cs => x.ld fd.type (cs.drop fd.offset)
    | _ => none
def indexAddrT (h : List (TObj x.X)) (t : Nat) (v : TV x.X) (i : Int) : Option (PR (Option (TX x.X))) := match Ctx.elemT x.C t, x.C.elemSize t with
  | some e', some sz => match v with
    | .l e xs => match x.U.cells e, x.U.csz e with
      | some f, some sz' => bif Nat.beq e e' && Nat.beq sz sz' then some (.part (getI xs i) (x.U.dflt e) (fun y => some (.fp (f y)))) else none
      | _, _ => none
    | .osl j g e n => match h[j]? with
      | some (.arr g' _ e2 xs) => (match x.U.csz e with
        | some sz' => bif Nat.beq e e' && Nat.beq e e2 && Nat.beq g g' && Nat.beq sz sz' then some (.part (if 0 ≤ i ∧ i < n ∧ i < xs.length then some i.toNat else none) 0 (fun k => some (.ap j g e k 0))) else none
        | none => none)
      | _ => none
    | _ => none
  | _, _ => none
def indexT (t : Nat) (v : TV x.X) (i : Int) : Option (PR (TV x.X)) := match v with
  | .s s => bif x.C.isStr t then some (.part (getI s i) 0 (fun b => .i .u8 b.toNat)) else none
  | _ => none
def extractT {X : Nat → Type} (v : TV X) (i : Nat) : Option (TV X) := match v with
  | .tup vs => vs[i]?
  | _ => none
/-! maps -/
def mget {α β : Type} (eq : α → α → Bool) (k : α) : List (α × β) → Option β
  | [] => none
  | (k', v) :: r => bif eq k k' then some v else mget eq k r
def mput {α β : Type} (eq : α → α → Bool) (k : α) (v : β) : List (α × β) → List (α × β)
  | [] => [(k, v)]
  | (k', u) :: r => bif eq k k' then (k, v) :: r else (k', u) :: mput eq k v r
def mrem {α β : Type} (eq : α → α → Bool) (k : α) : List (α × β) → List (α × β)
  | [] => []
  | (k', u) :: r => bif eq k k' then r else (k', u) :: mrem eq k r
def mgetD {β : Type} (d : β) : Option β → β
  | some v => v
  | none => d
def lookT (t : Nat) (h : List (TObj x.X)) (v : TV x.X) (k : TV x.X) (ok : Bool) : Option (TV x.X) := match Ctx.mapT x.C t, x.C.mapZero t with
  | some (kt, vt), some _ => match x.U.prj kt k, x.U.inj vt with
    | some key, some inj => bif x.U.isKey kt && x.U.dok vt && x.C.keyOk t (x.U.enc kt key) then
        (match (match v with
          | .nilm => some none
          | .m kt' vt' es => (match castX (X := fun n => List (x.X n × x.X vt')) kt' kt es with
            | some es1 => (match castX (X := fun n => List (x.X kt × x.X n)) vt' vt es1 with
              | some es2 => some (mget (x.U.keq kt) key es2)
              | none => none)
            | none => none)
          | .mp j => (match h[j]? with
            | some (.map kt' vt' es) => (match castX (X := fun n => List (x.X n × x.X vt')) kt' kt es with
              | some es1 => (match castX (X := fun n => List (x.X kt × x.X n)) vt' vt es1 with
                | some es2 => some (mget (x.U.keq kt) key es2)
                | none => none)
              | none => none)
            | _ => none)
          | _ => none : Option (Option (x.X vt))) with
        | some r => some (bif ok then .tup [inj (mgetD (x.U.dflt vt) r), .b r.isSome] else inj (mgetD (x.U.dflt vt) r))
        | none => none)
      else none
    | _, _ => none
  | _, _ => none

/-! calls -/
def prjL (U : Uni) : (ts : List Nat) → List (TV U.X) → Option (PX U.X ts)
  | [], [] => some ()
  | [t], [v] => U.prj t v
  | t :: u :: r, v :: vs => match U.prj t v with
    | some y => match prjL U (u :: r) vs with
      | some ys => some (y, ys)
      | none => none
    | none => none
  | _, _ => none
def injL (U : Uni) : (ts : List Nat) → Option (PX U.X ts → List (TV U.X))
  | [] => some (fun _ => [])
  | [t] => match U.inj t with
    | some f => some (fun y => [f y])
    | none => none
  | t :: u :: r => match U.inj t, injL U (u :: r) with
    | some f, some g => some (fun y => f y.1 :: g y.2)
    | _, _ => none
def dfltL (U : Uni) : (ts : List Nat) → PX U.X ts
  | [] => ()
  | [t] => U.dflt t
  | t :: u :: r => (U.dflt t, dfltL U (u :: r))
def resT (U : Uni) : (ts : List Nat) → Option (PX U.X ts → TV U.X)
  | [t] => U.inj t
  | [] => some (fun _ => .tup [])
  | t :: u :: r => match injL U (t :: u :: r) with
    | some f => some (fun y => .tup (f y))
    | none => none
def filtA {X : Nat → Type} : (ak : List AK) → List (TV X) → Option (List (TV X))
  | [], [] => some []
  | .fn f :: r, .fn f' [] :: vs => bif Nat.beq f f' then filtA r vs else none
  | .ty t :: r, v :: vs => match filtA r vs with
    | some ws => some (v :: ws)
    | none => none
  | _, _ => none
def prjA (U : Uni) (ak : List AK) (vs : List (TV U.X)) : Option (PX U.X (AK.tys ak)) := match filtA ak vs with
  | some ws => prjL U (AK.tys ak) ws
  | none => none
def callT (f : Nat) (vs : List (TV x.X)) : List (Nat × TCall x.X) → Option (PR (TV x.X))
  | [] => none
  | (f', c) :: r => bif Nat.beq f f' then (match prjA x.U c.ak vs with
      | some a => (match resT x.U c.rts with
        | some h => some (.part (c.fn a) (dfltL x.U c.rts) h)
        | none => none)
      | none => callT f vs r) else callT f vs r
def topL {X : Nat → Type} (s : TSt X) (ch : Chain) : List Operand → Option (List (TV X))
  | [] => some []
  | o :: r => match topA s ch o with
    | some v => match topL s ch r with
      | some vs => some (v :: vs)
      | none => none
    | none => none
/-- lent for a call -/
def lendT (h : List (TObj x.X)) : TV x.X → Option (TV x.X × Nat)
  | .mp j => match h[j]? with
    | some (.map k v es) => some (.m k v es, 1)
    | _ => none
  | .osl j g e n => none
  | .ptr _ _ => none
  | .fn _ _ => none
  | .tup _ => none
  | v => some (v, 0)
def lendL (h : List (TObj x.X)) : List (TV x.X) → Option (List (TV x.X) × Nat)
  | [] => some ([], 0)
  | v :: r => match lendT x h v with
    | some (y, k) => match lendL h r with
      | some (ys, n) => some (y :: ys, max k n)
      | none => none
    | none => none
/-! calls that write -/
def splitR {X : Nat → Type} : (ak : List AR) → List (TV X) → Option (List (TV X) × List Nat)
  | [], [] => some ([], [])
  | .fn f :: r, .fn f' [] :: vs => bif Nat.beq f f' then splitR r vs else none
  | .ty t :: r, v :: vs => match splitR r vs with
    | some (ws, js) => some (v :: ws, js)
    | none => none
  | .ref (.map _ _) :: r, .mp j :: vs => match splitR r vs with
    | some (ws, js) => some (ws, j :: js)
    | none => none
  | .ref (.var _) :: r, .ptr j 0 :: vs => match splitR r vs with
    | some (ws, js) => some (ws, j :: js)
    | none => none
  | _, _ => none
def getRef (U : Uni) : (r : RK) → TObj U.X → Option (r.T U.X)
  | .map k v, o => match o with
    | .map k' v' es => match castX (X := fun n => List (U.X n × U.X v')) k' k es with
      | some e1 => castX (X := fun n => List (U.X k × U.X n)) v' v e1
      | none => none
    | _ => none
  | .var ts, o => match o with
    | .var cs => match injL U ts with
      | some _ => prjL U ts cs
      | none => none
    | _ => none
def setRef (U : Uni) : (r : RK) → r.T U.X → TObj U.X
  | .map k v, es => .map k v es
  | .var ts, y => match injL U ts with
    | some f => .var (f y)
    | none => .var []
def getRefs (U : Uni) (h : List (TObj U.X)) : (rs : List RK) → List Nat → Option (PR' U.X rs)
  | [], [] => some ()
  | r :: rs, j :: js => match h[j]? with
    | some o => match getRef U r o with
      | some y => match getRefs U h rs js with
        | some ys => some (y, ys)
        | none => none
      | none => none
    | none => none
  | _, _ => none
def setRefs (U : Uni) (h : List (TObj U.X)) : (rs : List RK) → List Nat → PR' U.X rs → List (TObj U.X)
  | [], _, _ => h
  | r :: rs, j :: js, y => setRefs U (h.set j (setRef U r y.1)) rs js y.2
  | _ :: _, [], _ => h
def nodupB : List Nat → Bool
  | [] => true
  | j :: r => !has r j && nodupB r
end
end Go.Tev
