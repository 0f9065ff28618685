/- A certified evaluator for the walked functions, and their contracts, for the laws of the variables. -/
import Derived.Test.YtnmlodkomklpfaaGreatLD
import Derived.Lib.ConvBytes
import Derived.Laws.MakeOwn
import Derived.Laws.OwnMore
import Derived.MapKept
import Derived.Deep.Quiet
set_option linter.unusedVariables false
set_option linter.unusedSimpArgs false
namespace Go.Abs
section
variable {C : Ctx} {call : Zaa} {fa : FA} {own own' : Own} {st st' : St} {a : Act} {w w' : World} {o : Oper}
theorem ZeO {t : TypeId} {sz : Nat} (hs : C.elemSize t = some sz) (h : C.elemOk t sz = true) : ∃ e i z zd, C.P.underlying t = some (.slice e) ∧ C.P.info? e = some i ∧ i.size = sz ∧ i.zero = some z ∧
    z.cells.size = sz ∧ 0 < sz ∧ C.elemZero t = some zd ∧ zd.cells.length = sz ∧ ∀ w own, CellsRel w own z.cells zd.cells := by
  obtain ⟨e, i, hu, hi, rfl⟩ := Zec hs
  unfold Ctx.elemOk at h
  split at h
  · rename_i zd hz
    simp only [Bool.and_eq_true] at h
    obtain ⟨⟨h1, h2⟩, h3⟩ := h
    have hz' : C.zero e = some zd := by
      unfold Ctx.elemZero at hz
      simp only [hu] at hz
      exact hz
    obtain ⟨z, _, ⟨i', hi', hz2⟩, hr⟩ := Zi9 hz'
    rw [hi] at hi'
    simp only [Option.some.injEq] at hi'
    subst hi'
    have hc : ∀ w own, CellsRel w own z.cells zd.cells := fun w own => .of (hr w own) h2
    have hl : zd.cells.length = i.size := Nat.eq_of_beq_eq_true h1
    exact ⟨e, i, z, zd, hu, hi, rfl, hz2, by rw [(hc default (fun _ => none)).len, hl], by simpa [Nat.blt_eq] using h3, hz, hl, hc⟩
  · cases h
theorem ZuS : ∀ (b : List UInt8) (i : Nat), (Zdf b)[i]? = (b[i]?).map fun x => AV.d (.int .u8 x.toNat) := by
  intro b
  induction b with
  | nil => intro i; simp [Zdf]
  | cons x b ih => intro i; cases i with
    | zero => simp [Zdf]
    | succ i => simp [Zdf, ih]
theorem Zul (b : List UInt8) : (Zdf b).length = b.length := by
  induction b with
  | nil => rfl
  | cons x b ih => simp [Zdf, ih]
theorem Zrj (b : List UInt8) : (Zdf b).flatMap AV.cells = Zdf b := by
  induction b with
  | nil => rfl
  | cons x b ih => simp only [Zdf, List.flatMap_cons, ih]; rfl
theorem Zuk (b : List UInt8) : ∀ e ∈ Zdf b, e.cells.length = 1 := by
  induction b with
  | nil => intro e he; simp [Zdf] at he
  | cons x b ih =>
    intro e he
    simp only [Zdf, List.mem_cons] at he
    rcases he with rfl | he
    · rfl
    · exact ih e he
theorem Zvu (w : World) (e : TypeId) (s : ByteArray) : Grow w (Lib.bytesWorld w e s) :=
  ⟨rfl, rfl, rfl, by rw [Lib.bytesWorld_size]; omega, fun b hb => Lib.bytesWorld_at_old w e s b hb⟩
theorem Zsb (S : SRel C.P fa own st a w) {s t : TypeId} {x : Operand} {b : List UInt8} (hop : o.op = .convert s t x) (hx : opD st x = some (.str b)) (hs : C.isStr s = true) (ht : C.isBytes t = true)
    (he1 : C.elemOne t = true) (he : St.put fa { st with heap := st.heap ++ [AObj.arr 0 false (Zdf b)] } o.dst (.a (.osl st.heap.length 0 b.length)) = some st') : ZeU C.P fa own st.heap st' a w o := by
  obtain ⟨bs, hv, rfl⟩ := (Zbc S hx).str_inv
  obtain ⟨e, hte, hee⟩ := ZgU ht
  have hes : C.elemSize t = some 1 := by
    unfold Ctx.elemOne at he1
    split at he1
    · rename_i n hn; rw [hn, Nat.eq_of_beq_eq_true he1]
    · cases he1
  obtain ⟨e', i, hu, hi, h1⟩ := Zec hes
  rw [hte] at hu
  simp only [Option.some.injEq, TypeDesc.slice.injEq] at hu
  subst hu
  have g := Zvu w e bs
  have hblk := Lib.bytesWorld_at_new w e bs
  have hsz : (Lib.bytesCells w e bs).size = grownCap w bs.size 0 e := by
    have := grownCap_ge w bs.size 0 e
    simp only [Lib.bytesCells, Array.size_append, Array.size_map, Array.size_replicate]
    have h2 : bs.data.size = bs.size := rfl
    omega
  have S1 := S.newObj g (by rw [Lib.bytesWorld_size]; omega) (x := .arr 0 false (Zdf bs.data.toList)) (fun own' _ _ => by
    refine ⟨_, e, _, i, hblk, hi, (fun j hj hj2 => by omega), (fun h => by cases h), (fun x hx => by rw [h1]; exact Zuk _ x hx), (by omega), ?_, fun j y hy => ?_⟩
    · rw [h1, Nat.mul_one, Zul, hsz]
      have := grownCap_ge w bs.size 0 e
      simpa using this
    · rw [Zrj, ZuS, Option.map_eq_some_iff] at hy
      obtain ⟨b, hb, rfl⟩ := hy
      have hj : j < bs.size := by
        have := (List.getElem?_eq_some_iff.1 hb).1
        simpa using this
      have hjd : j < bs.data.size := hj
      refine ⟨.int .u8 b.toNat, ?_, rfl, .d _ _ (.int _ _)⟩
      simp only [Lib.bytesCells]
      rw [Array.getElem?_append_left (by simpa using hjd), Array.getElem?_map, ← Array.getElem?_toList, hb]
      rfl)
  refine ZaV (v := .slice (some ⟨w.heap.size, 0, none⟩) bs.size (grownCap w bs.size 0 e)) (w' := Lib.bytesWorld w e bs) ?_ (S1.1.put (fun t' _ => ?_) he) (Zih g _) (by rw [ZbA he]; exact S1.2)
  · simp only [execOp, hop, hv, Sem.run_bind, Lib.run_convert_string_bytes w s t e bs (Zb0 hs) hte hee, Result.andThen_ok, Sem.run_pure]
  · have hl : bs.data.toList.length = bs.size := Array.length_toList
    rw [hl]
    refine .osl _ _ _ _ (by simp) ⟨_, _, rfl⟩ (fun g' ap es h => Nat.zero_le _) (fun ap es h => ?_)
    exact ⟨w.heap.size, _, _, e, _, i, rfl, by simp [upd], hblk, hi, by rw [h1, Nat.mul_one, hsz]⟩
theorem ZeG {t : TypeId} {n : Nat} {e : TypeId} {i : TypeInfo} (hu : C.P.underlying t = some (.slice e)) (hi : C.P.info? e = some i) (h : ZbU C t n = true) :
    n * i.bytes ≤ 2 ^ 47 ∧ n ≤ 2 ^ 47 := by
  unfold ZbU at h
  split at h
  · rename_i b hb
    have : b = i.bytes := by
      unfold Ctx.elemBytes at hb
      simp only [hu, hi, Option.map_some, Option.some.injEq] at hb
      exact hb.symm
    subst this
    simp only [Bool.and_eq_true] at h
    exact ⟨Nat.le_of_ble_eq_true h.1, Nat.le_of_ble_eq_true h.2⟩
  · cases h
theorem Zo0 (S : SRel C.P fa own st a w) {t : TypeId} {l c : Operand} {z : DV} {sz : Nat} {k1 k2 : IntKind} {n : Int} (hop : o.op = .makeSlice t l c) (hz : C.elemZero t = some z) (hsz : C.elemSize t = some sz)
    (hl : opD st l = some (.int k1 n)) (hc : opD st c = some (.int k2 n)) (h0 : 0 ≤ n) (hr : ZbU C t n.toNat = true) (hok : C.elemOk t sz = true)
    (he : St.put fa { st with heap := st.heap ++ [AObj.arr 0 true (List.replicate n.toNat (.d z))] } o.dst (.a (.osl st.heap.length 0 n.toNat)) = some st') : ZeU C.P fa own st.heap st' a w o := by
  obtain ⟨e, i, zv, zd, hu, hi, rfl, hiz, hzs, hpos, hz2, hzl, hzr⟩ := ZeO hsz hok
  rw [hz] at hz2
  simp only [Option.some.injEq] at hz2
  subst hz2
  obtain ⟨r1, r2⟩ := ZeG hu hi hr
  have hlv := (Zbc S hl).int_inv
  have hcv := (Zbc S hc).int_inv
  have hnn : (n.toNat : Int) = n := Int.toNat_of_nonneg h0
  have hbytes : (i.bytes : Int) * n ≤ 281474976710656 := by
    have : ((n.toNat * i.bytes : Nat) : Int) ≤ ((2 ^ 47 : Nat) : Int) := Int.ofNat_le.2 r1
    rw [Int.natCast_mul, hnn, Int.mul_comm] at this
    omega
  have hrun := run_make (P := C.P) w t e i zv hu hi hiz k1 k2 n n h0 (Int.le_refl _) hbytes (by omega)
  have g := Grow.alloc w (.cells (madeCells zv.cells (n.toNat * i.size)) e)
  have hget : ∀ j, j < n.toNat * i.size → ∃ u, (madeCells zv.cells (n.toNat * i.size))[j]? = some u ∧ zv.cells[j % i.size]? = some u := by
    intro j hj
    have hm : j % i.size < zv.cells.size := by rw [hzs]; exact Nat.mod_lt _ hpos
    refine ⟨zv.cells[j % i.size], ?_, Array.getElem?_eq_getElem hm⟩
    simp only [madeCells, Array.getElem?_map, hzs]
    rw [Array.getElem?_range, if_pos hj]
    simp [hm]
  have hszr : ∀ x ∈ List.replicate n.toNat (AV.d z), x.cells.length = i.size := by
    intro x hx
    rw [List.eq_of_mem_replicate hx]
    have : (AV.d z).cells = z.cells.map .d := by cases z <;> rfl
    rw [this, List.length_map, hzl]
  have hnil : List.replicate n.toNat (AV.d z) = [] → (madeCells zv.cells (n.toNat * i.size)).size = 0 := by
    intro hn
    have h1 := congrArg List.length hn
    rw [List.length_replicate] at h1
    rw [size_madeCells, h1]
    exact Nat.zero_mul _
  have S1 := S.newObj g (by rw [ZeB]; omega) (x := .arr 0 true (List.replicate n.toNat (.d z))) (fun own' _ _ => by
    refine ⟨_, e, (0, 0), i, Zex w _, hi, (fun j _ hj => by simp at hj), (fun _ => ⟨rfl, hnil⟩), hszr, hpos, by rw [List.length_replicate, size_madeCells]; exact Nat.le_refl _, fun j y hy => ?_⟩
    have hj : j < n.toNat * i.size := by
      have := (List.getElem?_eq_some_iff.1 hy).1
      rwa [Za5 hszr, List.length_replicate] at this
    have hq : j / i.size < n.toNat := Nat.div_lt_of_lt_mul (by rw [Nat.mul_comm]; exact hj)
    have hr' : j % i.size < i.size := Nat.mod_lt _ hpos
    have hdec : j / i.size * i.size + j % i.size = j := by rw [Nat.mul_comm]; exact Nat.div_add_mod _ _
    have hf := flat_get hszr (i := j / i.size) (e := .d z) (by rw [List.getElem?_replicate, if_pos hq]) _ hr'
    have hcz : (AV.d z).cells = z.cells.map .d := by cases z <;> rfl
    rw [hdec, hy, hcz, List.getElem?_map] at hf
    obtain ⟨y', hy', hyy⟩ := Option.map_eq_some_iff.1 hf.symm
    obtain ⟨u, hu1, hu2⟩ := hget j hj
    have cr := hzr (w.alloc (.cells (madeCells zv.cells (n.toNat * i.size)) e)) own'
    rw [← hyy]
    exact ⟨u, hu1, cr.one _ _ hu2, .d _ _ (cr.rep _ _ _ hu2 hy')⟩)
  refine ZaV (v := .slice (some ⟨w.heap.size, 0, none⟩) n.toNat n.toNat) (w' := _) ?_ (S1.1.put (fun t' _ => ?_) he) (Zih g _) (by rw [ZbA he]; exact S1.2)
  · simp only [execOp, hop, hlv, hcv, Sem.run_bind, hrun, Result.andThen_ok, Sem.run_pure]
  · refine .osl _ _ _ _ (by simp) ⟨_, _, rfl⟩ (fun g' ap es h => Nat.zero_le _) (fun ap es h => ?_)
    exact ⟨w.heap.size, _, _, e, _, i, rfl, by simp [upd], Zex w _, hi, by rw [size_madeCells]⟩
theorem Zww {w : World} {b : Nat} {x y : Obj} (h : w.heap[b]? = some x) : ({ w with heap := w.heap.setIfInBounds b y } : World).heap[b]? = some y := by
  have hlt := ZaN h
  simp [hlt]
theorem ZqW {w : World} {b k : Nat} {y : Obj} (h : k ≠ b) : ({ w with heap := w.heap.setIfInBounds b y } : World).heap[k]? = w.heap[k]? := by
  simp [Array.getElem?_setIfInBounds_ne (Ne.symm h)]
theorem SRel.setMap (S : SRel C.P fa own st a w) {id b cl cl' : Nat} {es es' : List (DV × AV)} {m m' : Array MapEntry} (ho : st.heap[id]? = some (.map es)) (hob : own b = some (.obj id, 0)) (hm : w.heap[b]? = some (.map m cl))
    (hst : ZgH m' cl') (hl : m'.size = es'.length) (hent : ∀ (w' : World) (h' : List AObj), ExtA w own st.heap w' own h' → ∀ (j : Nat) e x, m'[j]? = some e → es'[j]? = some x → Rep w' own e.key x.1 ∧ ARep C.P w' own h' e.val x.2) :
    SRel C.P fa own { st with heap := st.heap.set id (.map es') } a { w with heap := w.heap.setIfInBounds b (.map m' cl') } ∧
      Frm w own { w with heap := w.heap.setIfInBounds b (.map m' cl') } own ∧ ExtA w own st.heap { w with heap := w.heap.setIfInBounds b (.map m' cl') } own (st.heap.set id (.map es')) := by
  have hid : id < st.heap.length := (List.getElem?_eq_some_iff.1 ho).1
  have hgs : ∀ k, (st.heap.set id (.map es'))[k]? = if k = id then some (.map es') else st.heap[k]? := by
    intro k
    rw [List.getElem?_set]
    by_cases hk : k = id
    · subst hk; simp [hid]
    · rw [if_neg (Ne.symm hk), if_neg hk]
  have other : ∀ k, k ≠ b → ({ w with heap := w.heap.setIfInBounds b (.map m' cl') } : World).heap[k]? = w.heap[k]? := fun k hk => ZqW hk
  have e : ExtA w own st.heap { w with heap := w.heap.setIfInBounds b (.map m' cl') } own (st.heap.set id (.map es')) := by
    refine ⟨⟨fun k i v hv hp => ?_, fun k ms c hms hn => ?_⟩, by simp, fun k y y' h1 h2 => ?_, fun k id' y y' hb' _ _ _ => ⟨hb', fun c T fr hc => ⟨c, ?_, rfl⟩⟩⟩
    · have hne : k ≠ b := by rintro rfl; exact absurd (hp _ 0 hob) (Nat.not_lt_zero _)
      exact ⟨by rw [ZbQ (other k hne), hv], hp⟩
    · have hne : k ≠ b := by rintro rfl; rw [hob] at hn; cases hn
      exact ⟨by rw [other k hne, hms], hn⟩
    · rw [hgs k] at h2
      split at h2
      · rename_i hk; subst hk; rw [ho] at h1; simp only [Option.some.injEq] at h1 h2; subst h1; subst h2; trivial
      · rw [h1] at h2; simp only [Option.some.injEq] at h2; subst h2; exact AObj.later_refl y
    · have hne : k ≠ b := by rintro rfl; rw [hm] at hc; cases hc
      rw [other k hne, hc]
  have keep : ∀ y, y ≠ .obj id → Keep w own { w with heap := w.heap.setIfInBounds b (.map m' cl') } own y := by
    intro y hy k f hk
    have hne : k ≠ b := by rintro rfl; rw [hob] at hk; simp only [Option.some.injEq, Prod.mk.injEq] at hk; exact hy hk.1.symm
    exact ⟨hk, other k hne⟩
  refine ⟨S.heapStep ⟨fun k y hy => ?_, S.h.uniq, fun k z hz => by simpa using S.h.lt k z hz, fun k id' f hk => by have := S.h.idlt k id' f hk; exact ⟨by simpa using this.1, this.2⟩⟩ e (fun y hy => keep y (hy id)), ⟨rfl, rfl, rfl, by simp, fun k _ hk => ⟨other k ?_, rfl⟩⟩, e⟩
  · rw [hgs k] at hy
    split at hy
    · rename_i hk
      subst hk
      simp only [Option.some.injEq] at hy
      subst hy
      exact ⟨b, hob, m', cl', Zww hm, hst, hl, hent _ _ e⟩
    · rename_i hk
      obtain ⟨q, hq, hr⟩ := S.h.obj k y hy
      exact ⟨q, hq, hr.mono e (keep (.obj k) (by simpa using hk) q 0 hq).2⟩
  · rintro rfl
    rcases hk with hk | ⟨f, hk⟩
    · rw [hob] at hk; cases hk
    · rw [hob] at hk; simp at hk
end
end Go.Abs
namespace Go.Abs
section
variable {C : Ctx} {call : Zaa} {fa : FA} {own own' : Own} {st st' : St} {a : Act} {w w' : World} {o : Oper}
theorem ZzZ {kind : TypeDesc} {kd kd' : DV} {k k' : Value} (hk : KeyKind kind kd) (r : Rep w own k kd) (r' : Rep w own k' kd') (h : ZdT kd kd' = some true) : k' = k := by
  have h1 := Zgf hk r r' h
  have hk' : KeyKind kind kd' := by
    rcases hk with ⟨rfl, s, rfl⟩ | ⟨kk, n, rfl, rfl⟩
    · cases kd' <;> simp only [ZdT] at h <;> try (cases h; done)
      exact .inl ⟨rfl, _, rfl⟩
    · cases kd' <;> simp only [ZdT] at h <;> try (cases h; done)
      split at h
      · rename_i hkk; subst hkk; exact .inr ⟨_, _, rfl, rfl⟩
      · cases h
  obtain ⟨b, hb, hi⟩ := MapKept.sameNow_of_keys (hk.isKey r) (hk'.isKey r')
  rw [h1] at hb
  simp only [Option.some.injEq] at hb
  exact (hi.1 hb.symm).symm
theorem Zw6 {kind : TypeDesc} {kd : DV} {k : Value} {v : AV} (hk : KeyKind kind kd) (r : Rep w own k kd) : ∀ (l : List MapEntry) (ds es' : List (DV × AV)) (i : Nat), l.length = ds.length →
    (∀ (j : Nat) e d, l[j]? = some e → ds[j]? = some d → Rep w own e.key d.1) → Zro kd v ds = some es' →
    (Instr.findNow kind k l i = some none ∧ es' = ds ++ [(kd, v)]) ∨
      ∃ j e, Instr.findNow kind k l i = some (some (i + j, e.val)) ∧ l[j]? = some e ∧ e.key = k ∧ j < ds.length ∧ es' = ds.set j (kd, v) := by
  intro l
  induction l with
  | nil =>
    intro ds es' i hl _ hm
    have : ds = [] := List.eq_nil_of_length_eq_zero (by simpa using hl.symm)
    subst this
    simp only [Zro, Option.some.injEq] at hm
    subst hm
    exact .inl ⟨rfl, rfl⟩
  | cons e l ih =>
    intro ds es' i hl hp hm
    cases ds with
    | nil => simp at hl
    | cons d ds =>
      obtain ⟨kd', x⟩ := d
      have h1 := hp 0 e (kd', x) rfl rfl
      simp only [Zro] at hm
      cases hke : ZdT kd kd' with
      | none => rw [hke] at hm; cases hm
      | some b =>
        rw [hke] at hm
        have hsn := Zgf hk r h1 hke
        cases b with
        | true =>
          simp only [Option.some.injEq] at hm
          subst hm
          exact .inr ⟨0, e, by simp [Instr.findNow, hsn], rfl, ZzZ hk r h1 hke, by simp, rfl⟩
        | false =>
          simp only [Option.map_eq_some_iff] at hm
          obtain ⟨es1, hm, rfl⟩ := hm
          rcases ih ds es1 (i + 1) (by simpa using hl) (fun j e' d' he' hd' => hp (j + 1) e' d' (by simpa using he') (by simpa using hd')) hm with ⟨h3, rfl⟩ | ⟨j, e', h3, h4, h5, h6, rfl⟩
          · exact .inl ⟨by simp [Instr.findNow, hsn, h3], rfl⟩
          · exact .inr ⟨j + 1, e', by simp [Instr.findNow, hsn, h3]; omega, by simpa using h4, h5, by simp; omega, rfl⟩
theorem Zwk {kind : TypeDesc} {kd : DV} {k : Value} (hk : KeyKind kind kd) (r : Rep w own k kd) : ∀ (l : List MapEntry) (ds es' : List (DV × AV)) (i : Nat), l.length = ds.length →
    (∀ (j : Nat) e d, l[j]? = some e → ds[j]? = some d → Rep w own e.key d.1) → Zyb kd ds = some es' →
    (Instr.findNow kind k l i = some none ∧ es' = ds) ∨
      ∃ j e, Instr.findNow kind k l i = some (some (i + j, e.val)) ∧ l[j]? = some e ∧ j < ds.length ∧ es' = ds.eraseIdx j := by
  intro l
  induction l with
  | nil =>
    intro ds es' i hl _ hm
    have : ds = [] := List.eq_nil_of_length_eq_zero (by simpa using hl.symm)
    subst this
    simp only [Zyb, Option.some.injEq] at hm
    subst hm
    exact .inl ⟨rfl, rfl⟩
  | cons e l ih =>
    intro ds es' i hl hp hm
    cases ds with
    | nil => simp at hl
    | cons d ds =>
      obtain ⟨kd', x⟩ := d
      have h1 := hp 0 e (kd', x) rfl rfl
      simp only [Zyb] at hm
      cases hke : ZdT kd kd' with
      | none => rw [hke] at hm; cases hm
      | some b =>
        rw [hke] at hm
        have hsn := Zgf hk r h1 hke
        cases b with
        | true =>
          simp only [Option.some.injEq] at hm
          subst hm
          exact .inr ⟨0, e, by simp [Instr.findNow, hsn], rfl, by simp, rfl⟩
        | false =>
          simp only [Option.map_eq_some_iff] at hm
          obtain ⟨es1, hm, rfl⟩ := hm
          rcases ih ds es1 (i + 1) (by simpa using hl) (fun j e' d' he' hd' => hp (j + 1) e' d' (by simpa using he') (by simpa using hd')) hm with ⟨h3, rfl⟩ | ⟨j, e', h3, h4, h6, rfl⟩
          · exact .inl ⟨by simp [Instr.findNow, hsn, h3], rfl⟩
          · exact .inr ⟨j + 1, e', by simp [Instr.findNow, hsn, h3]; omega, by simpa using h4, by simp; omega, rfl⟩
theorem ZrZ {es : Array MapEntry} {clock : Nat} (h : ZgH es clock) {key val : Value} : ZgH (es.push { key, val, born := clock }) (clock + 1) := by
  obtain ⟨h1, h2⟩ := h
  refine ⟨fun x hx => ?_, ?_⟩
  · simp only [Array.toList_push, List.mem_append, List.mem_singleton] at hx
    rcases hx with hx | rfl
    · exact Nat.lt_succ_of_lt (h1 x hx)
    · exact Nat.lt_succ_self _
  · simp only [Array.toList_push, List.map_append, List.map_cons, List.map_nil]
    refine List.nodup_append.2 ⟨h2, by simp, ?_⟩
    intro a ha b hb
    simp only [List.mem_singleton] at hb
    subst hb
    obtain ⟨x, hx, rfl⟩ := List.mem_map.1 ha
    exact Nat.ne_of_lt (h1 x hx)
theorem Zo2 {es : Array MapEntry} {clock : Nat} (h : ZgH es clock) (i : Nat) (f : MapEntry → MapEntry) (hb : ∀ e, (f e).born = e.born) : ZgH (es.modify i f) clock := by
  have hborn : (es.modify i f).toList.map (·.born) = es.toList.map (·.born) := by
    apply List.ext_getElem?
    intro j
    simp only [List.getElem?_map, Array.getElem?_toList, Array.getElem?_modify]
    by_cases hij : i = j
    · subst hij
      cases he : es[i]? with
      | none => simp
      | some e => simp [hb e]
    · simp [hij]
  obtain ⟨h1, h2⟩ := h
  refine ⟨fun x hx => ?_, hborn ▸ h2⟩
  have : x.born ∈ (es.modify i f).toList.map (·.born) := List.mem_map.2 ⟨x, hx, rfl⟩
  rw [hborn] at this
  obtain ⟨y, hy, e⟩ := List.mem_map.1 this
  rw [← e]; exact h1 y hy
theorem Zpk {es : Array MapEntry} {clock : Nat} (h : ZgH es clock) (i : Nat) : ZgH (es.eraseIdxIfInBounds i) clock := by
  have hs : (es.eraseIdxIfInBounds i).toList.Sublist es.toList := by
    unfold Array.eraseIdxIfInBounds
    split
    · simp only [Array.toList_eraseIdx]; exact List.eraseIdx_sublist _ _
    · exact List.Sublist.refl _
  obtain ⟨h1, h2⟩ := h
  exact ⟨fun x hx => h1 x (hs.subset hx), (hs.map _).nodup h2⟩
theorem Zn3 (S : SRel C.P fa own st a w) {t : TypeId} {m k x : Operand} {z : DV} {id : Nat} {kd : DV} {v : AV} {es es' : List (DV × AV)} (hop : o.op = .mapUpdate t m k x) (hz : C.mapZero t = some z)
    (hm : opA st m = some (.mp id)) (hk : opD st k = some kd) (hx : opA st x = some v) (hcell : v.cellOk = true) (ho : st.heap[id]? = some (.map es)) (hs : Zro kd v es = some es') (hok : C.keyOk t kd = true)
    (he : St.put fa { st with heap := st.heap.set id (.map es') } o.dst .un = some st') : ZeU C.P fa own st.heap st' a w o := by
  obtain ⟨kt, e, kind, hu, hkt, hkk⟩ := Zjm hok
  have hkr := Zbc S hk
  have hvr := ZbO S hx
  obtain ⟨hid, hl, _⟩ := (ZbO S hm).mp_inv
  obtain ⟨b, hob, hmv⟩ := hl es ho
  obtain ⟨ms, cl, hmm, hst, hsz, hent⟩ := S.h.objAt ho hob
  have hchk := MapKept.run_checkKey (P := C.P) (w := w) hkt (hkk.isKey hkr) false 9999
  have hput : ∀ {w1 : World}, SRel C.P fa own { st with heap := st.heap.set id (.map es') } a w1 → SRel C.P fa own st' (a.put o.dst undef) w1 := fun S1 => S1.put (x := XV.un) (fun t _ => rfl) he
  rcases Zw6 hkk hkr ms.toList es es' 0 (by simpa using hsz) (fun j e d h1 h2 => (hent j e d (by simpa using h1) h2).1) hs with ⟨h1, rfl⟩ | ⟨j, e0, h1, h2, h3, h4, rfl⟩
  · have hrun : (execOp a.eval o).run C.P w = .ok .skip { w with heap := w.heap.setIfInBounds b (.map (ms.push { key := a.eval k, val := a.eval x, born := cl }) (cl + 1)) } := by
      simp only [execOp, hop, hmv, Instr.mapUpdate, Sem.run_bind, run_underlying hu, Result.andThen_ok, MapKept.run_getObj_map hmm, hchk, MapKept.run_findKey hkt h1, MapKept.run_setObj_map _ hmm, Sem.run_pure]
    have := S.setMap (m' := ms.push { key := a.eval k, val := a.eval x, born := cl }) (cl' := cl + 1) (es' := es ++ [(kd, v)]) ho hob hmm (ZrZ hst) (by simp [hsz]) (fun w' h' e' j e1 x1 he1 hx1 => by
      rw [Array.getElem?_push] at he1
      split at he1
      · rename_i hj
        simp only [Option.some.injEq] at he1
        subst he1
        rw [List.getElem?_append_right (by omega)] at hx1
        rw [hj, hsz, Nat.sub_self] at hx1
        simp at hx1
        subst hx1
        exact ⟨hkr.mono e'.ext, hvr.mono e'⟩
      · rename_i hj
        have hlt := (Array.getElem?_eq_some_iff.1 he1).1
        rw [List.getElem?_append_left (by omega)] at hx1
        obtain ⟨y1, y2⟩ := hent j e1 x1 he1 hx1
        exact ⟨y1.mono e'.ext, y2.mono e'⟩)
    exact Zh3 hrun (hput this.1) this.2.1 (by rw [ZbA he]; exact this.2.2)
  · have hj : ms[j]? = some e0 := by simpa using h2
    have hrun : (execOp a.eval o).run C.P w = .ok .skip { w with heap := w.heap.setIfInBounds b (.map (ms.modify j fun e => { e with key := a.eval k, val := a.eval x }) cl) } := by
      simp only [execOp, hop, hmv, Instr.mapUpdate, Sem.run_bind, run_underlying hu, Result.andThen_ok, MapKept.run_getObj_map hmm, hchk, MapKept.run_findKey hkt h1, Nat.zero_add, hj, Option.map_some, Option.getD_some, h3,
        MapKept.run_keyThatStays (hkk.isKey hkr), MapKept.run_setObj_map _ hmm, Sem.run_pure]
    have := S.setMap (m' := ms.modify j fun e => { e with key := a.eval k, val := a.eval x }) (cl' := cl) (es' := es.set j (kd, v)) ho hob hmm (Zo2 hst _ _ fun _ => rfl) (by simp [hsz]) (fun w' h' e' i e1 x1 he1 hx1 => by
      rw [Array.getElem?_modify] at he1
      rw [List.getElem?_set] at hx1
      split at he1
      · rename_i hij
        subst hij
        rw [hj] at he1
        simp only [Option.map_some, Option.some.injEq] at he1
        subst he1
        simp [h4] at hx1
        subst hx1
        exact ⟨hkr.mono e'.ext, hvr.mono e'⟩
      · rename_i hij
        rw [if_neg hij] at hx1
        obtain ⟨y1, y2⟩ := hent i e1 x1 he1 hx1
        exact ⟨y1.mono e'.ext, y2.mono e'⟩)
    exact Zh3 hrun (hput this.1) this.2.1 (by rw [ZbA he]; exact this.2.2)
theorem ZvR {α : Type} (m : Array α) (j i : Nat) (hj : j < m.size) : (m.eraseIdxIfInBounds j)[i]? = (m.toList.eraseIdx j)[i]? := by
  unfold Array.eraseIdxIfInBounds
  rw [dif_pos hj, ← Array.getElem?_toList, Array.toList_eraseIdx]
theorem Zvs (S : SRel C.P fa own st a w) {t : TypeId} {c : Call} {ts : List TypeId} {m k : Operand} {id : Nat} {kd : DV} {es es' : List (DV × AV)} (hop : o.op = .call c) (hc : c.callee = .builtin .delete)
    (ha : c.args.toList = [m, k]) (ht : c.argTypes.toList = t :: ts)
    (hm : opA st m = some (.mp id)) (hk : opD st k = some kd) (ho : st.heap[id]? = some (.map es)) (hs : Zyb kd es = some es') (hok : C.keyOk t kd = true)
    (he : St.put fa { st with heap := st.heap.set id (.map es') } o.dst (.a (.d (.tup []))) = some st') : ZeU C.P fa own st.heap st' a w o := by
  obtain ⟨kt, e, kind, hu, hkt, hkk⟩ := Zjm hok
  have hkr := Zbc S hk
  obtain ⟨hid, hl, _⟩ := (ZbO S hm).mp_inv
  obtain ⟨b, hob, hmv⟩ := hl es ho
  obtain ⟨ms, cl, hmm, hst, hsz, hent⟩ := S.h.objAt ho hob
  have ha' : c.args = #[m, k] := by rw [← Array.toList_inj, ha]
  have ht' : c.argTypes[0]? = some t := by rw [← Array.getElem?_toList, ht]; rfl
  have hchk := fun em => MapKept.run_checkKey (P := C.P) (w := w) hkt (hkk.isKey hkr) em 9999
  have hres : ∀ (w1 : World), (Builtin.delete_ c.argTypes o.type #[.map (some b), a.eval k]).run C.P w = .ok (.tuple #[]) w1 → (execOp a.eval o).run C.P w = .ok (.value (.tuple #[])) w1 := by
    intro w1 h
    simp only [execOp, hop, resolve, hc, invoke, builtin, ha', List.map_toArray, List.map_cons, List.map_nil, hmv, Sem.run_bind, Sem.run_pure, Result.andThen_ok, h]
  have hput : ∀ {w1 : World}, SRel C.P fa own { st with heap := st.heap.set id (.map es') } a w1 → SRel C.P fa own st' (a.put o.dst (.tuple #[])) w1 :=
    fun S1 => S1.put (x := XV.a (.d (.tup []))) (fun t _ => .d _ _ (.tup #[] [] rfl (fun i v d h _ => by simp at h))) he
  rcases Zwk hkk hkr ms.toList es es' 0 (by simpa using hsz) (fun j e d h1 h2 => (hent j e d (by simpa using h1) h2).1) hs with ⟨h1, rfl⟩ | ⟨j, e0, h1, h2, h4, rfl⟩
  · have hrun : (Builtin.delete_ c.argTypes o.type #[.map (some b), a.eval k]).run C.P w = .ok (.tuple #[]) { w with heap := w.heap.setIfInBounds b (.map ms cl) } := by
      simp [Builtin.delete_, ht', run_underlying hu, MapKept.run_getObj_map hmm, hchk, MapKept.run_findKey hkt h1, MapKept.run_setObj_map _ hmm]
    have := S.setMap (m' := ms) (cl' := cl) (es' := es') ho hob hmm hst hsz (fun w' h' e' i e1 x1 he1 hx1 => by
      obtain ⟨y1, y2⟩ := hent i e1 x1 he1 hx1
      exact ⟨y1.mono e'.ext, y2.mono e'⟩)
    exact ZaV (hres _ hrun) (hput this.1) this.2.1 (by rw [ZbA he]; exact this.2.2)
  · have hjm : j < ms.size := by omega
    have hrun : (Builtin.delete_ c.argTypes o.type #[.map (some b), a.eval k]).run C.P w = .ok (.tuple #[]) { w with heap := w.heap.setIfInBounds b (.map (ms.eraseIdxIfInBounds j) cl) } := by
      simp [Builtin.delete_, ht', run_underlying hu, MapKept.run_getObj_map hmm, hchk, MapKept.run_findKey hkt h1, MapKept.run_setObj_map _ hmm]
    have := S.setMap (m' := ms.eraseIdxIfInBounds j) (cl' := cl) (es' := es.eraseIdx j) ho hob hmm (Zpk hst j) (by
        rw [Array.eraseIdxIfInBounds, dif_pos hjm, Array.size_eraseIdx, List.length_eraseIdx_of_lt h4, hsz]) (fun w' h' e' i e1 x1 he1 hx1 => by
      rw [ZvR ms j i hjm, List.getElem?_eraseIdx] at he1
      rw [List.getElem?_eraseIdx] at hx1
      split at he1
      · rename_i hi
        rw [if_pos hi] at hx1
        obtain ⟨y1, y2⟩ := hent i e1 x1 (by simpa using he1) hx1
        exact ⟨y1.mono e'.ext, y2.mono e'⟩
      · rename_i hi
        rw [if_neg hi] at hx1
        obtain ⟨y1, y2⟩ := hent (i + 1) e1 x1 (by simpa using he1) hx1
        exact ⟨y1.mono e'.ext, y2.mono e'⟩)
    exact ZaV (hres _ hrun) (hput this.1) this.2.1 (by rw [ZbA he]; exact this.2.2)
end
end Go.Abs
namespace Go.Abs
section
variable {C : Ctx} {call : Zaa} {fa : FA} {own own' : Own} {st st' : St} {a : Act} {w w' : World} {o : Oper}
def Yd9 (st : St) : Owner → Prop
  | .own s => ∃ es, Zad st.env s = some (.own es)
  | .tmp t => ∃ es, Zad st.tmp t = some (.own es)
  | .pend => False
  | _ => True
theorem SRel.loseEnv (S : SRel C.P fa own st a w) (s : Nat) : SRel C.P fa own (st.loseEnv s) a w := by
  unfold St.loseEnv
  split
  · rename_i es hes
    have hr := S.env s _ hes
    refine ⟨S.h, S.nt, S.defers, fun u sv hu => ?_, S.tk, fun u sv hu => ?_, fun t x ht => ?_⟩
    · simp only at hu
      rw [ZaC] at hu
      cases hb : Nat.beq s u with
      | true => rw [← Nat.eq_of_beq_eq_true hb]; exact S.ek s _ hes
      | false => rw [hb] at hu; exact S.ek u sv hu
    · simp only at hu
      rw [ZaC] at hu
      cases hb : Nat.beq s u with
      | true =>
        rw [hb] at hu
        simp only [cond_true, Option.some.injEq] at hu
        subst hu
        rw [← Nat.eq_of_beq_eq_true hb]
        exact .d _ _ (OwnRel.rep hr)
      | false => rw [hb] at hu; exact S.env u sv hu
    · refine (S.tmp t x ht).mono ((Grow.refl w).extA own st.heap) (fun _ _ _ _ hb => hb) ((Grow.refl w).keep S.h _) (fun k es' hk es2 hes2 => ?_)
      simp only at hes2
      rw [ZaC] at hes2
      cases hb : Nat.beq s k with
      | true => rw [hb] at hes2; simp at hes2
      | false => rw [hb] at hes2; exact ⟨hes2, rfl⟩
  · exact S
theorem Zj9 (st : St) (s : Nat) : ¬ Yd9 (st.loseEnv s) (.own s) := by
  rintro ⟨es, h⟩
  unfold St.loseEnv at h
  split at h
  · simp only at h
    rw [ZaC] at h
    simp at h
  · rename_i hn
    exact hn es h
theorem Zqx (st : St) (s : Nat) : (st.loseEnv s).heap = st.heap := by
  unfold St.loseEnv; split <;> rfl
theorem Zle (st : St) (x : Operand) : (st.lose x).heap = st.heap := by
  unfold St.lose
  repeat' split
  all_goals first | rfl | exact Zqx _ _
theorem Zn0 (S : SRel C.P fa own st a w) {x : Operand} {es : List DV} (h : Zc8 st x = some es) : SRel C.P fa own (st.lose x) a w ∧
    ∃ z : Owner, OwnRel C.P w own z (a.eval x) es ∧ ¬ Yd9 (st.lose x) z := by
  unfold Zc8 at h
  split at h
  · rename_i t
    rw [ZkM]
    split at h
    · rename_i es' ht
      simp only [Option.some.injEq] at h
      subst h
      have hr := S.tmp t _ ht
      have hl : st.lose (.tmp t) = { st with tmp := ins st.tmp t (.a (.d (.slc es'))) } := by simp only [St.lose, ht]
      rw [hl]
      refine ⟨⟨S.h, S.nt, S.defers, S.ek, fun u y hu => ?_, S.env, fun u y hu => ?_⟩, .tmp t, hr, ?_⟩
      · simp only at hu
        rw [ZaI] at hu
        cases hb : Nat.beq t u with
        | true => rw [← Nat.eq_of_beq_eq_true hb]; exact S.tk t _ ht
        | false => rw [hb] at hu; exact S.tk u y hu
      · simp only at hu
        rw [ZaI] at hu
        cases hb : Nat.beq t u with
        | true =>
          rw [hb] at hu
          simp only [cond_true, Option.some.injEq] at hu
          subst hu
          rw [← Nat.eq_of_beq_eq_true hb]
          exact .d _ _ (OwnRel.rep hr)
        | false => rw [hb] at hu; exact S.tmp u y hu
      · rintro ⟨es2, h2⟩
        simp only at h2
        rw [ZaI] at h2
        simp at h2
    · rename_i s es0 ht
      split at h
      · rename_i es' hes
        simp only [Option.some.injEq] at h
        subst h
        have hr := S.tmp t _ ht
        obtain ⟨h1, h2⟩ := hr
        obtain ⟨h3, h4⟩ := h2 _ hes
        have hl : st.lose (.tmp t) = st.loseEnv s := by simp only [St.lose, ht]
        rw [hl]
        refine ⟨S.loseEnv s, .own s, ?_, Zj9 st s⟩
        rw [← h4]
        exact S.env s _ hes
      · cases h
    · cases h
    · rename_i ht
      split at h
      · rename_i es' hes
        simp only [Option.some.injEq] at h
        subst h
        have hl : st.lose (.tmp t) = st.loseEnv t := by simp only [St.lose, ht]
        rw [hl]
        exact ⟨S.loseEnv t, .own t, S.env t _ hes, Zj9 st t⟩
      · cases h
  · simp only [Option.some.injEq] at h
    subst h
    exact ⟨S, .pend, .inl ⟨rfl, none, rfl⟩, fun h => h⟩
  · cases h
def ZeD (own : Own) (b : Nat) (y : Owner) (f : Nat) : Own := fun k => if k = b then some (y, f) else match own k with
  | some (z, g) => if z = y then none else some (z, g)
  | none => none
theorem ZcX (own : Own) (b : Nat) (y : Owner) (f : Nat) : ZeD own b y f b = some (y, f) := by simp [ZeD]
theorem Zq7 {own : Own} {b k : Nat} {y z : Owner} {f g : Nat} (h : own k = some (z, g)) (hk : k ≠ b) (hz : z ≠ y) : ZeD own b y f k = some (z, g) := by
  simp [ZeD, hk, h, hz]
theorem Zne {own : Own} {b k : Nat} {y : Owner} {f : Nat} (h : own k = none) (hk : k ≠ b) : ZeD own b y f k = none := by simp [ZeD, hk, h]
theorem ZdM {own : Own} {b k : Nat} {y z : Owner} {f g : Nat} (h : ZeD own b y f k = some (z, g)) : (k = b ∧ z = y ∧ g = f) ∨ (k ≠ b ∧ own k = some (z, g) ∧ z ≠ y) := by
  unfold ZeD at h
  split at h
  · rename_i hk
    simp only [Option.some.injEq, Prod.mk.injEq] at h
    exact .inl ⟨hk, h.1.symm, h.2.symm⟩
  · rename_i hk
    split at h
    · rename_i z' g' hz
      split at h
      · cases h
      · rename_i hne
        simp only [Option.some.injEq, Prod.mk.injEq] at h
        obtain ⟨rfl, rfl⟩ := h
        exact .inr ⟨hk, hz, hne⟩
    · cases h
structure Turns (w : World) (own : Own) (D : Owner → Prop) (w' : World) (b f : Nat) : Prop where
  os : w'.os = w.os
  tape : w'.tape = w.tape
  output : w'.output = w.output
  size : w.heap.size ≤ w'.heap.size
  blk : ∀ k, k < w.heap.size → k ≠ b → w'.heap[k]? = w.heap[k]?
  here : b < w'.heap.size
  from_ : w.heap.size ≤ b ∨ ∃ x f0, own b = some (x, f0) ∧ D x ∧ f0 ≤ f ∧ ∀ j v, j < f0 → w.cell? ⟨b, j, none⟩ = some v → w'.cell? ⟨b, j, none⟩ = some v
theorem Turns.frm {D : Owner → Prop} {b f : Nat} {y : Owner} (T : Turns w own D w' b f) (hD : ¬ D .ext) (hy : y ≠ .ext) : Frm w own w' (ZeD own b y f) := by
  refine ⟨T.os, T.tape, T.output, T.size, fun k hk ho => ?_⟩
  have hne : k ≠ b := by
    rintro rfl
    rcases T.from_ with h | ⟨x, f0, h1, h2, _⟩
    · omega
    · rcases ho with ho | ⟨g, ho⟩
      · rw [h1] at ho; cases ho
      · rw [h1] at ho; simp only [Option.some.injEq, Prod.mk.injEq] at ho; rw [ho.1] at h2; exact hD h2
  refine ⟨T.blk k hk hne, ?_⟩
  rcases ho with ho | ⟨g, ho⟩
  · rw [ho]; exact Zne ho hne
  · rw [ho]; exact Zq7 ho hne (Ne.symm hy)
theorem Turns.keep {D : Owner → Prop} {b f : Nat} {y z : Owner} {P : Program} {h : List AObj} (T : Turns w own D w' b f) (H : HRel P w own h) (hz : ¬ D z) (hy : z ≠ y) : Keep w own w' (ZeD own b y f) z := by
  intro k g hk
  have hlt := H.lt k _ hk
  have hne : k ≠ b := by
    rintro rfl
    rcases T.from_ with h | ⟨x, f0, h1, h2, _⟩
    · omega
    · rw [h1] at hk; simp only [Option.some.injEq, Prod.mk.injEq] at hk; rw [hk.1] at h2; exact hz h2
  exact ⟨Zq7 hk hne hy, T.blk k hlt hne⟩
theorem Turns.extA' {D : Owner → Prop} {b f : Nat} {y : Owner} {P : Program} {h h' : List AObj} (T : Turns w own D w' b f) (H : HRel P w own h) (hD : ∀ id, ¬ D (.obj id)) (hy : ∀ (id : Nat) (x x' : AObj), h[id]? = some x → h'[id]? = some x' → x.stays x' → y ≠ .obj id)
    (hlen : h.length ≤ h'.length) (hk : ∀ (id : Nat) (x x' : AObj), h[id]? = some x → h'[id]? = some x' → x.later x') : ExtA w own h w' (ZeD own b y f) h' := by
  have bs : ∀ k z g, own k = some (z, g) → w.heap.size ≤ b → k ≠ b := fun k z g hk hb => by have := H.lt k _ hk; omega
  refine ⟨⟨fun k i v hc hp => ?_, fun k es c hc hn => ?_⟩, hlen, hk, fun k id x x' hb h1 h2 h3 => ?_⟩
  · have hlt := Zdc hc
    by_cases hkb : k = b
    · subst hkb
      rcases T.from_ with h | ⟨x, f0, h1, h2, h3, h4⟩
      · omega
      · have hi : i < f0 := hp x f0 h1
        refine ⟨h4 i v hi hc, fun z g hz => ?_⟩
        rw [ZcX] at hz
        simp only [Option.some.injEq, Prod.mk.injEq] at hz
        omega
    · refine ⟨by rw [ZbQ (T.blk k hlt hkb), hc], fun z g hz => ?_⟩
      rcases ZdM hz with ⟨h1, _⟩ | ⟨_, h2, _⟩
      · exact absurd h1 hkb
      · exact hp z g h2
  · have hlt := ZaN hc
    have hkb : k ≠ b := by
      rintro rfl
      rcases T.from_ with h | ⟨x, f0, h1, _⟩
      · omega
      · rw [h1] at hn; cases hn
    exact ⟨by rw [T.blk k hlt hkb, hc], Zne hn hkb⟩
  · have hid := (List.getElem?_eq_some_iff.1 h1).1
    obtain ⟨e1, e2⟩ := T.keep H (hD id) (fun e => hy id x x' h1 h2 h3 e.symm) k 0 hb
    exact ⟨e1, fun c T' fr hc => ⟨c, by rw [e2, hc], rfl⟩⟩
theorem Turns.extA {D : Owner → Prop} {b f : Nat} {y : Owner} {P : Program} {h h' : List AObj} (T : Turns w own D w' b f) (H : HRel P w own h) (hD : ∀ id, ¬ D (.obj id)) (hy : ∀ id, id < h.length → y ≠ .obj id)
    (hlen : h.length ≤ h'.length) (hk : ∀ (id : Nat) (x x' : AObj), h[id]? = some x → h'[id]? = some x' → x = x') : ExtA w own h w' (ZeD own b y f) h' :=
  T.extA' H hD (fun id x x' h1 _ _ => hy id (List.getElem?_eq_some_iff.1 h1).1) hlen (fun id x x' h1 h2 => by rw [hk id x x' h1 h2]; exact AObj.later_refl x')
theorem Turns.uniq {D : Owner → Prop} {b f : Nat} {y : Owner} {P : Program} {h : List AObj} (T : Turns w own D w' b f) (H : HRel P w own h) :
    ∀ k k' x g g', ZeD own b y f k = some (x, g) → ZeD own b y f k' = some (x, g') → x ≠ .ext → k = k' := by
  intro k k' x g g' h1 h2 hne
  rcases ZdM h1 with ⟨rfl, e, _⟩ | ⟨_, e1, e2⟩ <;> rcases ZdM h2 with ⟨rfl, e', _⟩ | ⟨_, e1', e2'⟩
  · rfl
  · exact absurd e e2'
  · exact absurd e' e2
  · exact H.uniq k k' x g g' e1 e1' hne
theorem Turns.lt {D : Owner → Prop} {b f : Nat} {y : Owner} {P : Program} {h : List AObj} (T : Turns w own D w' b f) (H : HRel P w own h) :
    ∀ k x, ZeD own b y f k = some x → k < w'.heap.size := by
  rintro k ⟨z, g⟩ hk
  rcases ZdM hk with ⟨rfl, _⟩ | ⟨_, e, _⟩
  · exact T.here
  · exact Nat.lt_of_lt_of_le (H.lt k _ e) T.size
theorem SRel.putOwn (S : SRel C.P fa own st a w) {y : Owner} {dst : Option Tmp} {v : Value} {es : List DV} (H : HRel C.P w' own' st.heap) (e : ExtA w own st.heap w' own' st.heap)
    (hk : ∀ z, Yd9 st z → (∀ t, dst = some t → z ≠ .own t ∧ z ≠ .tmp t) → (∀ id, z ≠ .obj id) → Keep w own w' own' z)
    (hy : ∀ t, dst = some t → OwnRel C.P w' own' (if has fa.keep t then .own t else .tmp t) v es) (hp : st.putOwn fa dst es = some st') : SRel C.P fa own' st' (a.put dst v) w' := by
  unfold St.putOwn at hp
  cases dst with
  | none => cases hp
  | some t =>
    simp only at hp
    have hyt := hy t rfl
    cases hlt : Nat.blt t fa.nt with
    | false => rw [hlt] at hp; cases hp
    | true =>
      rw [hlt] at hp
      simp only [cond_true] at hp
      have ht : t < a.tmps.size := by rw [S.nt]; simpa [Nat.blt_eq] using hlt
      have hget := fun s => Zsx (v := v) ht s
      have kbox : ∀ s, Keep w own w' own' (.box s) := fun s => hk _ trivial (fun t' _ => ⟨by simp, by simp⟩) (by simp)
      have env : ∀ u sv, Zad st.env u = some sv → u ≠ t → SVRel C.P w' own' st.heap u ((a.put (some t) v).tmps.getD u undef) sv := by
        intro u sv hu hne
        rw [hget u, if_neg hne]
        have hr := S.env u sv hu
        cases sv with
        | val x => exact ARep.mono hr e
        | box cs => exact BoxRel.mono hr e.ext (kbox u)
        | own es' => exact OwnRel.mono hr e.ext (hk (.own u) ⟨es', hu⟩ (fun t' ht' => by cases ht'; exact ⟨by simpa using hne, by simp⟩) (by simp))
      cases hkt : has fa.keep t with
      | true =>
        rw [hkt] at hp hyt
        simp only [cond_true, if_true, Option.some.injEq] at hp hyt
        subst hp
        refine ⟨H, by simp [Act.put, S.nt], S.defers, fun u sv hu => ?_, fun u x hu => ?_, fun u sv hu => ?_, fun u x hu => ?_⟩
        · simp only at hu
          rw [ZaC] at hu
          cases hb : Nat.beq t u with
          | true => rw [← Nat.eq_of_beq_eq_true hb]; exact hkt
          | false => rw [hb] at hu; exact S.ek u sv hu
        · simp only at hu
          rw [Zhl] at hu
          obtain ⟨x0, h0, _⟩ := Option.map_eq_some_iff.1 hu
          exact S.tk u x0 h0
        · simp only at hu
          rw [ZaC] at hu
          cases hb : Nat.beq t u with
          | true =>
            rw [hb] at hu
            simp only [cond_true, Option.some.injEq] at hu
            subst hu
            have := Nat.eq_of_beq_eq_true hb
            subst this
            rw [hget t, if_pos rfl]
            exact hyt
          | false =>
            rw [hb] at hu
            exact env u sv hu (Ne.symm (beq_ne.1 hb))
        · simp only at hu
          rw [Zhl] at hu
          obtain ⟨x0, h0, hx⟩ := Option.map_eq_some_iff.1 hu
          have hut : u ≠ t := by rintro rfl; rw [S.tk u x0 h0] at hkt; cases hkt
          rw [hget u, if_neg hut]
          have hr := S.tmp u x0 h0
          have kown : ∀ es', x0 = .own es' → Keep w own w' own' (.tmp u) := fun es' h => hk (.tmp u) ⟨es', by rw [h0, h]⟩ (fun t' ht' => by cases ht'; exact ⟨by simp, by simpa using hut⟩) (by simp)
          cases x0 with
          | al k es' =>
            simp only at hx
            cases hb : Nat.beq k t with
            | true =>
              rw [hb] at hx
              simp only [cond_true] at hx
              subst hx
              exact .d _ _ (hr.1.mono e.ext)
            | false =>
              rw [hb] at hx
              simp only [cond_false] at hx
              subst hx
              refine ⟨hr.1.mono e.ext, fun es2 h2 => ?_⟩
              simp only at h2
              rw [ZaC] at h2
              have hne : Nat.beq t k = false := beq_ne.2 (Ne.symm (beq_ne.1 hb))
              rw [hne] at h2
              obtain ⟨y1, y2⟩ := hr.2 es2 h2
              exact ⟨y1, by show (a.put (some t) v).tmps.getD k undef = _; rw [hget k, if_neg (beq_ne.1 hb)]; exact y2⟩
          | a v => simp only at hx; subst hx; exact ARep.mono hr e
          | sp s off => simp only at hx; subst hx; obtain ⟨b, hb, hv⟩ := hr; exact ⟨b, (kbox s b 0 hb).1, hv⟩
          | fp cs => simp only at hx; subst hx; exact FpRel.mono hr e.ext
          | ap id g i off => simp only at hx; subst hx; exact ApRel.mono hr e
          | own es' => simp only at hx; subst hx; exact OwnRel.mono hr e.ext (kown es' rfl)
          | un => simp only at hx; subst hx; exact hr
      | false =>
        rw [hkt] at hp hyt
        simp only [cond_false, Bool.false_eq_true, if_false, Option.some.injEq] at hp hyt
        subst hp
        have et : ∀ u sv, Zad st.env u = some sv → u ≠ t := fun u sv hu => by rintro rfl; rw [S.ek u sv hu] at hkt; cases hkt
        refine ⟨H, by simp [Act.put, S.nt], S.defers, S.ek, fun u x hu => ?_, fun u sv hu => env u sv hu (et u sv hu), fun u x hu => ?_⟩
        · simp only at hu
          rw [ZaI] at hu
          cases hb : Nat.beq t u with
          | true => rw [← Nat.eq_of_beq_eq_true hb]; exact hkt
          | false => rw [hb] at hu; exact S.tk u x hu
        · simp only at hu
          rw [ZaI] at hu
          cases hb : Nat.beq t u with
          | true =>
            rw [hb] at hu
            simp only [cond_true, Option.some.injEq] at hu
            subst hu
            have := Nat.eq_of_beq_eq_true hb
            subst this
            rw [hget t, if_pos rfl]
            exact hyt
          | false =>
            rw [hb] at hu
            have hut : u ≠ t := Ne.symm (beq_ne.1 hb)
            rw [hget u, if_neg hut]
            have hr := S.tmp u x hu
            cases x with
            | al k es' => exact ⟨hr.1.mono e.ext, fun es2 h2 => by
                obtain ⟨y1, y2⟩ := hr.2 es2 h2
                exact ⟨y1, by show (a.put (some t) v).tmps.getD k undef = _; rw [hget k, if_neg (et k _ h2)]; exact y2⟩⟩
            | a v => exact ARep.mono hr e
            | sp s off => obtain ⟨b, hb, hv⟩ := hr; exact ⟨b, (kbox s b 0 hb).1, hv⟩
            | fp cs => exact FpRel.mono hr e.ext
            | ap id g i off => exact ApRel.mono hr e
            | own es' => exact OwnRel.mono hr e.ext (hk (.tmp u) ⟨es', hu⟩ (fun t' ht' => by cases ht'; exact ⟨by simp, by simpa using hut⟩) (by simp))
            | un => exact hr
theorem Zh1 {dst : Option Tmp} {es : List DV} (hp : st.putOwn fa dst es = some st') : st'.heap = st.heap := by
  unfold St.putOwn at hp
  split at hp
  · cases hp
  · rename_i t
    cases h1 : Nat.blt t fa.nt <;> rw [h1] at hp
    · cases hp
    · cases h2 : has fa.keep t <;> rw [h2] at hp <;> simp only [cond_true, cond_false, Option.some.injEq] at hp <;> subst hp <;> rfl
theorem SRel.turnOwn (S : SRel C.P fa own st a w) {D : Owner → Prop} {b f : Nat} {dst : Option Tmp} {v : Value} {es : List DV} (T : Turns w own D w' b f) (hD : ∀ z, D z → ¬ Yd9 st z)
    (hy : ∀ y own', (∀ t, dst = some t → y = if has fa.keep t then .own t else .tmp t) → own' = ZeD own b y f → ExtA w own st.heap w' own' st.heap → OwnRel C.P w' own' y v es) (hp : st.putOwn fa dst es = some st') :
    ∃ own', SRel C.P fa own' st' (a.put dst v) w' ∧ Frm w own w' own' ∧ ExtA w own st.heap w' own' st'.heap := by
  cases dst with
  | none => cases hp
  | some t =>
    have hDo : ∀ id, ¬ D (.obj id) := fun id h => hD _ h trivial
    have key : ∀ y : Owner, (y = if has fa.keep t then .own t else .tmp t) → (∀ id, y ≠ .obj id) ∧ y ≠ .ext ∧ (y = .own t ∨ y = .tmp t) := by
      intro y hy
      split at hy <;> subst hy <;> simp
    obtain ⟨k1, k2, k3⟩ := key _ rfl
    generalize hyy : (if has fa.keep t then Owner.own t else Owner.tmp t) = y at k1 k2 k3
    have e := T.extA (y := y) S.h hDo (fun id _ => k1 id) (Nat.le_refl _) (fun id x x' h1 h2 => by rw [h1] at h2; simpa using h2)
    refine ⟨ZeD own b y f, ?_, T.frm (fun h => hD _ h trivial) k2, by rw [Zh1 hp]; exact e⟩
    refine S.putOwn (y := y) (own' := ZeD own b y f) ⟨fun id x hx => ?_, T.uniq S.h, T.lt S.h, fun k id g hk => ?_⟩ e (fun z hz hn ho => T.keep S.h (fun h => hD z h hz) ?_) (fun t' ht' => ?_) hp
    · obtain ⟨k, hk, hr⟩ := S.h.obj id x hx
      obtain ⟨e1, e2⟩ := T.keep (y := y) S.h (hDo id) (fun h => k1 id h.symm) k 0 hk
      exact ⟨k, e1, hr.mono e e2⟩
    · rcases ZdM hk with ⟨_, h, _⟩ | ⟨_, h, _⟩
      · exact absurd h.symm (k1 id)
      · exact S.h.idlt k id g h
    · rintro rfl
      obtain ⟨n1, n2⟩ := hn t rfl
      rcases k3 with h | h
      · exact n1 h
      · exact n2 h
    · cases ht'
      rw [hyy]
      exact hy y _ (fun t' ht' => by cases ht'; exact hyy.symm) rfl e
theorem Zzz (S : SRel C.P fa own st a w) {x : Operand} {es : List DV} (hop : o.op = .move x ∨ o.op = .assign x) (hx : Zc8 st x = some es) (hp : (st.lose x).putOwn fa o.dst es = some st') : ZeU C.P fa own st.heap st' a w o := by
  obtain ⟨S1, z, hr, hd⟩ := Zn0 S hx
  have hrun : (execOp a.eval o).run C.P w = .ok (.value (a.eval x)) w := by rcases hop with h | h <;> simp [execOp, h]
  have hheap := Zle st x
  rcases hr with ⟨rfl, q, hv⟩ | ⟨b, cap, c, T, i, hne, hv, hob, hc, hi, hpos, hle, hmax, hsz, hrep, hes⟩
  · refine ZaV (own' := own) hrun (S1.putOwn (y := z) (by rw [hheap]; exact S.h) (by rw [hheap]; exact (Grow.refl w).extA own _) (fun z _ _ _ => (Grow.refl w).keep S.h z) (fun t _ => .inl ⟨rfl, q, hv⟩) hp) (.refl w own) (by rw [Zh1 hp, hheap]; exact (Grow.refl w).extA own _)
  · have T' : Turns w own (fun x => x = z) w b (es.length * i.size) := ⟨rfl, rfl, rfl, Nat.le_refl _, fun _ _ _ => rfl, ZaN hc, .inr ⟨z, _, hob, rfl, Nat.le_refl _, fun j v _ h => h⟩⟩
    obtain ⟨own', S2, F, E⟩ := S1.turnOwn (dst := o.dst) (v := a.eval x) (es := es) T' (fun y hy => by rw [hy]; exact hd) (fun y own' _ ho e => .inr ⟨b, cap, c, T, i, hne, hv, by rw [ho, ZcX], hc, hi, hpos, hle, hmax, hsz, hrep.mono e.ext, hes⟩) hp
    exact ZaV hrun S2 F (by rw [← hheap]; exact E)
end
end Go.Abs
namespace Go.Abs
section
variable {C : Ctx} {call : Zaa} {fa : FA} {own own' : Own} {st st' : St} {a : Act} {w w' : World} {o : Oper}
theorem Ze5 {sz : Nat} : ∀ {l : List DV}, Zaz sz l = true → ∀ e ∈ l, e.cells.length = sz := by
  intro l
  induction l with
  | nil => intro _ e he; simp at he
  | cons v l ih =>
    intro h e he
    simp only [Zaz, Bool.and_eq_true] at h
    simp only [List.mem_cons] at he
    rcases he with rfl | he
    · exact Nat.eq_of_beq_eq_true h.1
    · exact ih h.2 e he
theorem ZoZ {x : Value} {new : List DV} {sz : Nat} (r : Rep w own x (.slc new)) (hsz : ∀ e ∈ new, e.cells.length = sz) : ∃ xb cap, ∃ news : List Value, x = .slice xb new.length cap ∧ news.length = new.length * sz ∧
    (∀ w', w'.heap = w.heap → (Builtin.firstCells sz new.length x).run C.P w' = .ok news.toArray w') ∧ (∀ u ∈ news, u.oneCell' = true) ∧
    ∀ (j : Nat) u d, news[j]? = some u → (new.flatMap DV.cells)[j]? = some d → Rep w own u d := by
  by_cases hne : new = []
  · subst hne
    obtain ⟨xb, cap, hx⟩ := r.slc_len
    refine ⟨xb, cap, [], hx, by simp, fun w' hw => ?_, by simp, fun j u d h => by simp at h⟩
    rw [hx]
    cases xb with
    | none => exact run_firstCells_none _ _ _ _ _
    | some a => exact run_firstCells_some _ _ _ _ _ _ [] (by simp) (fun j v h => by simp at h)
  · obtain ⟨b, off, cap, sz', vs, hx, hcap, hs, hc, hp, h1, hr⟩ := r.slc_inv hne
    have hsz' : sz' = sz := by
      obtain ⟨e, he⟩ := List.exists_mem_of_ne_nil _ hne
      rw [← hs e he, hsz e he]
    subst hsz'
    let news := (List.range (new.length * sz')).map vs
    have hg : ∀ (j : Nat) u, news[j]? = some u → j < new.length * sz' ∧ u = vs j := by
      intro j u hu
      simp only [news, List.getElem?_map, Option.map_eq_some_iff] at hu
      obtain ⟨k, hk, rfl⟩ := hu
      have hj : j < new.length * sz' := by
        have := (List.getElem?_eq_some_iff.1 hk).1
        simpa using this
      rw [List.getElem?_range hj] at hk
      simp only [Option.some.injEq] at hk
      subst hk
      exact ⟨hj, rfl⟩
    refine ⟨some ⟨b, off, none⟩, cap, news, hx, by simp [news], fun w' hw => ?_, fun u hu => ?_, fun j u d hu hd => ?_⟩
    · rw [hx]
      refine run_firstCells_some _ _ _ _ _ _ news (by simp [news]) (fun j v h => ?_)
      obtain ⟨hj, rfl⟩ := hg j v h
      rw [Addr.add_lit, ZbQ (w := w) (w' := w') (by rw [hw])]
      exact hc j hj
    · obtain ⟨j, hj, rfl⟩ := List.mem_iff_getElem.1 hu
      obtain ⟨h2, h3⟩ := hg j _ (List.getElem?_eq_getElem hj)
      rw [h3]; exact h1 j h2
    · obtain ⟨_, rfl⟩ := hg j u hu
      exact hr j d hd
theorem ZgE {t ty e : TypeId} {i : TypeInfo} (ht : C.P.underlying t = some (.slice e)) (hi : C.P.info? e = some i) {b n cap m : Nat} {c : Array Value} {T : TypeId} {fr : Nat × Nat}
    (hc : w.heap[b]? = some (.cells c T fr)) (hnf : Zf8 c fr) {xb : Option Addr} {xc : Nat} {news : List Value} (hl : news.length = m * i.size)
    (hf : (Builtin.firstCells i.size m (.slice xb m xc)).run C.P w = .ok news.toArray w) (h1 : ∀ u ∈ news, u.oneCell' = true) (hroom : n + m ≤ cap) (hfit : cap * i.size ≤ c.size) :
    ∃ c' : Array Value, (Builtin.append_ #[t, t] ty #[.slice (some ⟨b, 0, none⟩) n cap, .slice xb m xc]).run C.P w = .ok (.slice (some ⟨b, 0, none⟩) (n + m) cap) (w.setRow b c') ∧ c'.size = c.size ∧
      ∀ j : Nat, c'[j]? = if n * i.size ≤ j ∧ j < n * i.size + m * i.size then news[j - n * i.size]? else c[j]? := by
  have hle : n * i.size + m * i.size ≤ c.size := by rw [← Nat.add_mul]; exact Nat.le_trans (Nat.mul_le_mul_right _ hroom) hfit
  obtain ⟨c', g1, g2, g3⟩ := Zcj (P := C.P) b (n * i.size) T fr news 0 c w hc hnf (by omega) h1
  refine ⟨c', ?_, g2, fun j => by rw [g3 j, Nat.add_zero, hl]⟩
  simp [Builtin.append_, run_underlying ht, sizeOf, typeInfo, hi, Builtin.lenOf, hroom, hf, Addr.add_lit, g1]
theorem ZoA {t ty e : TypeId} {i : TypeInfo} (ht : C.P.underlying t = some (.slice e)) (hi : C.P.info? e = some i) {xb : Option Addr} {xc : Nat}
    (hf : (Builtin.firstCells i.size 0 (.slice xb 0 xc)).run C.P w = .ok #[] w) (q : Option Addr) : (Builtin.append_ #[t, t] ty #[.slice q 0 0, .slice xb 0 xc]).run C.P w = .ok (.slice q 0 0) w := by
  cases q <;> simp [Builtin.append_, run_underlying ht, sizeOf, typeInfo, hi, Builtin.lenOf, hf, storeCells]
theorem Zj1 (sz : Nat) (q : Option Addr) : (Builtin.firstCells sz 0 (.slice q 0 0)).run C.P w = .ok #[] w := by
  cases q with
  | none => exact run_firstCells_none _ _ _ _ _
  | some b => exact run_firstCells_some _ _ _ _ _ _ [] (by simp) (fun j v h => by simp at h)
theorem Zdl {t ty e : TypeId} {i : TypeInfo} {z : Value} (ht : C.P.underlying t = some (.slice e)) (hi : C.P.info? e = some i) (hz : i.zero = some z) (hzs : z.cells.size = i.size)
    {sb : Option Addr} {n cap m : Nat} {olds : List Value} (ho : ∀ w', w'.heap = w.heap → (Builtin.firstCells i.size n (.slice sb n cap)).run C.P w' = .ok olds.toArray w') (hol : olds.length = n * i.size)
    {xb : Option Addr} {xc : Nat} {news : List Value} (hl : news.length = m * i.size)
    (hf : ∀ w', w'.heap = w.heap → (Builtin.firstCells i.size m (.slice xb m xc)).run C.P w' = .ok news.toArray w') (hroom : cap < n + m) (h63 : n + m ≤ 2 ^ 47) (hb : (n + m) * i.bytes ≤ 2 ^ 47) :
    ∃ (nc : Nat) (c' : Array Value), (Builtin.append_ #[t, t] ty #[.slice sb n cap, .slice xb m xc]).run C.P w = .ok (.slice (some ⟨w.heap.size, 0, none⟩) (n + m) nc) (w.drew.alloc (.cells c' e)) ∧
      n + m ≤ nc ∧ nc ≤ maxLen ∧ c'.size = nc * i.size ∧ (∀ j : Nat, j < (n + m) * i.size → c'[j]? = (olds ++ news)[j]?) := by
  have hn : ¬ (n + m ≤ cap) := by omega
  have h63' : ¬ (9223372036854775807 < ((n : Int) + (m : Int))) := by omega
  have h48' : ¬ (281474976710656 < Builtin.nextslicecap (n + m) cap * i.bytes) := by
    have := growslice_fits (bytes := i.bytes) hroom (by omega)
    omega
  have hge := grownCap_ge w (n + m) cap e
  have hmax := grownCap_le_maxLen w (n + m) cap e (by simp only [maxLen]; omega)
  refine ⟨grownCap w (n + m) cap e, olds.toArray ++ news.toArray ++ Builtin.zeroCells z.cells (grownCap w (n + m) cap e - (n + m)), ?_, hge, hmax, ?_, fun j hj => ?_⟩
  · simp [Builtin.append_, run_underlying ht, sizeOf, typeInfo, zeroValue, hi, hz, Builtin.lenOf, hn, h63', h48', Question.forced, hf w.drew rfl, ho w.drew rfl, newRow, grownCap]
    congr 2
    apply Array.ext'
    simp [List.append_assoc]
  · have hzc : (Builtin.zeroCells z.cells (grownCap w (n + m) cap e - (n + m))).size = (grownCap w (n + m) cap e - (n + m)) * i.size := by rw [size_zeroCells, hzs]
    rw [Array.size_append, Array.size_append, hzc]
    simp only [List.size_toArray, hol, hl]
    rw [← Nat.add_mul, ← Nat.add_mul]
    congr 1
    omega
  · have hlt : j < (olds ++ news).length := by rw [List.length_append, hol, hl, ← Nat.add_mul]; exact hj
    rw [Array.getElem?_append_left (by simpa using hlt)]
    simp
theorem ZoF {b cap n : Nat} {c : Array Value} {T : TypeId} {fr : Nat × Nat} {sz : Nat} {es : List DV} (hc : w.heap[b]? = some (.cells c T fr)) (hn : es.length = n) (hcap : n ≤ cap) (hsz : ∀ e ∈ es, e.cells.length = sz)
    (hp : ∀ x f, own b = some (x, f) → n * sz ≤ f) (hr : ∀ (j : Nat) d, (es.flatMap DV.cells)[j]? = some d → ∃ u, c[j]? = some u ∧ u.oneCell' = true ∧ Rep w own u d) : Rep w own (.slice (some ⟨b, 0, none⟩) n cap) (.slc es) := by
  subst hn
  have hin : ∀ i, i < es.length * sz → ∃ d u, (es.flatMap DV.cells)[i]? = some d ∧ c[i]? = some u ∧ u.oneCell' = true ∧ Rep w own u d := by
    intro i hi
    have hlt : i < (es.flatMap DV.cells).length := by rw [Za5 hsz]; exact hi
    have hx := List.getElem?_eq_getElem hlt
    obtain ⟨u, h1, h2, h3⟩ := hr i _ hx
    exact ⟨_, u, hx, h1, h2, h3⟩
  refine .slc b 0 cap sz es (fun i => c[i]?.getD undef) hcap hsz (fun i hi => ?_) (fun i hi x f hx => by have := hp x f hx; omega) (fun i hi => ?_) (fun i d hd => ?_)
  · obtain ⟨d, u, _, h1, _⟩ := hin i hi
    rw [Nat.zero_add, cell_of_row w b i c T fr hc, h1]; rfl
  · obtain ⟨d, u, _, h1, h2, _⟩ := hin i hi
    rw [h1]; exact h2
  · obtain ⟨u, h1, h2, h3⟩ := hr i d hd
    rw [h1]; exact h3
theorem ZiY {b n cap : Nat} {c : Array Value} {T : TypeId} {fr : Nat × Nat} {sz : Nat} (hc : w.heap[b]? = some (.cells c T fr)) (hfit : n * sz ≤ c.size) :
    ∀ w', w'.heap = w.heap → (Builtin.firstCells sz n (.slice (some ⟨b, 0, none⟩) n cap)).run C.P w' = .ok (c.toList.take (n * sz)).toArray w' := by
  intro w' hw
  refine run_firstCells_some _ _ _ _ _ _ _ (by rw [List.length_take, Array.length_toList]; omega) (fun j v h => ?_)
  rw [List.getElem?_take] at h
  split at h
  · rw [Addr.add_lit, Nat.zero_add, cell_of_row w' b j c T fr (by rw [hw, hc])]
    simpa using h
  · cases h
theorem ZvV {b cap : Nat} {c : Array Value} {T : TypeId} {fr : Nat × Nat} {sz : Nat} {es : List DV} (hne : es ≠ []) (hc : w.heap[b]? = some (.cells c T fr)) (hsz : ∀ e ∈ es, e.cells.length = sz)
    (hr : Rep w own (.slice (some ⟨b, 0, none⟩) es.length cap) (.slc es)) (j : Nat) (d : DV) (hd : (es.flatMap DV.cells)[j]? = some d) : ∃ u, c[j]? = some u ∧ u.oneCell' = true ∧ Rep w own u d := by
  obtain ⟨b', off, cap', sz', vs, hx, hcap, hs, hcell, hp, h1, hrr⟩ := hr.slc_inv hne
  simp only [Value.slice.injEq, Option.some.injEq, Addr.mk.injEq, true_and, and_true] at hx
  obtain ⟨⟨rfl, rfl⟩, rfl⟩ := hx
  have hsz' : sz' = sz := by
    obtain ⟨e, he⟩ := List.exists_mem_of_ne_nil _ hne
    rw [← hs e he, hsz e he]
  subst hsz'
  have hj : j < es.length * sz' := by
    have := (List.getElem?_eq_some_iff.1 hd).1
    rwa [Za5 hs] at this
  have h2 := hcell j hj
  rw [Nat.zero_add, cell_of_row w b j c T fr hc] at h2
  exact ⟨vs j, h2, h1 j hj, hrr j d hd⟩
theorem Zwa {es new : List DV} {sz : Nat} (h1 : ∀ e ∈ es, e.cells.length = sz) (h2 : ∀ e ∈ new, e.cells.length = sz) : ∀ e ∈ es ++ new, e.cells.length = sz := by
  intro e he
  rcases List.mem_append.1 he with h | h
  · exact h1 e h
  · exact h2 e h
theorem Zxk {es new : List DV} {sz : Nat} (h1 : ∀ e ∈ es, e.cells.length = sz) (j : Nat) : ((es ++ new).flatMap DV.cells)[j]? = if j < es.length * sz then (es.flatMap DV.cells)[j]? else (new.flatMap DV.cells)[j - es.length * sz]? := by
  rw [List.flatMap_append]
  split
  · rename_i h
    rw [List.getElem?_append_left (by rw [Za5 h1]; exact h)]
  · rename_i h
    rw [List.getElem?_append_right (by rw [Za5 h1]; omega), Za5 h1]
theorem ZbN {c : Call} {s x : Operand} {t : TypeId} (hop : o.op = .call c) (hc : c.callee = .builtin .append) (ha : c.args.toList = [s, x]) (ht : c.argTypes.toList = [t, t]) {v : Value}
    (h : (Builtin.append_ #[t, t] o.type #[a.eval s, a.eval x]).run C.P w = .ok v w') : (execOp a.eval o).run C.P w = .ok (.value v) w' := by
  have ha' : c.args = #[s, x] := by rw [← Array.toList_inj, ha]
  have ht' : c.argTypes = #[t, t] := by rw [← Array.toList_inj, ht]
  simp only [execOp, hop, resolve, hc, invoke, builtin, ha', ht', List.map_toArray, List.map_cons, List.map_nil, Sem.run_bind, Sem.run_pure, Result.andThen_ok, h]
theorem Zi5 (w : World) (x : Obj) : Grow w (w.drew.alloc x) := ⟨rfl, rfl, rfl, by simp, fun b hb => by
  show (w.heap.push x)[b]? = _
  rw [Array.getElem?_push, if_neg (Nat.ne_of_lt hb)]⟩
theorem ZlJ (w : World) (x : Obj) : (w.drew.alloc x).heap.size = w.heap.size + 1 := by simp
theorem Zgg (w : World) (x : Obj) : (w.drew.alloc x).heap[w.heap.size]? = some x := by
  show (w.heap.push x)[_]? = _
  simp
end
end Go.Abs
namespace Go.Abs
section
variable {C : Ctx} {call : Zaa} {fa : FA} {own own' : Own} {st st' : St} {a : Act} {w w' : World} {o : Oper}
theorem ZkV (w : World) (x : Obj) (own : Own) (f : Nat) : Turns w own (fun _ => False) (w.drew.alloc x) w.heap.size f :=
  ⟨rfl, rfl, rfl, (Zi5 w x).size, fun k hk _ => (Zi5 w x).blk k hk, by rw [ZlJ]; omega, .inl (Nat.le_refl _)⟩
theorem Zo1 (S : SRel C.P fa own st a w) {c : Call} {s x : Operand} {t : TypeId} {sz : Nat} {es new : List DV} (hop : o.op = .call c) (hc : c.callee = .builtin .append) (ha : c.args.toList = [s, x]) (ht : c.argTypes.toList = [t, t])
    (hes : Zc8 st s = some es) (hx : opD st x = some (.slc new)) (hsz : C.elemSize t = some sz) (hs1 : Zaz sz new = true) (hs2 : Zaz sz (es.take 1) = true) (hroom : ZbU C t (es.length + new.length) = true)
    (hok : C.elemOk t sz = true) (hp : (st.lose s).putOwn fa o.dst (es ++ new) = some st') : ZeU C.P fa own st.heap st' a w o := by
  obtain ⟨e, i, zv, zd, hu, hi, rfl, hiz, hzs, hpos, _, _, _⟩ := ZeO hsz hok
  obtain ⟨r1, r2⟩ := ZeG hu hi hroom
  have hnew := Ze5 hs1
  have hhead := Ze5 hs2
  obtain ⟨xb, xc, news, hxv, hnl, hf, h1, hnr⟩ := ZoZ (C := C) (Zbc S hx) hnew
  rw [hxv] at hf
  obtain ⟨S1, z, hr, hd⟩ := Zn0 S hes
  have hheap := Zle st s
  have nget : ∀ (j : Nat) d, (new.flatMap DV.cells)[j]? = some d → ∃ u, news[j]? = some u ∧ u.oneCell' = true ∧ Rep w own u d := by
    intro j d hd
    have hj : j < news.length := by
      rw [hnl, ← Za5 hnew]; exact (List.getElem?_eq_some_iff.1 hd).1
    have hu := List.getElem?_eq_getElem hj
    exact ⟨_, hu, h1 _ (List.mem_of_getElem? hu), hnr j _ d hu hd⟩
  rcases hr with ⟨rfl, q, hv⟩ | ⟨b, cap, cc, T, i', hne, hv, hob, hcc, hi', hpos', hle, hmax, hcsz, hrep, hessz⟩
  · by_cases hnn : new = []
    · subst hnn
      have hnews : news = [] := List.eq_nil_of_length_eq_zero (by simpa using hnl)
      subst hnews
      have hrun := ZbN (C := C) hop hc ha ht (by rw [hv, hxv]; exact ZoA (ty := o.type) hu hi (hf w rfl) q)
      exact ZaV (own' := own) hrun (S1.putOwn (y := z) (by rw [hheap]; exact S.h) (by rw [hheap]; exact (Grow.refl w).extA own _) (fun z _ _ _ => (Grow.refl w).keep S.h z) (fun t _ => .inl ⟨rfl, q, rfl⟩) hp) (.refl w own) (by rw [Zh1 hp, hheap]; exact (Grow.refl w).extA own _)
    · have hpl : 0 < new.length := List.length_pos_iff.2 hnn
      obtain ⟨nc, c', hrun, hge, hnm, hcs, hget⟩ := Zdl (ty := o.type) (n := 0) (cap := 0) (sb := q) (olds := []) hu hi hiz hzs (fun w' _ => Zj1 _ q) (by simp) hnl hf (by omega) (by simpa using r2) (by simpa using r1)
      have hrun' := ZbN (C := C) hop hc ha ht (by rw [hv, hxv]; exact hrun)
      have hkey : ∀ (y : Owner) (own1 : Own), own1 = ZeD own w.heap.size y (new.length * i.size) → ExtA w own (st.lose s).heap (w.drew.alloc (.cells c' e)) own1 (st.lose s).heap →
          OwnRel C.P (w.drew.alloc (.cells c' e)) own1 y (.slice (some ⟨w.heap.size, 0, none⟩) (0 + new.length) nc) ([] ++ new) := by
        intro y own1 ho e'
        refine .inr ⟨w.heap.size, nc, c', e, i, by simpa using hnn, by simp, by rw [ho, ZcX]; simp, Zgg w _, hi, hpos, by simpa using hge, hnm, hcs, ?_, by simpa using hnew⟩
        refine ZoF (n := 0 + new.length) (Zgg w _) (by simp) hge (by simpa using hnew) (fun x f hx => by
          rw [ho, ZcX] at hx
          simp only [Option.some.injEq, Prod.mk.injEq] at hx
          rw [← hx.2, Nat.zero_add]
          exact Nat.le_refl _) (fun j d hd => ?_)
        simp only [List.nil_append] at hd
        obtain ⟨u, g1, g2, g3⟩ := nget j d hd
        have hj : j < new.length * i.size := by rw [← Za5 hnew]; exact (List.getElem?_eq_some_iff.1 hd).1
        exact ⟨u, by rw [hget j (by simpa using hj)]; simpa using g1, g2, g3.mono e'.ext⟩
      obtain ⟨own', S2, F, E⟩ := S1.turnOwn (dst := o.dst) (v := .slice (some ⟨w.heap.size, 0, none⟩) (0 + new.length) nc) (es := [] ++ new) (ZkV w (.cells c' e) own (new.length * i.size)) (fun _ h => h.elim) (fun y own' _ ho e' => hkey y own' ho e') hp
      exact ZaV hrun' S2 F (by rw [← hheap]; exact E)
  · have hii : i'.size = i.size := by
      obtain ⟨x, l, rfl⟩ := List.exists_cons_of_ne_nil hne
      rw [← hessz x (by simp), hhead x (by simp)]
    rw [hii] at hob hcsz hessz
    have hold : ∀ (j : Nat) d, (es.flatMap DV.cells)[j]? = some d → ∃ u, cc[j]? = some u ∧ u.oneCell' = true ∧ Rep w own u d := fun j d hd => ZvV hne hcc hessz (by rw [← hv]; exact hrep) j d hd
    have hall := Zwa hessz hnew
    have hne' : es ++ new ≠ [] := by simp [hne]
    have hln : (es ++ new).length = es.length + new.length := List.length_append
    have hflt : ∀ (j : Nat) d, ((es ++ new).flatMap DV.cells)[j]? = some d → j < (es.length + new.length) * i.size := fun j d hd => by
      rw [← hln, ← Za5 hall]; exact (List.getElem?_eq_some_iff.1 hd).1
    rcases Nat.lt_or_ge cap (es.length + new.length) with hfull | hin
    · have hfirst := ZiY (C := C) (cap := cap) (n := es.length) (sz := i.size) hcc (by rw [hcsz]; exact Nat.mul_le_mul_right _ hle)
      have hol : (cc.toList.take (es.length * i.size)).length = es.length * i.size := by
        rw [List.length_take, show cc.toList.length = cc.size from rfl, hcsz]; exact Nat.min_eq_left (Nat.mul_le_mul_right _ hle)
      obtain ⟨nc, c', hrun, hge, hnm, hcs, hget⟩ := Zdl (ty := o.type) hu hi hiz hzs hfirst hol hnl hf hfull r2 r1
      have hrun' := ZbN (C := C) hop hc ha ht (by rw [hv, hxv]; exact hrun)
      have hkey : ∀ (y : Owner) (own1 : Own), own1 = ZeD own w.heap.size y ((es ++ new).length * i.size) → ExtA w own (st.lose s).heap (w.drew.alloc (.cells c' e)) own1 (st.lose s).heap →
          OwnRel C.P (w.drew.alloc (.cells c' e)) own1 y (.slice (some ⟨w.heap.size, 0, none⟩) (es.length + new.length) nc) (es ++ new) := by
        intro y own1 ho e'
        refine .inr ⟨w.heap.size, nc, c', e, i, hne', by rw [hln], by rw [ho, ZcX], Zgg w _, hi, hpos, by rw [hln]; exact hge, hnm, hcs, ?_, hall⟩
        refine ZoF (n := es.length + new.length) (Zgg w _) hln hge hall (fun x f hx => by rw [ho, ZcX] at hx; simp only [Option.some.injEq, Prod.mk.injEq] at hx; rw [← hx.2, hln]; exact Nat.le_refl _) (fun j d hd => ?_)
        have hj := hflt j d hd
        rw [Zxk hessz] at hd
        rw [hget j hj, List.getElem?_append, hol]
        split at hd
        · rename_i hjl
          obtain ⟨u, g1, g2, g3⟩ := hold j d hd
          rw [if_pos hjl, List.getElem?_take, if_pos hjl]
          exact ⟨u, by simpa using g1, g2, g3.mono e'.ext⟩
        · rename_i hjl
          obtain ⟨u, g1, g2, g3⟩ := nget _ d hd
          rw [if_neg hjl]
          exact ⟨u, g1, g2, g3.mono e'.ext⟩
      obtain ⟨own', S2, F, E⟩ := S1.turnOwn (dst := o.dst) (v := .slice (some ⟨w.heap.size, 0, none⟩) (es.length + new.length) nc) (es := es ++ new) (ZkV w (.cells c' e) own ((es ++ new).length * i.size)) (fun _ h => h.elim) (fun y own' _ ho e' => hkey y own' ho e') hp
      exact ZaV hrun' S2 F (by rw [← hheap]; exact E)
    · obtain ⟨c', hrun, hcs, hget⟩ := ZgE (ty := o.type) hu hi hcc (fun j _ hj => by simp at hj) hnl (hf w rfl) h1 hin (by rw [hcsz]; exact Nat.le_refl _)
      have hrun' := ZbN (C := C) hop hc ha ht (by rw [hv, hxv]; exact hrun)
      have hT : Turns w own (fun x => x = z) (w.setRow b c') b ((es ++ new).length * i.size) := by
        refine ⟨rfl, rfl, rfl, by rw [size_setRow]; exact Nat.le_refl _, fun k _ hk => setRow_other w b k c' hk, by rw [size_setRow]; exact ZaN hcc, .inr ⟨z, _, hob, rfl, by rw [hln]; exact Nat.mul_le_mul_right _ (by omega), fun j v hj hcv => ?_⟩⟩
        rw [cell_of_row _ b j _ T (0, 0) (setRow_heap w b cc c' T (0, 0) hcc), hget j, if_neg (by omega)]
        rw [cell_of_row w b j cc T (0, 0) hcc] at hcv
        exact hcv
      have hkey : ∀ (y : Owner) (own1 : Own), own1 = ZeD own b y ((es ++ new).length * i.size) → ExtA w own (st.lose s).heap (w.setRow b c') own1 (st.lose s).heap →
          OwnRel C.P (w.setRow b c') own1 y (.slice (some ⟨b, 0, none⟩) (es.length + new.length) cap) (es ++ new) := by
        intro y own1 ho e'
        refine .inr ⟨b, cap, c', T, i', hne', by rw [hln], by rw [ho, ZcX, hii], setRow_heap w b cc c' T (0, 0) hcc, hi', hpos', by rw [hln]; exact hin, hmax, by rw [hcs, hcsz, hii], ?_, by rw [hii]; exact hall⟩
        refine ZoF (n := es.length + new.length) (setRow_heap w b cc c' T (0, 0) hcc) hln hin hall (fun x f hx => by rw [ho, ZcX] at hx; simp only [Option.some.injEq, Prod.mk.injEq] at hx; rw [← hx.2, hln]; exact Nat.le_refl _) (fun j d hd => ?_)
        have hj := hflt j d hd
        rw [Zxk hessz] at hd
        rw [hget j]
        rw [Nat.add_mul] at hj
        split at hd
        · rename_i hjl
          obtain ⟨u, g1, g2, g3⟩ := hold j d hd
          rw [if_neg (by omega)]
          exact ⟨u, g1, g2, g3.mono e'.ext⟩
        · rename_i hjl
          obtain ⟨u, g1, g2, g3⟩ := nget _ d hd
          rw [if_pos (by omega)]
          exact ⟨u, g1, g2, g3.mono e'.ext⟩
      obtain ⟨own', S2, F, E⟩ := S1.turnOwn (dst := o.dst) (v := .slice (some ⟨b, 0, none⟩) (es.length + new.length) cap) (es := es ++ new) hT (fun y hy => by rw [hy]; exact hd) (fun y own' _ ho e' => hkey y own' ho e') hp
      exact ZaV hrun' S2 F (by rw [← hheap]; exact E)
end
end Go.Abs
namespace Go.Abs
section
variable {C : Ctx} {call : Zaa} {fa : FA} {own own' : Own} {st st' : St} {a : Act} {w w' : World} {o : Oper}
theorem ZrV (S : SRel C.P fa own st a w) {t : TypeId} {n : Nat} {ps : Array (Nat × Operand)} {es : List DV} (hop : o.op = .buildSlice t n ps)
    (he : Zam C t n st ps.toList = some es) (hp : st.putOwn fa o.dst es = some st') : ZeU C.P fa own st.heap st' a w o := by
  obtain ⟨e, inf, c, hu, hi, hs0, hn, hn0, hmax, hcs, hsz, h1, h2, hrun⟩ := Zso S hop he
  have g := Grow.alloc w (.cells c e)
  have hT : Turns w own (fun _ => False) (w.alloc (.cells c e)) w.heap.size (es.length * inf.size) :=
    ⟨rfl, rfl, rfl, g.size, fun k hk _ => g.blk k hk, by rw [ZeB]; omega, .inl (Nat.le_refl _)⟩
  have hne : es ≠ [] := by rintro rfl; simp at hn; omega
  have hkey : ∀ (y : Owner) (own1 : Own), own1 = ZeD own w.heap.size y (es.length * inf.size) → ExtA w own st.heap (w.alloc (.cells c e)) own1 st.heap →
      OwnRel C.P (w.alloc (.cells c e)) own1 y (.slice (some ⟨w.heap.size, 0, none⟩) n n) es := by
    intro y own1 ho e'
    refine .inr ⟨w.heap.size, n, c, e, inf, hne, by rw [hn], by rw [ho, ZcX], Zex w _, hi, hs0, by omega, by simp only [maxLen]; omega, hcs, ?_, hsz⟩
    refine ZoF (Zex w _) hn (Nat.le_refl _) hsz (fun x f hx => by
      rw [ho, ZcX] at hx
      simp only [Option.some.injEq, Prod.mk.injEq] at hx
      rw [← hx.2, hn]
      exact Nat.le_refl _) (fun j d hd => ?_)
    have hj : j < n * inf.size := by rw [← hn, ← Za5 hsz]; exact (List.getElem?_eq_some_iff.1 hd).1
    have hjc : j < c.size := by omega
    have hu := Array.getElem?_eq_getElem hjc
    exact ⟨_, hu, h1 j _ hu, (h2 j _ d hu hd).mono e'.ext⟩
  obtain ⟨own', S2, F, E⟩ := S.turnOwn (dst := o.dst) (v := .slice (some ⟨w.heap.size, 0, none⟩) n n) (es := es) hT (fun _ h => h.elim) (fun y own' _ ho e' => hkey y own' ho e') hp
  exact ZaV hrun S2 F E
theorem YaM (d : DV) : (AV.d d).cells = d.cells.map .d := by cases d <;> rfl
theorem Ydt (l : List DV) : (l.map AV.d).flatMap AV.cells = (l.flatMap DV.cells).map .d := by
  rw [List.flatMap_map, List.map_flatMap]
  congr 1
  funext y
  exact YaM y
theorem Zw9 {l : List DV} {sz : Nat} (h : ∀ e ∈ l, e.cells.length = sz) : ∀ e ∈ l.map AV.d, e.cells.length = sz := by
  intro e he
  obtain ⟨d, hd, rfl⟩ := List.mem_map.1 he
  rw [YaM, List.length_map, h d hd]
theorem ZlZ (S : SRel C.P fa own st a w) {c : Call} {s x : Operand} {t : TypeId} {sz : Nat} {new : List DV} (hop : o.op = .call c) (hc : c.callee = .builtin .append) (ha : c.args.toList = [s, x]) (ht : c.argTypes.toList = [t, t])
    (hes : Zc8 st s = some []) (hx : opD st x = some (.slc new)) (hnn : new ≠ []) (hsz : C.elemSize t = some sz) (hs1 : Zaz sz new = true) (hroom : ZbU C t new.length = true)
    (hok : C.elemOk t sz = true) (hp : St.put fa { (st.lose s) with heap := st.heap ++ [AObj.arr 0 true (new.map AV.d)] } o.dst (.a (.osl st.heap.length 0 new.length)) = some st') : ZeU C.P fa own st.heap st' a w o := by
  obtain ⟨e, i, zv, zd, hu, hi, rfl, hiz, hzs, hpos, _, _, _⟩ := ZeO hsz hok
  obtain ⟨r1, r2⟩ := ZeG hu hi hroom
  have hnew := Ze5 hs1
  obtain ⟨xb, xc, news, hxv, hnl, hf, h1, hnr⟩ := ZoZ (C := C) (Zbc S hx) hnew
  rw [hxv] at hf
  obtain ⟨S1, z, hr, hd⟩ := Zn0 S hes
  have hheap := Zle st s
  have hpl : 0 < new.length := List.length_pos_iff.2 hnn
  rcases hr with ⟨_, q, hv⟩ | ⟨b, cap, cc, T, i', hne, _⟩
  · obtain ⟨nc, c', hrun, hge, hnm, hcs, hget⟩ := Zdl (ty := o.type) (n := 0) (cap := 0) (sb := q) (olds := []) hu hi hiz hzs (fun w' _ => Zj1 _ q) (by simp) hnl hf (by omega) (by simpa using r2) (by simpa using r1)
    have hrun' := ZbN (C := C) hop hc ha ht (by rw [hv, hxv]; exact hrun)
    have g := Zi5 w (.cells c' e)
    rw [← hheap] at hp
    have S2 := S1.newObj g (by rw [ZlJ]; omega) (x := .arr 0 true (new.map AV.d)) (fun own' e' _ => by
      refine ⟨c', e, (0, 0), i, Zgg w _, hi, (fun j _ hj => by simp at hj), (fun _ => ⟨rfl, fun h => by simp at h; exact absurd h hnn⟩), Zw9 hnew, hpos, ?_, fun j y hy => ?_⟩
      · rw [List.length_map, hcs]; exact Nat.mul_le_mul_right _ (by omega)
      · rw [Ydt, List.getElem?_map, Option.map_eq_some_iff] at hy
        obtain ⟨d, hd, rfl⟩ := hy
        have hj : j < new.length * i.size := by rw [← Za5 hnew]; exact (List.getElem?_eq_some_iff.1 hd).1
        have hjn : j < news.length := by omega
        have hu := List.getElem?_eq_getElem hjn
        exact ⟨_, by rw [hget j (by rw [Nat.zero_add]; exact hj)]; exact hu, h1 _ (List.mem_of_getElem? hu), .d _ _ ((hnr j _ d hu hd).mono e'.ext)⟩)
    refine ZaV hrun' (S2.1.put (fun t' _ => ?_) hp) (Zih g _) (by rw [ZbA hp, ← hheap]; exact S2.2)
    simp only [Nat.zero_add]
    refine .osl _ _ _ _ (by simp) ⟨_, _, rfl⟩ (fun g' ap es h => Nat.zero_le _) (fun ap es h => ?_)
    exact ⟨w.heap.size, _, _, e, _, i, rfl, by simp [upd], Zgg w _, hi, hcs⟩
  · exact absurd rfl hne
theorem ZrI {sz : Nat} {es : List AV} (h : Zdi sz es = true) : ∀ x l, es = x :: l → x.cells.length = sz := by
  intro x l he
  subst he
  exact Nat.eq_of_beq_eq_true h
theorem ZnB (S : SRel C.P fa own st a w) {c : Call} {s x : Operand} {t : TypeId} {sz id g : Nat} {es : List AV} {new : List DV} (hop : o.op = .call c) (hc : c.callee = .builtin .append) (ha : c.args.toList = [s, x]) (ht : c.argTypes.toList = [t, t])
    (hs : opA st s = some (.osl id g es.length)) (ho : st.heap[id]? = some (.arr g true es)) (hx : opD st x = some (.slc new)) (hsz : C.elemSize t = some sz) (hs1 : Zaz sz new = true) (hs2 : Zdi sz es = true)
    (hroom : ZbU C t (es.length + new.length) = true) (hok : C.elemOk t sz = true)
    (hp : St.put fa { st with heap := st.heap.set id (.arr (g + 1) true (es ++ new.map AV.d)) } o.dst (.a (.osl id (g + 1) (es.length + new.length))) = some st') : ZeU C.P fa own st.heap st' a w o := by
  obtain ⟨e, i, zv, zd, hu, hi, rfl, hiz, hzs, hpos, _, _, _⟩ := ZeO hsz hok
  obtain ⟨r1, r2⟩ := ZeG hu hi hroom
  have hnew := Ze5 hs1
  obtain ⟨xb, xc, news, hxv, hnl, hf, h1, hnr⟩ := ZoZ (C := C) (Zbc S hx) hnew
  rw [hxv] at hf
  obtain ⟨hid, _, _, hl⟩ := (ZbO S hs).osl_inv
  obtain ⟨b, cap, cc, T, fr, i', hv, hob, hcc, hi', hcsz⟩ := hl true es ho
  obtain ⟨c2, T2, fr2, i2, hc2, hi2, hnf, hap, hessz, hpos', hle, hcells⟩ := S.h.objAt ho hob
  rw [hcc] at hc2
  simp only [Option.some.injEq, Obj.cells.injEq] at hc2
  obtain ⟨rfl, rfl, rfl⟩ := hc2
  rw [hi'] at hi2
  simp only [Option.some.injEq] at hi2
  subst hi2
  obtain ⟨hfr, hempty⟩ := hap rfl
  subst hfr
  have hcap : es.length ≤ cap := by
    have : es.length * i'.size ≤ cap * i'.size := by rw [← hcsz]; exact hle
    exact Nat.le_of_mul_le_mul_right this hpos'
  have hsize : (es = [] ∧ cap = 0) ∨ i'.size = i.size := by
    cases hee : es with
    | nil =>
      left
      refine ⟨rfl, ?_⟩
      have := hempty hee
      rw [hcsz] at this
      rcases Nat.mul_eq_zero.1 this with h | h
      · exact h
      · omega
    | cons x l =>
      right
      rw [← hessz x (by rw [hee]; simp), ZrI hs2 x l hee]
  have hgs : ∀ k, (st.heap.set id (.arr (g + 1) true (es ++ new.map AV.d)))[k]? = if k = id then some (.arr (g + 1) true (es ++ new.map AV.d)) else st.heap[k]? := by
    intro k
    rw [List.getElem?_set]
    by_cases hk : k = id
    · subst hk; simp [hid]
    · rw [if_neg (Ne.symm hk), if_neg hk]
  have hlater : ∀ (k : Nat) (y y' : AObj), st.heap[k]? = some y → (st.heap.set id (.arr (g + 1) true (es ++ new.map AV.d)))[k]? = some y' → y.later y' := by
    intro k y y' h1 h2
    rw [hgs k] at h2
    split at h2
    · rename_i hk; subst hk; rw [ho] at h1; simp only [Option.some.injEq] at h1 h2; subst h1; subst h2; exact ⟨Nat.le_succ g, rfl⟩
    · rw [h1] at h2; simp only [Option.some.injEq] at h2; subst h2; exact AObj.later_refl y
  have hln : (es ++ new.map AV.d).length = es.length + new.length := by simp
  have hall : i'.size = i.size → ∀ x ∈ es ++ new.map AV.d, x.cells.length = i.size := by
    intro hii x hx
    rcases List.mem_append.1 hx with h | h
    · rw [hessz x h, hii]
    · exact Zw9 hnew x h
  have hfin : ∀ {w1 : World} {own1 : Own} {b1 cap1 : Nat} {c1 : Array Value} {T1 : TypeId} {i1 : TypeInfo}, SRel C.P fa own1 { st with heap := st.heap.set id (.arr (g + 1) true (es ++ new.map AV.d)) } a w1 → own1 b1 = some (.obj id, 0) →
      w1.heap[b1]? = some (.cells c1 T1 (0, 0)) → C.P.info? T1 = some i1 → c1.size = cap1 * i1.size → SRel C.P fa own1 st' (a.put o.dst (.slice (some ⟨b1, 0, none⟩) (es.length + new.length) cap1)) w1 := by
    intro w1 own1 b1 cap1 c1 T1 i1 S1 e1 e2 e3 e4
    refine S1.put (fun t' _ => ?_) hp
    refine .osl _ _ _ _ (by simpa using hid) ⟨_, _, rfl⟩ (fun g' ap es' h => ?_) (fun ap es' h => ⟨b1, cap1, c1, T1, (0, 0), i1, rfl, e1, e2, e3, e4⟩)
    simp only at h
    rw [hgs id, if_pos rfl] at h
    simp only [Option.some.injEq, AObj.arr.injEq] at h
    rw [h.1]; exact Nat.le_refl _
  have nget : ∀ (j : Nat) d, (new.flatMap DV.cells)[j]? = some d → ∃ u, news[j]? = some u ∧ u.oneCell' = true ∧ Rep w own u d := by
    intro j d hd
    have hj : j < news.length := by
      rw [hnl, ← Za5 hnew]; exact (List.getElem?_eq_some_iff.1 hd).1
    have hu := List.getElem?_eq_getElem hj
    exact ⟨_, hu, h1 _ (List.mem_of_getElem? hu), hnr j _ d hu hd⟩
  have hrow : ∀ {w1 : World} {own1 : Own} {c1 : Array Value}, ExtA w own st.heap w1 own1 (st.heap.set id (.arr (g + 1) true (es ++ new.map AV.d))) →
      (∀ j : Nat, j < es.length * i'.size → c1[j]? = cc[j]?) → (∀ j : Nat, j < new.length * i.size → c1[es.length * i'.size + j]? = news[j]?) →
      ∀ (j : Nat) y, ((es ++ new.map AV.d).flatMap AV.cells)[j]? = some y → ∃ v, c1[j]? = some v ∧ v.oneCell' = true ∧ ARep C.P w1 own1 (st.heap.set id (.arr (g + 1) true (es ++ new.map AV.d))) v y := by
    intro w1 own1 c1 e' ho1 hn1 j y hy
    rw [List.flatMap_append, List.getElem?_append, Za5 hessz] at hy
    split at hy
    · rename_i hj
      obtain ⟨v, g1, g2, g3⟩ := hcells j y hy
      exact ⟨v, by rw [ho1 j hj, g1], g2, g3.mono e'⟩
    · rename_i hj
      rw [Ydt, List.getElem?_map, Option.map_eq_some_iff] at hy
      obtain ⟨d, hd, rfl⟩ := hy
      obtain ⟨u, g1, g2, g3⟩ := nget _ d hd
      have hlt : j - es.length * i'.size < new.length * i.size := by rw [← Za5 hnew]; exact (List.getElem?_eq_some_iff.1 hd).1
      refine ⟨u, ?_, g2, .d _ _ (g3.mono e'.ext)⟩
      rw [← hn1 _ hlt] at g1
      rw [← g1]
      congr 1
      omega
  rcases Nat.lt_or_ge cap (es.length + new.length) with hfull | hin
  ·
    have heqs : es.length * i'.size = es.length * i.size := by
      rcases hsize with ⟨rfl, _⟩ | h
      · simp
      · rw [h]
    have hol : (cc.toList.take (es.length * i.size)).length = es.length * i.size := by
      rw [List.length_take, show cc.toList.length = cc.size from rfl]
      exact Nat.min_eq_left (by rw [← heqs]; exact hle)
    have hfirst := ZiY (C := C) (cap := cap) (n := es.length) (sz := i.size) hcc (by rw [← heqs]; exact hle)
    obtain ⟨nc, c', hrun, hge, hnm, hcs, hget⟩ := Zdl (ty := o.type) hu hi hiz hzs hfirst hol hnl hf hfull r2 r1
    have hrun' := ZbN (C := C) hop hc ha ht (by rw [hv, hxv]; exact hrun)
    have hT := ZkV w (.cells c' e) own 0
    have e1 := hT.extA' (y := .obj id) (h' := st.heap.set id (.arr (g + 1) true (es ++ new.map AV.d))) S.h (fun _ h => h) (fun k y y' h1 h2 h3 hk => by
      cases hk
      rw [hgs id, if_pos rfl] at h2
      rw [ho] at h1
      simp only [Option.some.injEq] at h1 h2
      subst h1; subst h2
      simp only [AObj.stays] at h3
      omega) (by simp) hlater
    refine ZaV (own' := ZeD own w.heap.size (.obj id) 0) hrun' (hfin (S.heapStep ⟨fun k y hy => ?_, hT.uniq S.h, hT.lt S.h, fun k id' f hk => ?_⟩ e1 (fun y hy => hT.keep S.h (fun h => h) (hy id))) (ZcX _ _ _ _) (Zgg w _) hi hcs) (hT.frm (fun h => h) (by simp)) (by rw [ZbA hp]; exact e1)
    · rw [hgs k] at hy
      split at hy
      · rename_i hk
        subst hk
        simp only [Option.some.injEq] at hy
        subst hy
        have hszs : ∀ x ∈ es ++ new.map AV.d, x.cells.length = i.size := by
          rcases hsize with ⟨rfl, _⟩ | h
          · simpa using Zw9 hnew
          · exact hall h
        refine ⟨w.heap.size, ZcX _ _ _ _, c', e, (0, 0), i, Zgg w _, hi, (fun j _ hj => by simp at hj), (fun _ => ⟨rfl, fun h => ?_⟩), hszs, hpos, by rw [hln, hcs]; exact Nat.mul_le_mul_right _ hge, hrow e1 (fun j hj => ?_) (fun j hj => ?_)⟩
        · have : es.length + new.length = 0 := by rw [← hln, h]; rfl
          omega
        · rw [heqs] at hj
          rw [hget j (by rw [Nat.add_mul]; omega), List.getElem?_append_left (by rw [hol]; exact hj), List.getElem?_take, if_pos hj]
          simp
        · rw [heqs, hget _ (by rw [Nat.add_mul]; omega), List.getElem?_append_right (by rw [hol]; omega), hol]
          congr 1
          omega
      · rename_i hk
        obtain ⟨q, hq, hr⟩ := S.h.obj k y hy
        obtain ⟨k1, k2⟩ := hT.keep (y := .obj id) S.h (fun h => h) (by simpa using hk) q 0 hq
        exact ⟨q, k1, hr.mono e1 k2⟩
    · rcases ZdM hk with ⟨_, h2, h3⟩ | ⟨_, h2, _⟩
      · simp only [Owner.obj.injEq] at h2; subst h2; exact ⟨by simpa using hid, h3⟩
      · have := S.h.idlt k id' f h2; exact ⟨by simpa using this.1, this.2⟩
  ·
    rcases hsize with ⟨rfl, rfl⟩ | hii
    · have : new = [] := List.eq_nil_of_length_eq_zero (by simpa using hin)
      subst this
      have hnews : news = [] := List.eq_nil_of_length_eq_zero (by simpa using hnl)
      subst hnews
      obtain ⟨c', hrun, hcs, hget⟩ := ZgE (ty := o.type) (n := 0) (cap := 0) hu hi hcc hnf hnl (hf w rfl) h1 hin (by simp)
      have hrun' := ZbN (C := C) hop hc ha ht (by rw [hv, hxv]; exact hrun)
      have e1 := ZlI (h := st.heap) (h' := st.heap.set id (.arr (g + 1) true ([] ++ [].map AV.d))) hob hcc hcs (by simp) hlater
      refine ZaV (own' := own) hrun' (hfin (S.heapStep ⟨fun k y hy => ?_, S.h.uniq, fun k z hz => by rw [size_setRow]; exact S.h.lt k z hz, fun k id' f hk => by have := S.h.idlt k id' f hk; exact ⟨by simpa using this.1, this.2⟩⟩ e1
        (fun y hy => ZcY hob y (hy id))) hob (setRow_heap w b cc c' T (0, 0) hcc) hi' (by rw [hcs, hcsz])) (ZrC hob (by simp)) (by rw [ZbA hp]; exact e1)
      rw [hgs k] at hy
      split at hy
      · rename_i hk
        subst hk
        simp only [Option.some.injEq] at hy
        subst hy
        exact ⟨b, hob, c', T, (0, 0), i', setRow_heap w b cc c' T (0, 0) hcc, hi', (fun j _ hj => by simp at hj), (fun _ => ⟨rfl, fun _ => by rw [hcs, hcsz]; simp⟩), (fun x hx => by simp at hx), hpos', by simp, fun j y hy => by simp at hy⟩
      · rename_i hk
        obtain ⟨q, hq, hr⟩ := S.h.obj k y hy
        exact ⟨q, hq, hr.mono e1 (ZcY hob _ (by simpa using hk) q 0 hq).2⟩
    · obtain ⟨c', hrun, hcs, hget⟩ := ZgE (ty := o.type) hu hi hcc hnf hnl (hf w rfl) h1 hin (by rw [hcsz, hii]; exact Nat.le_refl _)
      have hrun' := ZbN (C := C) hop hc ha ht (by rw [hv, hxv]; exact hrun)
      have e1 := ZlI (h := st.heap) (h' := st.heap.set id (.arr (g + 1) true (es ++ new.map AV.d))) hob hcc hcs (by simp) hlater
      refine ZaV (own' := own) hrun' (hfin (S.heapStep ⟨fun k y hy => ?_, S.h.uniq, fun k z hz => by rw [size_setRow]; exact S.h.lt k z hz, fun k id' f hk => by have := S.h.idlt k id' f hk; exact ⟨by simpa using this.1, this.2⟩⟩ e1
        (fun y hy => ZcY hob y (hy id))) hob (setRow_heap w b cc c' T (0, 0) hcc) hi' (by rw [hcs, hcsz])) (ZrC hob (by simp)) (by rw [ZbA hp]; exact e1)
      rw [hgs k] at hy
      split at hy
      · rename_i hk
        subst hk
        simp only [Option.some.injEq] at hy
        subst hy
        refine ⟨b, hob, c', T, (0, 0), i', setRow_heap w b cc c' T (0, 0) hcc, hi', (fun j _ hj => by simp at hj), (fun _ => ⟨rfl, fun h => ?_⟩), by rw [hii]; exact hall hii, hpos', by rw [hln, hcs, hcsz]; exact Nat.mul_le_mul_right _ hin, hrow e1 (fun j hj => ?_) (fun j hj => ?_)⟩
        · have h0 : es.length = 0 ∧ new.length = 0 := by
            have : es.length + new.length = 0 := by rw [← hln, h]; rfl
            omega
          rw [hcs]
          exact hempty (List.eq_nil_of_length_eq_zero h0.1)
        · rw [hget j, if_neg (by rw [← hii]; omega)]
        · rw [hget _, if_pos (by rw [hii]; omega), hii]
          congr 1
          omega
      · rename_i hk
        obtain ⟨q, hq, hr⟩ := S.h.obj k y hy
        exact ⟨q, hq, hr.mono e1 (ZcY hob _ (by simpa using hk) q 0 hq).2⟩
end
end Go.Abs
namespace Go.Abs
section
variable {C : Ctx} {call : Zaa} {fa : FA} {own own' own1 : Own} {st st' : St} {a : Act} {w w' w1 : World} {o : Oper} {h h' h1 hc : List AObj}
theorem AObj.later_trans {x y z : AObj} (h1 : x.later y) (h2 : y.later z) : x.later z := by
  cases x <;> cases y <;> cases z <;> first | exact h1.elim | exact h2.elim | exact ⟨Nat.le_trans h1.1 h2.1, h1.2.trans h2.2⟩ | exact trivial
theorem AObj.stays_mid {x y z : AObj} (h1 : x.later y) (h2 : y.later z) (h3 : x.stays z) : x.stays y ∧ y.stays z := by
  cases x <;> cases y <;> cases z <;> first | exact h1.elim | exact h2.elim | exact ⟨trivial, trivial⟩ | (
    have e1 := h1.1
    have e2 := h2.1
    simp only [AObj.stays] at h3 ⊢
    omega)
theorem ExtA.trans (e : ExtA w own h w1 own1 h1) (e' : ExtA w1 own1 h1 w' own' h') : ExtA w own h w' own' h' := by
  have mid : ∀ (id : Nat) (x : AObj), h[id]? = some x → ∃ y, h1[id]? = some y := fun id x hx => by
    have := (List.getElem?_eq_some_iff.1 hx).1
    exact ⟨h1[id]'(Nat.lt_of_lt_of_le this e.len), List.getElem?_eq_getElem _⟩
  refine ⟨e.ext.trans e'.ext, Nat.le_trans e.len e'.len, fun id x z hx hz => ?_, fun b id x z hb hx hz hs => ?_⟩
  · obtain ⟨y, hy⟩ := mid id x hx
    exact AObj.later_trans (e.kind id x y hx hy) (e'.kind id y z hy hz)
  · obtain ⟨y, hy⟩ := mid id x hx
    obtain ⟨s1, s2⟩ := AObj.stays_mid (e.kind id x y hx hy) (e'.kind id y z hy hz) hs
    obtain ⟨b1, b2⟩ := e.blk b id x y hb hx hy s1
    obtain ⟨b3, b4⟩ := e'.blk b id y z b1 hy hz s2
    refine ⟨b3, fun c T fr hcc => ?_⟩
    obtain ⟨c1, g1, g2⟩ := b2 c T fr hcc
    obtain ⟨c2, g3, g4⟩ := b4 c1 T fr g1
    exact ⟨c2, g3, by rw [g4, g2]⟩
theorem Znj (k : Nat) : ∀ (as : List AV) (i : Nat), (AV.shiftL k as)[i]? = (as[i]?).map (AV.shift k) := by
  intro as
  induction as with
  | nil => intro i; simp [AV.shiftL]
  | cons a as ih => intro i; cases i with
    | zero => simp [AV.shiftL]
    | succ i => simp [AV.shiftL, ih]
theorem Znb (k : Nat) (as : List AV) : (AV.shiftL k as).length = as.length := by
  induction as with
  | nil => rfl
  | cons a as ih => simp [AV.shiftL, ih]
theorem Zlz (k : Nat) (v : AV) : (v.shift k).cells = v.cells.map (AV.shift k) := by
  cases v with
  | d x => cases x <;> simp [AV.shift, AV.cells]
  | _ => simp [AV.shift, AV.cells]
structure Shifts (w : World) (own1 own' : Own) (h hc : List AObj) : Prop where
  ext : Ext w own1 w own'
  obj : ∀ id b, own1 b = some (.obj id, 0) → own' b = some (.obj (id + h.length), 0)
theorem Zjb (h hc : List AObj) (id : Nat) {x : AObj} (hx : (h ++ hc.map (AObj.shift h.length))[id + h.length]? = some x) : ∃ y, hc[id]? = some y ∧ x = y.shift h.length := by
  rw [List.getElem?_append_right (by omega), Nat.add_sub_cancel, List.getElem?_map, Option.map_eq_some_iff] at hx
  obtain ⟨y, hy, e⟩ := hx
  exact ⟨y, hy, e.symm⟩
theorem ARep.shifted {P : Program} (T : Shifts w own1 own' h hc) {v : Value} {x : AV} (r : ARep P w own1 hc v x) : ARep P w own' (h ++ hc.map (AObj.shift h.length)) v (x.shift h.length) := by
  induction r with
  | d v x hr => exact .d v x (hr.mono T.ext)
  | ptr v id off hid hl hv =>
    refine .ptr v _ off (by simp; omega) (fun cs hcs => ?_) hv
    obtain ⟨y, hy, e⟩ := Zjb h hc id hcs
    cases y <;> simp only [AObj.shift] at e <;> try (cases e; done)
    obtain ⟨b, hb, hv'⟩ := hl _ hy
    exact ⟨b, T.obj _ _ hb, hv'⟩
  | osl v id g n hid hv hg hl =>
    refine .osl v _ g n (by simp; omega) hv (fun g' ap es hes => ?_) (fun ap es hes => ?_)
    · obtain ⟨y, hy, e⟩ := Zjb h hc id hes
      cases y <;> simp only [AObj.shift] at e <;> try (cases e; done)
      simp only [AObj.arr.injEq] at e
      rw [e.1]
      exact hg _ _ _ hy
    · obtain ⟨y, hy, e⟩ := Zjb h hc id hes
      cases y <;> simp only [AObj.shift] at e <;> try (cases e; done)
      simp only [AObj.arr.injEq] at e
      obtain ⟨rfl, rfl, rfl⟩ := e
      obtain ⟨b, cap, c, T', fr, i, hv', hb, rest⟩ := hl _ _ hy
      exact ⟨b, cap, c, T', fr, i, hv', T.obj _ _ hb, rest⟩
  | mp v id hid hl hv =>
    refine .mp v _ (by simp; omega) (fun cs hcs => ?_) hv
    obtain ⟨y, hy, e⟩ := Zjb h hc id hcs
    cases y <;> simp only [AObj.shift] at e <;> try (cases e; done)
    obtain ⟨b, hb, hv'⟩ := hl _ hy
    exact ⟨b, T.obj _ _ hb, hv'⟩
  | fn f cs as hl hh ih =>
    refine .fn f cs _ (by rw [Znb, hl]) fun i v y hv hy => ?_
    rw [Znj, Option.map_eq_some_iff] at hy
    obtain ⟨z, hz, rfl⟩ := hy
    exact ih i v z hv hz
  | tup cs as hl hh ih =>
    refine .tup cs _ (by rw [Znb, hl]) fun i v y hv hy => ?_
    rw [Znj, Option.map_eq_some_iff] at hy
    obtain ⟨z, hz, rfl⟩ := hy
    exact ih i v z hv hz
  | raw v h1 => exact .raw v h1
theorem Zu3 (k : Nat) (es : List AV) : (es.map (AV.shift k)).flatMap AV.cells = (es.flatMap AV.cells).map (AV.shift k) := by
  rw [List.flatMap_map, List.map_flatMap]
  congr 1
  funext y
  exact Zlz k y
theorem ORel.shifted {P : Program} (T : Shifts w own1 own' h hc) {b : Nat} {x : AObj} (r : ORel P w own1 hc b x) : ORel P w own' (h ++ hc.map (AObj.shift h.length)) b (x.shift h.length) := by
  cases x with
  | arr g ap es =>
    obtain ⟨c, T', fr, i, h1, h2, h3, h4, h5, h6, h7, h8⟩ := r
    refine ⟨c, T', fr, i, h1, h2, h3, fun hap => ⟨(h4 hap).1, fun he => (h4 hap).2 (List.map_eq_nil_iff.1 he)⟩, fun e he => ?_, h6, by simpa using h7, fun j y hy => ?_⟩
    · obtain ⟨e', he', rfl⟩ := List.mem_map.1 he
      rw [Zlz, List.length_map, h5 e' he']
    · rw [Zu3, List.getElem?_map, Option.map_eq_some_iff] at hy
      obtain ⟨z, hz, rfl⟩ := hy
      obtain ⟨v, g1, g2, g3⟩ := h8 j z hz
      exact ⟨v, g1, g2, g3.shifted T⟩
  | var cs =>
    obtain ⟨c, T', fr, h1, h2, h3, h4⟩ := r
    refine ⟨c, T', fr, h1, h2, by simpa using h3, fun j y hy => ?_⟩
    rw [List.getElem?_map, Option.map_eq_some_iff] at hy
    obtain ⟨z, hz, rfl⟩ := hy
    obtain ⟨v, g1, g2, g3⟩ := h4 j z hz
    exact ⟨v, g1, g2, g3.shifted T⟩
  | map es =>
    obtain ⟨m, cl, h1, hst, h2, h3⟩ := r
    refine ⟨m, cl, h1, hst, by simpa using h2, fun j e y he hy => ?_⟩
    rw [List.getElem?_map, Option.map_eq_some_iff] at hy
    obtain ⟨z, hz, rfl⟩ := hy
    obtain ⟨g1, g2⟩ := h3 j e z he hz
    exact ⟨g1.mono T.ext, g2.shifted T⟩
def Zpm (own own1 : Own) (n k : Nat) : Own := fun b => if b < n then own b else match own1 b with
  | some (.obj id, f) => some (.obj (id + k), f)
  | x => x
theorem Zgh {own own1 : Own} {n k b : Nat} (h : b < n) : Zpm own own1 n k b = own b := by simp [Zpm, h]
theorem ZkL {own own1 : Own} {n k b : Nat} (h : ¬ b < n) : (Zpm own own1 n k b = none ∧ own1 b = none) ∨ (∃ id f, Zpm own own1 n k b = some (.obj (id + k), f) ∧ own1 b = some (.obj id, f)) ∨
    ∃ x f, Zpm own own1 n k b = some (x, f) ∧ own1 b = some (x, f) ∧ ∀ id, x ≠ .obj id := by
  cases hb : own1 b with
  | none => exact .inl ⟨by simp [Zpm, h, hb], rfl⟩
  | some y =>
    obtain ⟨x, f⟩ := y
    cases x with
    | obj id => exact .inr (.inl ⟨id, f, by simp [Zpm, h, hb], rfl⟩)
    | _ => exact .inr (.inr ⟨_, f, by simp [Zpm, h, hb], rfl, by simp⟩)
abbrev Ze0 : Nat → Bool := fun _ => false
theorem Zj6 {b : Nat} {x : Owner} {f : Nat} (h : own b = some (x, f)) : ZbF Ze0 own b = some (.ext, f) := by
  rcases ZaM Ze0 own b with ⟨h2, _⟩ | ⟨_, _, _, h3, _⟩ | ⟨x', f', h2, h3, _⟩
  · rw [h2] at h; cases h
  · cases h3
  · rw [h2] at h
    simp only [Option.some.injEq, Prod.mk.injEq] at h
    rw [h3, h.2]
theorem Ye0 (H : HRel C.P w own h) (H1 : HRel C.P w' own1 hc) (hO : ZhT own1) (F : Frm w (ZbF Ze0 own) w' own1) :
    HRel C.P w' (Zpm own own1 w.heap.size h.length) (h ++ hc.map (AObj.shift h.length)) ∧ ExtA w own h w' (Zpm own own1 w.heap.size h.length) (h ++ hc.map (AObj.shift h.length)) ∧
      (∀ z, Keep w own w' (Zpm own own1 w.heap.size h.length) z) ∧ Frm w own w' (Zpm own own1 w.heap.size h.length) ∧ Shifts w' own1 (Zpm own own1 w.heap.size h.length) h hc := by
  have g := ZgP F
  have back := fun b hb => Ze9 F b hb
  have keep : ∀ z, Keep w own w' (Zpm own own1 w.heap.size h.length) z := fun z b f hb => by
    have hlt := H.lt b _ hb
    exact ⟨by rw [Zgh hlt, hb], g.blk b hlt⟩
  have newObj : ∀ b id f, own1 b = some (.obj id, f) → ¬ b < w.heap.size := by
    intro b id f hb hlt
    rw [back b hlt] at hb
    rcases ZaM Ze0 own b with ⟨_, h2⟩ | ⟨_, _, _, h3, _⟩ | ⟨_, _, _, h3, _⟩
    · rw [h2] at hb; cases hb
    · cases h3
    · rw [h3] at hb; simp at hb
  have sh : Shifts w' own1 (Zpm own own1 w.heap.size h.length) h hc := by
    refine ⟨⟨fun b i v hv hp => ⟨hv, fun x f hx => ?_⟩, fun b es c hm hn => ⟨hm, ?_⟩⟩, fun id b hb => ?_⟩
    · by_cases hlt : b < w.heap.size
      · rw [Zgh hlt] at hx
        exact hp .ext f (by rw [back b hlt]; exact Zj6 hx)
      · rcases ZkL (own := own) (own1 := own1) (k := h.length) hlt with ⟨h2, _⟩ | ⟨id, f', h2, h3⟩ | ⟨x', f', h2, h3, _⟩
        · rw [h2] at hx; cases hx
        · rw [h2] at hx; simp only [Option.some.injEq, Prod.mk.injEq] at hx; rw [← hx.2]; exact hp _ _ h3
        · rw [h2] at hx; simp only [Option.some.injEq, Prod.mk.injEq] at hx; rw [← hx.2]; exact hp _ _ h3
    · by_cases hlt : b < w.heap.size
      · rw [Zgh hlt]
        cases hb : own b with
        | none => rfl
        | some y => obtain ⟨x, f⟩ := y; rw [back b hlt, Zj6 hb] at hn; cases hn
      · rcases ZkL (own := own) (own1 := own1) (k := h.length) hlt with ⟨h2, _⟩ | ⟨id, f', h2, h3⟩ | ⟨x', f', h2, h3, _⟩
        · exact h2
        · rw [h3] at hn; cases hn
        · rw [h3] at hn; cases hn
    · rcases ZkL (own := own) (own1 := own1) (k := h.length) (newObj b id 0 hb) with ⟨_, h3⟩ | ⟨id', f', h2, h3⟩ | ⟨x', f', h2, h3, h4⟩
      · rw [h3] at hb; cases hb
      · rw [h3] at hb; simp only [Option.some.injEq, Prod.mk.injEq, Owner.obj.injEq] at hb; rw [h2, hb.1, hb.2]
      · rw [h3] at hb; simp only [Option.some.injEq, Prod.mk.injEq] at hb; exact absurd hb.1 (h4 id)
  have hold : ∀ (id : Nat) (x : AObj), h[id]? = some x → (h ++ hc.map (AObj.shift h.length))[id]? = some x := fun id x hx => by rw [List.getElem?_append_left (List.getElem?_eq_some_iff.1 hx).1, hx]
  have ex : ExtA w own h w' (Zpm own own1 w.heap.size h.length) (h ++ hc.map (AObj.shift h.length)) := by
    refine ⟨⟨fun b i v hv hp => ⟨by rw [ZbQ (g.blk b (Zdc hv)), hv], fun x f hx => hp x f (by rwa [Zgh (Zdc hv)] at hx)⟩,
      fun b es c hm hn => ⟨by rw [g.blk b (ZaN hm), hm], by rw [Zgh (ZaN hm), hn]⟩⟩, by simp, fun id x y hx hy => ?_, fun b id x y hb _ _ _ => ?_⟩
    · rw [hold id x hx] at hy; simp only [Option.some.injEq] at hy; subst hy; exact AObj.later_refl x
    · obtain ⟨k1, k2⟩ := keep (.obj id) b 0 hb
      exact ⟨k1, fun c T fr hcc => ⟨c, by rw [k2, hcc], rfl⟩⟩
  have key : ∀ b x f, Zpm own own1 w.heap.size h.length b = some (x, f) → (b < w.heap.size ∧ own b = some (x, f)) ∨ (¬ b < w.heap.size ∧ ∃ id, x = .obj (id + h.length) ∧ own1 b = some (.obj id, f)) ∨
      (¬ b < w.heap.size ∧ own1 b = some (x, f) ∧ x = .ext) := by
    intro b x f hx
    by_cases hlt : b < w.heap.size
    · rw [Zgh hlt] at hx; exact .inl ⟨hlt, hx⟩
    · rcases ZkL (own := own) (own1 := own1) (k := h.length) hlt with ⟨h2, _⟩ | ⟨id, f', h2, h3⟩ | ⟨x', f', h2, h3, h4⟩
      · rw [h2] at hx; cases hx
      · rw [h2] at hx; simp only [Option.some.injEq, Prod.mk.injEq] at hx; obtain ⟨rfl, rfl⟩ := hx; exact .inr (.inl ⟨hlt, id, rfl, h3⟩)
      · rw [h2] at hx; simp only [Option.some.injEq, Prod.mk.injEq] at hx; obtain ⟨rfl, rfl⟩ := hx
        rcases hO b x' f' h3 with e | ⟨id, e⟩
        · exact .inr (.inr ⟨hlt, h3, e⟩)
        · exact absurd e (h4 id)
  refine ⟨⟨fun id x hx => ?_, fun b b' x f f' h1 h2 hne => ?_, fun b y hy => ?_, fun b id f hb => ?_⟩, ex, keep, ⟨g.os, g.tape, g.output, g.size, fun b hb _ => ⟨g.blk b hb, Zgh hb⟩⟩, sh⟩
  · rcases Nat.lt_or_ge id h.length with hid | hid
    · rw [List.getElem?_append_left hid] at hx
      obtain ⟨b, hb, hr⟩ := H.obj id x hx
      obtain ⟨k1, k2⟩ := keep (.obj id) b 0 hb
      exact ⟨b, k1, hr.mono ex k2⟩
    · obtain ⟨j, rfl⟩ : ∃ j, id = j + h.length := ⟨id - h.length, by omega⟩
      obtain ⟨y, hy, rfl⟩ := Zjb h hc j hx
      obtain ⟨b, hb, hr⟩ := H1.obj j y hy
      exact ⟨b, sh.obj j b hb, hr.shifted sh⟩
  · rcases key b x f h1 with ⟨l1, e1⟩ | ⟨l1, id, e1, e2⟩ | ⟨l1, e1, e2⟩ <;> rcases key b' x f' h2 with ⟨l1', e1'⟩ | ⟨l1', id', e1', e2'⟩ | ⟨l1', e1', e2'⟩
    · exact H.uniq b b' x f f' e1 e1' hne
    · rw [e1'] at e1; have := (H.idlt _ _ _ e1).1; omega
    · exact absurd e2' hne
    · rw [e1] at e1'; have := (H.idlt _ _ _ e1').1; omega
    · rw [e1] at e1'
      simp only [Owner.obj.injEq] at e1'
      have : id = id' := by omega
      subst this
      exact H1.uniq b b' _ f f' e2 e2' (by simp)
    · exact absurd e2' hne
    · exact absurd e2 hne
    · exact absurd e2 hne
    · exact absurd e2 hne
  · obtain ⟨x, f⟩ := y
    rcases key b x f hy with ⟨l1, _⟩ | ⟨_, id, _, e2⟩ | ⟨_, e1, _⟩
    · exact Nat.lt_of_lt_of_le l1 g.size
    · exact H1.lt b _ e2
    · exact H1.lt b _ e1
  · rcases key b _ f hb with ⟨l1, e1⟩ | ⟨_, id', e1, e2⟩ | ⟨_, _, e2⟩
    · have := H.idlt b id f e1; exact ⟨by simp; omega, this.2⟩
    · simp only [Owner.obj.injEq] at e1
      have := H1.idlt b id' f e2
      exact ⟨by simp; omega, this.2⟩
    · cases e2
def ZlS (own : Own) : Own := fun b => match own b with
  | some (.obj id, f) => some (.obj id, f)
  | some (_, f) => some (.ext, f)
  | none => none
theorem Zg7 (own : Own) (b : Nat) : (own b = none ∧ ZlS own b = none) ∨ (∃ id f, own b = some (.obj id, f) ∧ ZlS own b = some (.obj id, f)) ∨
    ∃ x f, own b = some (x, f) ∧ ZlS own b = some (.ext, f) ∧ ∀ id, x ≠ .obj id := by
  cases hb : own b with
  | none => exact .inl ⟨rfl, by simp [ZlS, hb]⟩
  | some y =>
    obtain ⟨x, f⟩ := y
    cases x with
    | obj id => exact .inr (.inl ⟨id, f, rfl, by simp [ZlS, hb]⟩)
    | _ => exact .inr (.inr ⟨_, f, rfl, by simp [ZlS, hb], by simp⟩)
def Zt4 (own own1 : Own) : Own := fun b => match own b with
  | some (.obj _, _) => own1 b
  | some y => some y
  | none => own1 b
theorem Znp {own own1 : Own} {b : Nat} {x : Owner} {f : Nat} (h : own b = some (x, f)) (hx : ∀ id, x ≠ .obj id) : Zt4 own own1 b = some (x, f) := by
  cases x with
  | obj id => exact absurd rfl (hx id)
  | _ => simp [Zt4, h]
theorem Zdb {own own1 : Own} {b : Nat} : (∃ x f, own b = some (x, f) ∧ (∀ id, x ≠ .obj id) ∧ Zt4 own own1 b = some (x, f)) ∨ ((own b = none ∨ ∃ id f, own b = some (.obj id, f)) ∧ Zt4 own own1 b = own1 b) := by
  cases hb : own b with
  | none => exact .inr ⟨.inl rfl, by simp [Zt4, hb]⟩
  | some y =>
    obtain ⟨x, f⟩ := y
    cases x with
    | obj id => exact .inr ⟨.inr ⟨id, f, rfl⟩, by simp [Zt4, hb]⟩
    | _ => exact .inl ⟨_, f, rfl, by simp, by simp [Zt4, hb]⟩
theorem Zfq (w : World) (own : Own) (h : List AObj) : ExtA w own h w (ZlS own) h := by
  refine ⟨⟨fun b i v hv hp => ⟨hv, fun x f hx => ?_⟩, fun b es c hm hn => ⟨hm, ?_⟩⟩, Nat.le_refl _, fun id x y hx hy => by rw [hx] at hy; simp only [Option.some.injEq] at hy; subst hy; exact AObj.later_refl x, fun b id x y hb _ _ _ => ?_⟩
  · rcases Zg7 own b with ⟨_, h2⟩ | ⟨id, f', h1, h2⟩ | ⟨x', f', h1, h2, _⟩
    · rw [h2] at hx; cases hx
    · rw [h2] at hx; simp only [Option.some.injEq, Prod.mk.injEq] at hx; rw [← hx.2]; exact hp _ _ h1
    · rw [h2] at hx; simp only [Option.some.injEq, Prod.mk.injEq] at hx; rw [← hx.2]; exact hp _ _ h1
  · simp [ZlS, hn]
  · exact ⟨by simp [ZlS, hb], fun c T fr hcc => ⟨c, hcc, rfl⟩⟩
theorem Zim (own : Own) : ZhT (ZlS own) := by
  intro b x f hx
  rcases Zg7 own b with ⟨_, h2⟩ | ⟨id, f', h1, h2⟩ | ⟨x', f', h1, h2, _⟩
  · rw [h2] at hx; cases hx
  · rw [h2] at hx; simp only [Option.some.injEq, Prod.mk.injEq] at hx; exact .inr ⟨id, hx.1.symm⟩
  · rw [h2] at hx; simp only [Option.some.injEq, Prod.mk.injEq] at hx; exact .inl hx.1.symm
theorem Zi4 (H : HRel C.P w own h) : HRel C.P w (ZlS own) h := by
  have key : ∀ b x f, ZlS own b = some (x, f) → (∃ id, x = .obj id ∧ own b = some (.obj id, f)) ∨ (x = .ext ∧ ∃ y, own b = some (y, f)) := by
    intro b x f hx
    rcases Zg7 own b with ⟨_, h2⟩ | ⟨id, f', h1, h2⟩ | ⟨x', f', h1, h2, _⟩
    · rw [h2] at hx; cases hx
    · rw [h2] at hx; simp only [Option.some.injEq, Prod.mk.injEq] at hx; obtain ⟨rfl, rfl⟩ := hx; exact .inl ⟨id, rfl, h1⟩
    · rw [h2] at hx; simp only [Option.some.injEq, Prod.mk.injEq] at hx; obtain ⟨rfl, rfl⟩ := hx; exact .inr ⟨rfl, x', h1⟩
  refine ⟨fun id x hx => ?_, fun b b' x f f' h1 h2 hne => ?_, fun b y hy => ?_, fun b id f hb => ?_⟩
  · obtain ⟨b, hb, hr⟩ := H.obj id x hx
    exact ⟨b, by simp [ZlS, hb], hr.mono (Zfq w own h) rfl⟩
  · rcases key b x f h1 with ⟨id, rfl, e1⟩ | ⟨rfl, _⟩
    · rcases key b' _ f' h2 with ⟨id', e, e1'⟩ | ⟨e, _⟩
      · simp only [Owner.obj.injEq] at e; subst e; exact H.uniq b b' _ f f' e1 e1' (by simp)
      · cases e
    · exact absurd rfl hne
  · obtain ⟨x, f⟩ := y
    rcases key b x f hy with ⟨id, _, e1⟩ | ⟨_, y, e1⟩
    · exact H.lt b _ e1
    · exact H.lt b _ e1
  · rcases key b _ f hb with ⟨id', e, e1⟩ | ⟨e, _⟩
    · simp only [Owner.obj.injEq] at e; subst e; exact H.idlt b id f e1
    · cases e
theorem Zwb (H : HRel C.P w own h) (H1 : HRel C.P w' own1 h') (hO : ZhT own1) (F : Frm w (ZlS own) w' own1) (E : ExtA w (ZlS own) h w' own1 h') :
    HRel C.P w' (Zt4 own own1) h' ∧ ExtA w own h w' (Zt4 own own1) h' ∧ (∀ z, (∀ id, z ≠ .obj id) → Keep w own w' (Zt4 own own1) z) ∧ Frm w own w' (Zt4 own own1) ∧ ExtA w' own1 h' w' (Zt4 own own1) h' := by
  have other : ∀ b x f, own b = some (x, f) → (∀ id, x ≠ .obj id) → w'.heap[b]? = w.heap[b]? ∧ own1 b = some (.ext, f) := by
    intro b x f hb hx
    have hlt := H.lt b _ hb
    rcases Zg7 own b with ⟨h2, _⟩ | ⟨id, f', h1, h2⟩ | ⟨x', f', h1, h2, _⟩
    · rw [h2] at hb; cases hb
    · rw [h1] at hb; simp only [Option.some.injEq, Prod.mk.injEq] at hb; exact absurd hb.1.symm (hx id)
    · rw [h1] at hb; simp only [Option.some.injEq, Prod.mk.injEq] at hb
      obtain ⟨e1, e2⟩ := F.blk b hlt (.inr ⟨f', h2⟩)
      exact ⟨e1, by rw [e2, h2, hb.2]⟩
  have e2 : ExtA w' own1 h' w' (Zt4 own own1) h' := by
    refine ⟨⟨fun b i v hv hp => ⟨hv, fun x f hx => ?_⟩, fun b es c hm hn => ⟨hm, ?_⟩⟩, Nat.le_refl _, fun id x y hx hy => by rw [hx] at hy; simp only [Option.some.injEq] at hy; subst hy; exact AObj.later_refl x, fun b id x y hb _ _ _ => ?_⟩
    · rcases Zdb (own := own) (own1 := own1) (b := b) with ⟨x', f', h1, h2, h3⟩ | ⟨_, h3⟩
      · rw [h3] at hx; simp only [Option.some.injEq, Prod.mk.injEq] at hx; rw [← hx.2]; exact hp _ _ (other b x' f' h1 h2).2
      · rw [h3] at hx; exact hp x f hx
    · rcases Zdb (own := own) (own1 := own1) (b := b) with ⟨x', f', h1, h2, h3⟩ | ⟨_, h3⟩
      · rw [(other b x' f' h1 h2).2] at hn; cases hn
      · rw [h3]; exact hn
    · refine ⟨?_, fun c T fr hcc => ⟨c, hcc, rfl⟩⟩
      rcases Zdb (own := own) (own1 := own1) (b := b) with ⟨x', f', h1, h2, h3⟩ | ⟨_, h3⟩
      · rw [(other b x' f' h1 h2).2] at hb; simp at hb
      · rw [h3]; exact hb
  refine ⟨⟨fun id x hx => ?_, fun b b' x f f' h1 h2 hne => ?_, fun b y hy => ?_, fun b id f hb => ?_⟩, ((Zfq w own h).trans E).trans e2, fun z hz b f hb => ?_, ⟨F.os, F.tape, F.output, F.size, fun b hb ho => ?_⟩, e2⟩
  · obtain ⟨b, hb, hr⟩ := H1.obj id x hx
    refine ⟨b, ?_, hr.mono e2 rfl⟩
    rcases Zdb (own := own) (own1 := own1) (b := b) with ⟨x', f', h1, h2, h3⟩ | ⟨_, h3⟩
    · rw [(other b x' f' h1 h2).2] at hb; simp at hb
    · rw [h3]; exact hb
  · rcases Zdb (own := own) (own1 := own1) (b := b) with ⟨y, g, e1, e3, e4⟩ | ⟨_, e4⟩ <;> rcases Zdb (own := own) (own1 := own1) (b := b') with ⟨y', g', e1', e3', e4'⟩ | ⟨_, e4'⟩
    · rw [e4] at h1; rw [e4'] at h2
      simp only [Option.some.injEq, Prod.mk.injEq] at h1 h2
      rw [h1.1] at e1; rw [h2.1] at e1'
      exact H.uniq b b' x g g' e1 e1' hne
    · rw [e4] at h1; rw [e4'] at h2
      simp only [Option.some.injEq, Prod.mk.injEq] at h1
      rcases hO b' x f' h2 with h | ⟨id, h⟩
      · exact absurd h hne
      · exact absurd (h1.1.trans h) (e3 id)
    · rw [e4] at h1; rw [e4'] at h2
      simp only [Option.some.injEq, Prod.mk.injEq] at h2
      rcases hO b x f h1 with h | ⟨id, h⟩
      · exact absurd h hne
      · exact absurd (h2.1.trans h) (e3' id)
    · rw [e4] at h1; rw [e4'] at h2
      exact H1.uniq b b' x f f' h1 h2 hne
  · rcases Zdb (own := own) (own1 := own1) (b := b) with ⟨x', f', h1, h2, h3⟩ | ⟨_, h3⟩
    · exact Nat.lt_of_lt_of_le (H.lt b _ h1) F.size
    · rw [h3] at hy; exact H1.lt b y hy
  · rcases Zdb (own := own) (own1 := own1) (b := b) with ⟨x', f', h1, h2, h3⟩ | ⟨_, h3⟩
    · rw [h3] at hb; simp only [Option.some.injEq, Prod.mk.injEq] at hb; exact absurd hb.1 (h2 id)
    · rw [h3] at hb; exact H1.idlt b id f hb
  · exact ⟨Znp hb hz, (other b z f hb hz).1⟩
  · rcases ho with ho | ⟨f, ho⟩
    · have hc : ZlS own b = none := by simp [ZlS, ho]
      obtain ⟨e1, e3⟩ := F.blk b hb (.inl hc)
      exact ⟨e1, by rw [ho]; simp [Zt4, ho, e3, hc]⟩
    · exact ⟨(other b _ f ho (by simp)).1, by rw [ho]; exact Znp ho (by simp)⟩
end
end Go.Abs
namespace Go.Abs
section
variable {C : Ctx} {call : Zaa} {fa : FA} {own own' own1 : Own} {st st' : St} {a : Act} {w w' w1 : World} {o : Oper}
theorem Zzw (hn : Za4 C.P) (hK : Za2 C.P call) (S : SRel C.P fa own st a w) {c : Call} {g : Operand} {fv r : AV} {vs caps : List AV} {f : FuncId} {h : List AObj} (hop : o.op = .call c) (hc : c.callee = .value g)
    (hg : opA st g = some fv) (hv : Za3 st c.args.toList = some vs) (hf : Zka fv = some (f, caps)) (hcall : ZhV call f (vs ++ caps) st.heap = some (r, h))
    (hp : St.put fa { st with heap := h } o.dst (.a r) = some st') : ZeU C.P fa own st.heap st' a w o := by
  intro K Q hKK
  obtain ⟨cs, hgv, hcl, hch⟩ := Zop (ZbO S hg) hf
  obtain ⟨ha1, ha2⟩ := Zo4 S hv hcl hch
  unfold ZhV at hcall
  split at hcall
  · rename_i ds hds
    split at hcall
    · rename_i r0 hc0 hr0
      simp only [Option.some.injEq, Prod.mk.injEq] at hcall
      obtain ⟨rfl, rfl⟩ := hcall
      obtain ⟨hb, hhas⟩ := hK _ _ _ _ _ hr0
      refine ZkH hn hop hc hgv hb ?_
      refine (hhas w (ZbF Ze0 own) _ (Zki S.h Ze0) (Zj2 Ze0 own) ha1 (fun i v x hv' hx => ?_)).mono ?_
      · have hda := Zeo hds
        rw [hda, List.getElem?_map, Option.map_eq_some_iff] at hx
        obtain ⟨d, hd, rfl⟩ := hx
        have := ha2 i v (.d d) hv' (by rw [hda, List.getElem?_map, hd]; rfl)
        exact .d _ _ (this.d_inv.mono (Zl8 w own Ze0))
      · rintro e w' ⟨v, own1, rfl, hO, H1, hrr, F, _⟩
        obtain ⟨H2, E2, K2, F2, T2⟩ := Ye0 S.h H1 hO F
        exact hKK _ _ _ ((S.heapStep H2 E2 (fun z _ => K2 z)).put (x := .a (r0.shift st.heap.length)) (fun t _ => hrr.shifted T2) hp) F2 (by rw [ZbA hp]; exact E2)
    · cases hcall
  · obtain ⟨hb, hhas⟩ := hK _ _ _ _ _ hcall
    refine ZkH hn hop hc hgv hb ?_
    refine (hhas w (ZlS own) _ (Zi4 S.h) (Zim own) ha1 (fun i v x hv' hx => (ha2 i v x hv' hx).mono (Zfq w own st.heap))).mono ?_
    rintro e w' ⟨v, own1, rfl, hO, H1, hrr, F, E⟩
    obtain ⟨H2, E2, K2, F2, E3⟩ := Zwb S.h H1 hO F E
    exact hKK _ _ _ ((S.heapStep H2 E2 K2).put (x := .a r) (fun t _ => hrr.mono E3) hp) F2 (by rw [ZbA hp]; exact E2)
theorem Zrx (hn : Za4 C.P) (hK : Za2 C.P call) (S : SRel C.P fa own st a w) (he : Zck C call fa o st = some st') : ZeU C.P fa own st.heap st' a w o := by
  have take : ∀ {x : Operand}, (o.op = .move x ∨ o.op = .assign x) → Zds fa st o.dst x = some st' → ZeU C.P fa own st.heap st' a w o := by
    intro x hop he
    unfold Zds at he
    split at he
    · rename_i es hes; exact Zzz S hop hes he
    · split at he
      · rename_i v hv
        refine ZjX S (Good.wp ⟨a.eval x, ?_, ZfO S hv⟩) he
        rcases hop with h | h <;> simp [ZhI, execOp, h]
      · cases he
  unfold Zck at he
  split at he
  case h_1 x hop => exact take (.inl hop) he
  case h_2 x hop => exact take (.inr hop) he
  case h_3 t hop =>
    split at he
    · rename_i z hz
      obtain ⟨zv, h1, _, h2⟩ := Zi9 hz
      refine Zqj S (v := zv) (t := t) (.d _ _ (h2 w own)) ?_ he
      simp [execOp, hop, Instr.alloc, h1 w, newVar, newRow]
    · cases he
  case h_4 t x hop =>
    split at he
    · rename_i v hv
      refine Zqj S (v := a.eval x) (t := t) (ZbO S hv) ?_ he
      simp [execOp, hop, Instr.box, newVar, newRow]
    · cases he
  case h_5 t n ps hop =>
    split at he
    · rename_i es hes; exact ZrV S hop hes he
    · cases he
  case h_6 t x y hop =>
    split at he
    · rename_i p v hx hy
      split at he
      · rename_i st1 hs; exact Zwh S hop hx hy hs he
      · cases he
    · cases he
  case h_7 s t x hop =>
    split at he
    · rename_i b hx
      cases hb : C.isStr s && C.isBytes t && C.elemOne t with
      | false => rw [hb] at he; cases he
      | true =>
        rw [hb] at he
        simp only [Bool.and_eq_true] at hb
        exact Zsb S hop hx hb.1.1 hb.1.2 hb.2 he
    · cases he
  case h_8 t hop =>
    cases hb : C.isMap t with
    | false => rw [hb] at he; cases he
    | true => rw [hb] at he; exact Zsn S hop he
  case h_9 t l c hop =>
    split at he
    · rename_i z sz k1 n k2 m hz hsz hl hc
      split at he
      · rename_i hcond
        obtain ⟨h0, rfl, hr, hok⟩ := hcond
        exact Zo0 S hop hz hsz hl hc h0 hr hok he
      · cases he
    · cases he
  case h_10 t m k x hop =>
    split at he
    · rename_i z id kd v hz hm hk hx
      cases hc : v.cellOk with
      | false => rw [hc] at he; cases he
      | true =>
        rw [hc] at he
        simp only [Bool.not_true, cond_false] at he
        split at he
        · rename_i es ho
          split at he
          · rename_i es' hs
            cases hok : C.keyOk t kd with
            | false => rw [hok] at he; cases he
            | true => rw [hok] at he; exact Zn3 S hop hz hm hk hx hc ho hs hok he
          · cases he
        · cases he
    · cases he
  case h_11 c hop =>
    split at he
    · rename_i b hb
      split at he
      · rename_i s x t t' ha ht
        cases hbt : Nat.beq t t' && (!ZaE fa o || ZrY st s) with
        | false => rw [hbt] at he; cases he
        | true =>
          rw [hbt] at he
          have := Nat.eq_of_beq_eq_true (by simp only [Bool.and_eq_true] at hbt; exact hbt.1)
          subst this
          simp only [cond_true] at he
          unfold Zbo at he
          split at he
          · rename_i sz new hsz hx
            split at he
            · rename_i id g n hs
              split at he
              · rename_i g' es ho
                cases hcond : Nat.beq g g' && Nat.beq n es.length && Zdi sz es && Zaz sz new && ZbU C t (n + new.length) && C.elemOk t sz with
                | false => rw [hcond] at he; cases he
                | true =>
                  rw [hcond] at he
                  simp only [Bool.and_eq_true] at hcond
                  obtain ⟨⟨⟨⟨⟨c1, c2⟩, c3⟩, c4⟩, c5⟩, c6⟩ := hcond
                  have e1 := Nat.eq_of_beq_eq_true c1
                  have e2 := Nat.eq_of_beq_eq_true c2
                  subst e1; subst e2
                  exact ZnB S hop hb ha ht (by unfold opA; rw [hs]) ho hx hsz c4 c3 c5 c6 he
              · cases he
            · split at he
              · rename_i es hes
                cases hcond : Zaz sz new && Zaz sz (es.take 1) && ZbU C t (es.length + new.length) && C.elemOk t sz with
                | false => rw [hcond] at he; cases he
                | true =>
                  rw [hcond] at he
                  simp only [Bool.and_eq_true] at hcond
                  obtain ⟨⟨⟨c1, c2⟩, c3⟩, c4⟩ := hcond
                  simp only [cond_true] at he
                  cases hh : Zbi fa o.dst with
                  | true =>
                    rw [hh] at he
                    simp only [cond_true] at he
                    split at he
                    · exact ZlZ S hop hb ha ht hes hx (by simp) hsz c1 (by simpa using c3) c4 he
                    · cases he
                  | false =>
                    rw [hh] at he
                    exact Zo1 S hop hb ha ht hes hx hsz c1 c2 c3 c4 he
              · cases he
          · cases he
      · rename_i m k t ts ha ht
        unfold Zhq at he
        split at he
        · rename_i z id kd hz hm hk
          split at he
          · rename_i es ho
            split at he
            · rename_i es' hs
              cases hok : C.keyOk t kd with
              | false => rw [hok] at he; cases he
              | true => rw [hok] at he; exact Zvs S hop hb ha ht hm hk ho hs hok he
            · cases he
          · cases he
        · cases he
      · cases he
    · rename_i g hg
      split at he
      · rename_i fv vs hfv hvs
        split at he
        · rename_i f caps hf
          cases hl : Za0 fa.lend o.dst with
          | true => rw [hl] at he; cases he
          | false =>
            rw [hl] at he
            simp only [cond_false] at he
            split at he
            · rename_i r h hcall; exact Zzw hn hK S hop hg hfv hvs hf hcall he
            · cases he
        · cases he
      · cases he
    · cases he
  case h_12 => cases he
theorem Znu (hn : Za4 C.P) (hK : Za2 C.P call) (S : SRel C.P fa own st a w) (he : Zjf C call fa o st = some st') : ZeU C.P fa own st.heap st' a w o := by
  unfold Zjf at he
  split at he
  · rename_i x hx; exact ZjX S (Zlk hn hK S hx) he
  · exact Zrx hn hK S he
end
end Go.Abs
namespace Go.Abs
section
variable {C : Ctx} {call : Zaa} {fa : FA} {own own' own1 : Own} {st st' st1 st2 : St} {a : Act} {w w' w1 : World} {o : Oper}
theorem Zkg {all : List Oper} {b : Bool} (S : SRel C.P fa own st a w) (h : ZaQ all o st = some b) : Region.wanted o (yielded all.toArray a.tmps) = b := by
  unfold ZaQ at h
  unfold Region.wanted
  split at h
  · simp only [Option.some.injEq] at h; rename_i hg; rw [hg]; exact h
  · rename_i j want hg
    rw [hg]
    simp only
    split at h
    · rename_i t ht
      have hy : yielded all.toArray a.tmps j = match a.tmps[t]? with
          | some (.bool b) => some b
          | _ => none := by
        unfold yielded
        have : (all.toArray[j]?).bind (·.dst) = some t := by simpa using ht
        rw [this]
        rfl
      split at h
      · rename_i v hv
        simp only [Option.some.injEq] at h
        have hr : ARep C.P w own st.heap (a.tmps.getD t undef) (.d (.bool v)) := S.tmp t _ hv
        have hb : a.tmps.getD t undef = .bool v := hr.d_inv.bool_inv
        have hget : a.tmps[t]? = some (.bool v) := by
          rw [Array.getD_eq_getD_getElem?] at hb
          cases ha : a.tmps[t]? with
          | none => rw [ha] at hb; simp [undef] at hb
          | some u => rw [ha] at hb; simp at hb; rw [hb]
        rw [hy, hget]
        rw [← h]
        simp
      · rename_i hv
        simp only [Option.some.injEq] at h
        have hr : a.tmps.getD t undef = undef := S.tmp t _ hv
        have hget : ∀ v, a.tmps[t]? ≠ some (.bool v) := by
          intro v hv
          rw [Array.getD_eq_getD_getElem?, hv] at hr
          simp [undef] at hr
        rw [hy, ← h]
        cases ha : a.tmps[t]? with
        | none => simp
        | some u =>
          cases u <;> first | (simp; done) | exact absurd ha (hget _)
      · cases h
    · cases h
def YdJ (P : Program) (fa : FA) (own : Own) (h : List AObj) (st' : St) (a : Act) (w : World) (ops : Array Oper) (o : Oper) : Prop :=
  ∀ (K : Act → World → Prop) (Q : Exit → Act → World → Prop), (∀ a' w' own', SRel P fa own' st' a' w' → Frm w own w' own' → ExtA w own h w' own' st'.heap → K a' w') →
    if Region.wanted o (yielded ops a.tmps) then o.wp P a w K Q ∨ (o.asks P a w ∧ LetsOut Q) else K (a.put o.dst undef) w
theorem Zjn (hn : Za4 C.P) (hK : Za2 C.P call) (S : SRel C.P fa own st a w) {all : List Oper} {q : Bool} (he : ZaB C call fa all q o st = some st') : YdJ C.P fa own st.heap st' a w all.toArray o := by
  intro K Q hKK
  unfold ZaB at he
  split at he
  · rename_i hw
    rw [Zkg S hw]
    simp only [if_true]
    left
    cases q with
    | true =>
      simp only [cond_true] at he
      split at he
      · rename_i x hx; exact ZjX S (Zlk hn hK S hx) he K Q hKK
      · cases he
    | false => exact Znu hn hK S he K Q hKK
  · rename_i hw
    rw [Zkg S hw]
    simp only [Bool.false_eq_true, if_false]
    exact hKK _ _ own (S.put (x := .un) (fun t _ => rfl) he) (.refl w own) (by rw [ZbA he]; exact (Grow.refl w).extA own _)
  · cases he
def Yd7 (P : Program) (fa : FA) (own : Own) (h : List AObj) (st' : St) (w : World) (K : Act → World → Prop) : Prop :=
  ∀ a' w' own', SRel P fa own' st' a' w' → Frm w own w' own' → ExtA w own h w' own' st'.heap → K a' w'
theorem Zc9 (hn : Za4 C.P) (hK : Za2 C.P call) {all : List Oper} {Q : Exit → Act → World → Prop} : ∀ (rest : List Oper) (st : St) (own : Own) (a : Act) (w : World), Zai C call fa all rest st = some st' → SRel C.P fa own st a w →
    Yd7 C.P fa own st.heap st' w (Q .normal) → wpList C.P all.toArray Q rest a w
  | [], st, own, a, w, he, S, hQ => by
    simp only [Zai, Option.some.injEq] at he
    subst he
    exact hQ a w own S (.refl w own) ((Grow.refl w).extA own _)
  | o :: rest, st, own, a, w, he, S, hQ => by
    simp only [Zai] at he
    split at he
    · rename_i st1 h1
      exact Zjn hn hK S h1 _ Q fun a' w' own' S' F E => Zc9 hn hK rest st1 own' a' w' he S' fun a2 w2 own2 S2 F2 E2 => hQ a2 w2 own2 S2 (F.trans F2) (E.trans E2)
    · cases he
def Ydk (C : Ctx) (call : Zaa) (fa : FA) (ops : Array Oper) (q : Nat → Bool) : Nat → Array Bool → St → St → Prop
  | 0, listed, st, st' => Region.ready .any ops listed = [] ∧ st = st'
  | fuel + 1, listed, st, st' => (Region.ready .any ops listed = [] → st = st') ∧
    ∀ i ∈ Region.ready .any ops listed, ∃ o st1, ops[i]? = some o ∧ ZaB C call fa ops.toList (q i) o st = some st1 ∧ Ydk C call fa ops q fuel (listed.setIfInBounds i true) st1 st'
theorem Znd (hn : Za4 C.P) (hK : Za2 C.P call) {ops : Array Oper} {q : Nat → Bool} {Q : Exit → Act → World → Prop} : ∀ (fuel : Nat) (listed : Array Bool) (st : St) (own : Own) (a : Act) (w : World),
    Ydk C call fa ops q fuel listed st st' → SRel C.P fa own st a w → Yd7 C.P fa own st.heap st' w (Q .normal) → wpAny C.P .any ops Q fuel listed a w
  | 0, listed, st, own, a, w, he, S, hQ => by
    obtain ⟨h1, rfl⟩ := he
    exact ⟨h1, hQ a w own S (.refl w own) ((Grow.refl w).extA own _)⟩
  | fuel + 1, listed, st, own, a, w, he, S, hQ => by
    refine ⟨fun h => ?_, fun i hi => ?_⟩
    · have := he.1 h
      subst this
      exact hQ a w own S (.refl w own) ((Grow.refl w).extA own _)
    · obtain ⟨o, st1, ho, h1, h2⟩ := he.2 i hi
      unfold wpOp
      simp only [ho]
      have := Zjn hn hK S h1 (wpAny C.P .any ops Q fuel (listed.setIfInBounds i true)) Q fun a' w' own' S' F E =>
        Znd hn hK fuel _ st1 own' a' w' h2 S' fun a2 w2 own2 S2 F2 E2 => hQ a2 w2 own2 S2 (F.trans F2) (E.trans E2)
      simpa using this
theorem Zbb {α : Type} (k : Nat) (u : α) (r : List (Nat × α)) (t : Nat) (v : α) : ins ((k, u) :: r) t v = if k < t then (t, v) :: (k, u) :: r else if k = t then (k, v) :: r else (k, u) :: ins r t v := by
  simp only [ins]
  by_cases h1 : k < t
  · rw [if_pos h1, show Nat.blt k t = true by rw [Nat.blt_eq]; exact h1, cond_true]
  · rw [if_neg h1]
    have : Nat.blt k t = false := by rw [Bool.eq_false_iff]; intro h'; rw [Nat.blt_eq] at h'; exact h1 h'
    rw [this, cond_false]
    by_cases h2 : k = t
    · rw [if_pos h2, beq_iff.2 h2, cond_true]
    · rw [if_neg h2, beq_ne.2 h2, cond_false]
theorem Zgd {α : Type} (l : List (Nat × α)) {s t : Nat} (x y : α) (h : s ≠ t) : ins (ins l s x) t y = ins (ins l t y) s x := by
  induction l with
  | nil =>
    simp only [ins, Zbb]
    rcases Nat.lt_or_gt_of_ne h with hlt | hlt
    · rw [if_pos hlt, if_neg (Nat.lt_asymm hlt), if_neg (Ne.symm h)]
    · rw [if_pos hlt, if_neg (Nat.lt_asymm hlt), if_neg h]
  | cons e l ih =>
    obtain ⟨k, u⟩ := e
    rw [Zbb, Zbb]
    by_cases a1 : k < s <;> by_cases b1 : k < t
    · rw [if_pos a1, if_pos b1, Zbb, Zbb, Zbb, Zbb, if_pos a1, if_pos b1]
      rcases Nat.lt_or_gt_of_ne h with hlt | hlt
      · rw [if_pos hlt, if_neg (Nat.lt_asymm hlt), if_neg (Ne.symm h)]
      · rw [if_pos hlt, if_neg (Nat.lt_asymm hlt), if_neg h]
    · have b3 : ¬ s < t := by omega
      rw [if_pos a1, if_neg b1, Zbb, Zbb, if_neg b3, if_neg b1, if_neg h]
      by_cases b2 : k = t
      · rw [if_pos b2, Zbb, if_pos a1]
      · rw [if_neg b2, Zbb, if_pos a1]
    · have b3 : ¬ t < s := by omega
      rw [if_neg a1, if_pos b1, Zbb, if_neg b3, if_neg (Ne.symm h), Zbb, if_neg a1]
      by_cases b2 : k = s
      · rw [if_pos b2, Zbb, if_pos b1]
      · rw [if_neg b2, Zbb, if_pos b1]
    · rw [if_neg a1, if_neg b1]
      by_cases a2 : k = s <;> by_cases b2 : k = t
      · exact absurd (a2.symm.trans b2) h
      · rw [if_pos a2, if_neg b2, Zbb, Zbb, if_neg b1, if_neg b2, if_neg a1, if_pos a2]
      · rw [if_neg a2, if_pos b2, Zbb, Zbb, if_neg b1, if_pos b2, if_neg a1, if_neg a2]
      · rw [if_neg a2, if_neg b2, Zbb, Zbb, if_neg b1, if_neg b2, if_neg a1, if_neg a2, ih]
theorem ZwY (st : St) {d : Nat} (v : XV) {x : Operand} (h : x ≠ .tmp d) : opx { st with tmp := ins st.tmp d v } x = opx st x := by
  cases x with
  | tmp t =>
    have : Nat.beq d t = false := beq_ne.2 (fun e => h (by rw [e]))
    simp only [opx, ZaI, this, cond_false]
  | _ => rfl
structure SameOps (st1 st : St) (xs : List Operand) : Prop where
  env : st1.env = st.env
  heap : st1.heap = st.heap
  x : ∀ x ∈ xs, opx st1 x = opx st x
variable {xs : List Operand}
theorem SameOps.sub {ys : List Operand} (h : SameOps st1 st xs) (hs : ∀ y ∈ ys, y ∈ xs) : SameOps st1 st ys := ⟨h.env, h.heap, fun y hy => h.x y (hs y hy)⟩
theorem SameOps.opd (h : SameOps st1 st xs) {x : Operand} (hx : x ∈ xs) : opd st1 x = opd st x := by unfold Abs.opd; rw [h.x x hx]
theorem SameOps.opA (h : SameOps st1 st xs) {x : Operand} (hx : x ∈ xs) : opA st1 x = opA st x := by unfold Abs.opA; rw [h.opd hx]
theorem SameOps.opD (h : SameOps st1 st xs) {x : Operand} (hx : x ∈ xs) : opD st1 x = opD st x := by unfold Abs.opD; rw [h.opd hx]
theorem SameOps.args (h : SameOps st1 st xs) : ∀ {l : List Operand}, (∀ x ∈ l, x ∈ xs) → Za3 st1 l = Za3 st l
  | [], _ => rfl
  | x :: l, hl => by
    have ih := h.args (l := l) (fun y hy => hl y (List.mem_cons_of_mem _ hy))
    simp only [Za3, h.opA (hl x (by simp)), ih]
theorem SameOps.parts (h : SameOps st1 st xs) : ∀ {l : List (Nat × Operand)}, (∀ x ∈ l, x.2 ∈ xs) → Za8 st1 l = Za8 st l
  | [], _ => rfl
  | (i, x) :: l, hl => by
    have ih := h.parts (l := l) (fun y hy => hl y (List.mem_cons_of_mem _ hy))
    have h1 := h.opD (x := x) (hl (i, x) (by simp))
    simp only [Za8, h1, ih]
theorem SameOps.mapO (h : SameOps st1 st xs) : ∀ {l : List Operand}, (∀ x ∈ l, x ∈ xs) → Abs.mapO (Abs.opD st1) l = Abs.mapO (Abs.opD st) l
  | [], _ => rfl
  | x :: l, hl => by
    have ih := h.mapO (l := l) (fun y hy => hl y (List.mem_cons_of_mem _ hy))
    simp only [Abs.mapO, h.opD (hl x (by simp)), ih]
theorem SameOps.optD (h : SameOps st1 st xs) {x : Option Operand} (hx : ∀ y, x = some y → y ∈ xs) : optD st1 x = optD st x := by
  cases x with
  | none => rfl
  | some y => simp only [Abs.optD, h.opD (hx y rfl)]
theorem Zwv (h1 : st1.env = st.env) (h2 : st1.heap = st.heap) (t : TypeId) (p : XV) : Zbl C t st1 p = Zbl C t st p := by
  unfold Zbl; rw [h1, h2]
theorem ZmO (h2 : st1.heap = st.heap) (t : TypeId) (x : AV) (i : Int) : Zay C t st1 x i = Zay C t st x i := by
  unfold Zay; rw [h2]
theorem Znq (h : SameOps st1 st o.op.operands.toList) : ZaY C call fa o st1 = ZaY C call fa o st := by
  unfold ZaY
  cases hop : o.op <;> rw [hop] at h <;> (try simp only) <;> try (rfl; done)
  case move x => rw [h.x x (by simp [Op.operands])]
  case assign x => rw [h.x x (by simp [Op.operands])]
  case pick c x y => rw [h.opD (x := c) (by simp [Op.operands]), h.opd (x := x) (by simp [Op.operands]), h.opd (x := y) (by simp [Op.operands])]
  case build t ps =>
    have := h.parts (l := ps.toList) (fun x hx => by simp [Op.operands]; exact ⟨x.1, by simpa using hx⟩)
    unfold Zcd; rw [this]
  case buildSlice t n ps =>
    have := h.parts (l := ps.toList) (fun x hx => by simp [Op.operands]; exact ⟨x.1, by simpa using hx⟩)
    unfold Zam; rw [this]
  case load t x => rw [h.opd (x := x) (by simp [Op.operands])]; simp only [Zwv h.env h.heap]
  case nilCheck x => rw [h.opd (x := x) (by simp [Op.operands])]
  case binOp op t x y _ => rw [h.opA (x := x) (by simp [Op.operands]), h.opA (x := y) (by simp [Op.operands])]
  case unOp op t x => rw [h.opD (x := x) (by simp [Op.operands])]
  case convert s t x => rw [h.opA (x := x) (by simp [Op.operands]), h.heap]
  case makeFunc f first cap =>
    cases f <;> simp only
    rw [h.args (l := cap.toList) (fun x hx => by simp [Op.operands]; right; simpa using hx)]
  case slice t x lo hi mx =>
    cases mx <;> simp only
    rw [h.opD (x := x) (by simp [Op.operands]), h.optD (x := lo) (fun y hy => by simp [Op.operands, hy]), h.optD (x := hi) (fun y hy => by simp [Op.operands, hy])]
  case fieldAddr t x f => rw [h.opd (x := x) (by simp [Op.operands])]
  case field t x f => rw [h.opD (x := x) (by simp [Op.operands])]
  case indexAddr t x i => rw [h.opA (x := x) (by simp [Op.operands]), h.opD (x := i) (by simp [Op.operands])]; simp only [ZmO h.heap]
  case index t x i => rw [h.opD (x := x) (by simp [Op.operands]), h.opD (x := i) (by simp [Op.operands])]
  case lookup t x k ok => rw [h.opA (x := x) (by simp [Op.operands]), h.opD (x := k) (by simp [Op.operands]), h.heap]
  case extract x i => rw [h.opA (x := x) (by simp [Op.operands])]
  case call c =>
    have hargs : ∀ x ∈ c.args.toList, x ∈ (Op.call c).operands.toList := fun x hx => by simp [Op.operands, Call.operands]; right; simpa using hx
    cases hc : c.callee with
    | builtin b =>
      simp only
      congr 1
      unfold ZaJ
      rw [h.heap]
      cases b <;> (try simp only) <;> try (rfl; done)
      case len =>
        cases ha : c.args.toList with
        | nil => rfl
        | cons x l =>
          cases l with
          | nil =>
            cases ht : c.argTypes.toList with
            | nil => rfl
            | cons t l =>
              cases l with
              | nil => simp only [h.opA (hargs x (by rw [ha]; simp))]
              | cons t' l => rfl
          | cons y l => rfl
      case max => rw [h.mapO hargs]
      case min => rw [h.mapO hargs]
    | value g =>
      simp only
      rw [h.opA (x := g) (by simp [Op.operands, Call.operands, hc]), h.args hargs, h.heap]
    | invoke r m => rfl
end
end Go.Abs
namespace Go.Abs
section
variable {C : Ctx} {call : Zaa} {fa : FA} {own own' own1 : Own} {st st' st1 st2 : St} {a : Act} {w w' w1 : World} {o : Oper}
theorem ZbP {ops : Array Oper} {d : Nat} {v : XV} (h : d ∉ o.looksAt ops) : ZaQ ops.toList o { st with tmp := ins st.tmp d v } = ZaQ ops.toList o st := by
  unfold ZaQ
  cases hg : o.guard with
  | none => rfl
  | some gw =>
    obtain ⟨g, want⟩ := gw
    simp only
    cases ht : (ops.toList[g]?).bind (·.dst) with
    | none => rfl
    | some t =>
      have hne : d ≠ t := fun e => h (by
        subst e
        have ht' : (ops[g]?).bind (·.dst) = some d := by simpa using ht
        simp [Oper.looksAt, hg, ht'])
      simp only [ZaI, beq_ne.2 hne, cond_false]
theorem Zfr {ops : Array Oper} {d : Nat} {v : XV} (h : d ∉ o.looksAt ops) : ZaY C call fa o { st with tmp := ins st.tmp d v } = ZaY C call fa o st :=
  Znq ⟨rfl, rfl, fun x hx => ZwY st v fun e => h (by
    subst e
    exact List.mem_append_left _ (List.mem_filterMap.2 ⟨.tmp d, hx, rfl⟩))⟩
theorem Zhd {all : List Oper} (hk : Zdx fa o = true) (h : ZaB C call fa all true o st = some st1) : ∃ t x, o.dst = some t ∧ st1 = { st with tmp := ins st.tmp t x } ∧ has fa.keep t = false ∧ Nat.blt t fa.nt = true ∧
    ((ZaQ all o st = some true ∧ ZaY C call fa o st = some x) ∨ (ZaQ all o st = some false ∧ x = .un)) := by
  unfold Zdx at hk
  simp only [Bool.and_eq_true] at hk
  obtain ⟨hk, _⟩ := hk
  have put : ∀ {t x}, o.dst = some t → has fa.keep t = false → st.put fa o.dst x = some st1 → st1 = { st with tmp := ins st.tmp t x } ∧ Nat.blt t fa.nt = true := by
    intro t x hd hkt hp
    rw [hd] at hp
    simp only [St.put] at hp
    cases hb : Nat.blt t fa.nt with
    | false => rw [hb] at hp; cases hp
    | true =>
      rw [hb, hkt] at hp
      simp only [cond_true, cond_false, Option.some.injEq] at hp
      exact ⟨hp.symm, rfl⟩
  split at hk
  · rename_i t hd
    have hkt : has fa.keep t = false := by simpa using hk
    unfold ZaB at h
    split at h
    · rename_i hw
      simp only [cond_true] at h
      split at h
      · rename_i x hx
        obtain ⟨h1, h2⟩ := put hd hkt h
        exact ⟨t, x, hd, h1, hkt, h2, .inl ⟨hw, hx⟩⟩
      · cases h
    · rename_i hw
      obtain ⟨h1, h2⟩ := put hd hkt h
      exact ⟨t, .un, hd, h1, hkt, h2, .inr ⟨hw, rfl⟩⟩
    · cases h
  · cases hk
theorem ZcB {all : List Oper} {t : Nat} {x : XV} (hd : o.dst = some t) (hkt : has fa.keep t = false) (hb : Nat.blt t fa.nt = true)
    (h : (ZaQ all o st = some true ∧ ZaY C call fa o st = some x) ∨ (ZaQ all o st = some false ∧ x = .un)) : ZaB C call fa all true o st = some { st with tmp := ins st.tmp t x } := by
  unfold ZaB
  rcases h with ⟨h1, h2⟩ | ⟨h1, rfl⟩
  · rw [h1]; simp only [cond_true, h2]; rw [hd]; simp only [St.put, hb, hkt, cond_true, cond_false]
  · rw [h1]; simp only; rw [hd]; simp only [St.put, hb, hkt, cond_true, cond_false]
theorem ZuF {ops : Array Oper} {oi oj : Oper} (hi : Zdx fa oi = true) (hj : Zdx fa oj = true) (hap : oi.apart ops oj = true)
    (h1 : ZaB C call fa ops.toList true oi st = some st1) (h2 : ZaB C call fa ops.toList true oj st1 = some st2) :
    ∃ st1', ZaB C call fa ops.toList true oj st = some st1' ∧ ZaB C call fa ops.toList true oi st1' = some st2 := by
  obtain ⟨e1, e2, e3⟩ := Oper.apart_spec hap
  obtain ⟨t, x, d1, rfl, k1, b1, c1⟩ := Zhd hi h1
  obtain ⟨s, y, d2, rfl, k2, b2, c2⟩ := Zhd hj h2
  rw [ZbP (e1 t d1), Zfr (e1 t d1)] at c2
  refine ⟨_, ZcB d2 k2 b2 c2, ?_⟩
  have hts : t ≠ s := fun e => e2 t d1 (by rw [d2, e])
  have := ZcB (C := C) (call := call) (st := { st with tmp := ins st.tmp s y }) (all := ops.toList) (x := x) d1 k1 b1 (by rw [ZbP (e3 s d2), Zfr (e3 s d2)]; exact c1)
  rw [this]
  simp only [Option.some.injEq, St.mk.injEq, true_and, and_true]
  exact Zgd _ _ _ (Ne.symm hts)
theorem Yav {u : Nat} {es : List DV} (hu : Zad st.tmp u = some (.own es)) (x : Operand) : opx { st with tmp := ins st.tmp u (.a (.d (.slc es))) } x = opx st x := by
  cases x with
  | tmp t =>
    simp only [opx, ZaI]
    cases hb : Nat.beq u t with
    | true =>
      have := Nat.eq_of_beq_eq_true hb
      subst this
      simp only [cond_true, hu, XV.copy]
    | false => simp only [cond_false]
  | _ => rfl
theorem Zk9 {ops : List Oper} {u : Nat} {es : List DV} (hu : Zad st.tmp u = some (.own es)) : ZaQ ops o { st with tmp := ins st.tmp u (.a (.d (.slc es))) } = ZaQ ops o st := by
  unfold ZaQ
  cases hg : o.guard with
  | none => rfl
  | some gw =>
    obtain ⟨g, want⟩ := gw
    simp only
    cases ht : (ops[g]?).bind (·.dst) with
    | none => rfl
    | some t =>
      simp only [ZaI]
      cases hb : Nat.beq u t with
      | true =>
        have := Nat.eq_of_beq_eq_true hb
        subst this
        simp only [cond_true, hu]
      | false => simp only [cond_false]
def Yc2 (C : Ctx) (fa : FA) (st : St) (d t : Nat) (x : Operand) (es : List DV) : Option (List DV) := match C.elemSize t, opD st x with
  | some sz, some (.slc new) => bif Zaz sz new && Zaz sz (es.take 1) && ZbU C t (es.length + new.length) && C.elemOk t sz && Nat.blt d fa.nt then some (es ++ new) else none
  | _, _ => none
theorem ZsH (hk : ZaE fa o = true) : ∃ c d u x, o.op = .call c ∧ c.callee = .builtin .append ∧ c.args.toList = [.tmp u, x] ∧ o.dst = some d ∧ has fa.keep d = false ∧ has fa.heapy d = false ∧ u ≠ d := by
  unfold ZaE at hk
  split at hk
  · rename_i c d hop hd
    split at hk
    · rename_i u x hc ha
      simp only [Bool.and_eq_true, Bool.not_eq_true'] at hk
      exact ⟨c, d, u, x, hop, hc, ha, hd, hk.1.1.1.2, hk.1.1.2, fun e => by subst e; have := hk.2; simp at this⟩
    · cases hk
  · cases hk
theorem ZjW (hk : ZaE fa o = true) {c : Call} {d u : Nat} {x : Operand} (hop : o.op = .call c) (hc : c.callee = .builtin .append) (ha : c.args.toList = [.tmp u, x]) (hd : o.dst = some d) (h1 : has fa.keep d = false) (h2 : has fa.heapy d = false) (all : List Oper) (st st1 : St) :
    ZaB C call fa all false o st = some st1 ↔ (ZaQ all o st = some false ∧ Nat.blt d fa.nt = true ∧ st1 = { st with tmp := ins st.tmp d .un }) ∨
      (ZaQ all o st = some true ∧ ∃ t es zs, c.argTypes.toList = [t, t] ∧ Zad st.tmp u = some (.own es) ∧ Yc2 C fa st d t x es = some zs ∧ st1 = { st with tmp := ins (ins st.tmp u (.a (.d (.slc es)))) d (.own zs) }) := by
  have hv : ZaY C call fa o st = none := by
    simp only [ZaY, hop, hc, ZaJ, oD]
  unfold ZaB
  cases hw : ZaQ all o st with
  | none => simp
  | some b =>
    cases b with
    | false =>
      simp only [hd, St.put, h1, cond_false]
      cases hb : Nat.blt d fa.nt with
      | false => simp
      | true => simp only [cond_true, Option.some.injEq]; constructor
                · intro h; exact .inl ⟨trivial, trivial, h.symm⟩
                · rintro (⟨_, _, h⟩ | ⟨h, _⟩)
                  · exact h.symm
                  · simp at h
    | true =>
      simp only [cond_false, Zjf, hv, Zck, hop, hc]
      constructor
      · intro h
        right
        refine ⟨trivial, ?_⟩
        split at h
        · rename_i s x' t t' _ ha' ht'
          rw [ha] at ha'
          simp only [List.cons.injEq, and_true] at ha'
          obtain ⟨rfl, rfl⟩ := ha'
          cases hg : Nat.beq t t' && (!ZaE fa o || ZrY st (.tmp u)) with
          | false => rw [hg] at h; cases h
          | true =>
            rw [hg] at h
            simp only [cond_true] at h
            simp only [hk, Bool.not_true, Bool.false_or, Bool.and_eq_true] at hg
            have e := Nat.eq_of_beq_eq_true hg.1
            subst e
            have hg2 := hg.2
            simp only [ZrY] at hg2
            split at hg2
            · rename_i es hu
              have hopd : opd st (.tmp u) = some (.a (.d (.slc es))) := by simp only [opd, opx, hu, XV.copy, XV.flat]
              have hown : Zc8 st (.tmp u) = some es := by simp only [Zc8, hu]
              have hlose : st.lose (.tmp u) = { st with tmp := ins st.tmp u (.a (.d (.slc es))) } := by simp only [St.lose, hu]
              unfold Zbo at h
              cases hs : C.elemSize t with
              | none => rw [hs] at h; simp at h
              | some sz =>
                cases hx : opD st x with
                | none => rw [hs, hx] at h; simp at h
                | some xv =>
                  cases xv <;> (try (rw [hs, hx] at h; simp at h; done))
                  rename_i new
                  rw [hs, hx] at h
                  simp only [hopd, hown, hlose, Zbi, hd, h2, cond_false, St.putOwn, h1] at h
                  refine ⟨t, es, es ++ new, ht', hu, ?_, ?_⟩
                  all_goals
                    cases hcnd : Zaz sz new && Zaz sz (es.take 1) && ZbU C t (es.length + new.length) && C.elemOk t sz with
                    | false => rw [hcnd] at h; cases h
                    | true =>
                      rw [hcnd] at h
                      simp only [cond_true] at h
                      cases hb : Nat.blt d fa.nt with
                      | false => rw [hb] at h; cases h
                      | true =>
                        rw [hb] at h
                        first
                          | (simp only [Yc2, hs, hx, hcnd, hb, Bool.and_self, cond_true]; done)
                          | (simp only [cond_true, Option.some.injEq] at h; exact h.symm)
            · cases hg2
        · rename_i hbad _ _; cases hbad
        · cases h
      · rintro (⟨h, _⟩ | ⟨_, t, es, zs, ht, hu, hz, rfl⟩)
        · cases h
        · have hopd : opd st (.tmp u) = some (.a (.d (.slc es))) := by simp only [opd, opx, hu, XV.copy, XV.flat]
          have hown : Zc8 st (.tmp u) = some es := by simp only [Zc8, hu]
          have hlose : st.lose (.tmp u) = { st with tmp := ins st.tmp u (.a (.d (.slc es))) } := by simp only [St.lose, hu]
          unfold Yc2 at hz
          split at hz
          · rename_i sz new hs hx
            cases hcnd : Zaz sz new && Zaz sz (es.take 1) && ZbU C t (es.length + new.length) && C.elemOk t sz && Nat.blt d fa.nt with
            | false => rw [hcnd] at hz; cases hz
            | true =>
              rw [hcnd] at hz
              simp only [cond_true, Option.some.injEq] at hz
              subst hz
              rw [Bool.and_eq_true] at hcnd
              simp only [ha, ht, Nat.beq_refl, hk, Bool.not_true, Bool.false_or, ZrY, hu, Bool.and_self, cond_true, Zbo, hs, hx, hopd, hown, hlose, Zbi, hd, h2, cond_false, St.putOwn, h1, hcnd.1, hcnd.2]
          · cases hz
theorem Zlp {ops : Array Oper} {u : Nat} (h : Operand.tmp u ∈ o.op.operands) : u ∈ o.looksAt ops := List.mem_append_left _ (List.mem_filterMap.2 ⟨.tmp u, by simpa using h, rfl⟩)
theorem Ztm {u : Nat} {es : List DV} (hu : Zad st.tmp u = some (.own es)) : ZaY C call fa o { st with tmp := ins st.tmp u (.a (.d (.slc es))) } = ZaY C call fa o st := Znq ⟨rfl, rfl, fun x _ => Yav hu x⟩
theorem ZvL {c : Call} {u : Nat} {x : Operand} (hop : o.op = .call c) (ha : c.args.toList = [.tmp u, x]) : .tmp u ∈ o.op.operands ∧ x ∈ o.op.operands := by
  have h : ∀ y, y ∈ c.args.toList → y ∈ o.op.operands := fun y hy => by
    rw [hop]
    simp only [Op.operands, Call.operands]
    cases c.callee <;> simp <;> simp at hy <;> simp [hy]
  exact ⟨h _ (by rw [ha]; simp), h _ (by rw [ha]; simp)⟩
theorem ZsP {ops : Array Oper} {d t s : Nat} {x : Operand} {y : XV} {es : List DV} (hx : x ∈ o.op.operands) (hs : s ∉ o.looksAt ops) : Yc2 C fa { st with tmp := ins st.tmp s y } d t x es = Yc2 C fa st d t x es := by
  have : opx { st with tmp := ins st.tmp s y } x = opx st x := ZwY st y fun e => hs (by subst e; exact Zlp hx)
  unfold Yc2
  simp only [opD, opd, this]
theorem ZwC {ops : Array Oper} {oi oj : Oper} (hi : ZaE fa oi = true) (hj : Zdx fa oj = true) (hap : oi.apart ops oj = true)
    (h1 : ZaB C call fa ops.toList false oi st = some st1) (h2 : ZaB C call fa ops.toList true oj st1 = some st2) :
    ∃ st1', ZaB C call fa ops.toList true oj st = some st1' ∧ ZaB C call fa ops.toList false oi st1' = some st2 := by
  obtain ⟨e1, e2, e3⟩ := Oper.apart_spec hap
  obtain ⟨c, d, u, x, hop, hc, ha, hd, k1, k2, hne⟩ := ZsH hi
  obtain ⟨m1, m2⟩ := ZvL hop ha
  obtain ⟨s, y, d2, rfl, ks, bs, c2⟩ := Zhd hj h2
  have hds : d ≠ s := fun e => e2 d hd (by rw [d2, e])
  have hus : u ≠ s := fun e => e3 s d2 (e ▸ Zlp m1)
  rcases (ZjW hi hop hc ha hd k1 k2 _ _ _).1 h1 with ⟨w1, b1, rfl⟩ | ⟨w1, t, es, zs, ht, hu, hz, rfl⟩
  · rw [ZbP (e1 d hd), Zfr (e1 d hd)] at c2
    refine ⟨_, ZcB d2 ks bs c2, (ZjW hi hop hc ha hd k1 k2 _ _ _).2 (.inl ⟨by rw [ZbP (e3 s d2)]; exact w1, b1, ?_⟩)⟩
    simp only [St.mk.injEq, true_and, and_true]
    exact Zgd _ _ _ hds
  · rw [ZbP (st := { st with tmp := ins st.tmp u (.a (.d (.slc es))) }) (e1 d hd), Zfr (st := { st with tmp := ins st.tmp u (.a (.d (.slc es))) }) (e1 d hd), Zk9 hu, Ztm hu] at c2
    refine ⟨_, ZcB d2 ks bs c2, (ZjW hi hop hc ha hd k1 k2 _ _ _).2 (.inr ⟨by rw [ZbP (e3 s d2)]; exact w1, t, es, zs, ht, ?_, by rw [ZsP m2 (e3 s d2)]; exact hz, ?_⟩)⟩
    · simp only [ZaI, beq_ne.2 (Ne.symm hus), cond_false, hu]
    · simp only [St.mk.injEq, true_and, and_true]
      rw [Zgd _ _ _ hds, Zgd _ _ _ hus]
theorem ZwR {ops : Array Oper} {oi oj : Oper} (hi : Zdx fa oi = true) (hj : ZaE fa oj = true) (hap : oi.apart ops oj = true)
    (h1 : ZaB C call fa ops.toList true oi st = some st1) (h2 : ZaB C call fa ops.toList false oj st1 = some st2) :
    ∃ st1', ZaB C call fa ops.toList false oj st = some st1' ∧ ZaB C call fa ops.toList true oi st1' = some st2 := by
  obtain ⟨e1, e2, e3⟩ := Oper.apart_spec hap
  obtain ⟨c, d, u, x, hop, hc, ha, hd, k1, k2, hne⟩ := ZsH hj
  obtain ⟨m1, m2⟩ := ZvL hop ha
  obtain ⟨s, y, d2, rfl, ks, bs, c2⟩ := Zhd hi h1
  have hds : s ≠ d := fun e => e2 s d2 (by rw [hd, e])
  have hus : s ≠ u := fun e => e1 s d2 (e ▸ Zlp m1)
  rcases (ZjW hj hop hc ha hd k1 k2 _ _ _).1 h2 with ⟨w1, b1, rfl⟩ | ⟨w1, t, es, zs, ht, hu, hz, rfl⟩
  · rw [ZbP (e1 s d2)] at w1
    refine ⟨_, (ZjW hj hop hc ha hd k1 k2 _ _ _).2 (.inl ⟨w1, b1, rfl⟩), ?_⟩
    have := ZcB (C := C) (call := call) (st := { st with tmp := ins st.tmp d .un }) (all := ops.toList) (x := y) d2 ks bs (by rw [ZbP (e3 d hd), Zfr (e3 d hd)]; exact c2)
    rw [this]
    simp only [Option.some.injEq, St.mk.injEq, true_and, and_true]
    exact Zgd _ _ _ (Ne.symm hds)
  · simp only [ZaI, beq_ne.2 hus, cond_false] at hu
    rw [ZbP (e1 s d2)] at w1
    rw [ZsP m2 (e1 s d2)] at hz
    refine ⟨_, (ZjW hj hop hc ha hd k1 k2 _ _ _).2 (.inr ⟨w1, t, es, zs, ht, hu, hz, rfl⟩), ?_⟩
    have := ZcB (C := C) (call := call) (st := { st with tmp := ins (ins st.tmp u (.a (.d (.slc es)))) d (.own zs) }) (all := ops.toList) (x := y) d2 ks bs (by
      rw [ZbP (st := { st with tmp := ins st.tmp u (.a (.d (.slc es))) }) (e3 d hd), Zfr (st := { st with tmp := ins st.tmp u (.a (.d (.slc es))) }) (e3 d hd), Zk9 hu, Ztm hu]; exact c2)
    rw [this]
    simp only [Option.some.injEq, St.mk.injEq, true_and, and_true]
    rw [Zgd _ _ _ (Ne.symm hds), Zgd _ _ _ (Ne.symm hus)]
def ZcI (listed : Array Bool) (i : Nat) : Prop := listed.getD i false = true
def Zld (ops : Array Oper) (listed : Array Bool) : Prop := ∀ m, ZcI listed m → ∀ p ∈ Zut ops.toList m, ZcI listed p
theorem Zl1 {ops : Array Oper} {listed : Array Bool} {j : Nat} (h : j ∈ Region.ready .any ops listed) : ∀ p ∈ Zut ops.toList j, ZcI listed p := by
  obtain ⟨_, o, ho, hall⟩ := mem_ready.1 h
  intro p hp
  unfold Zut at hp
  rw [show ops.toList[j]? = some o by simpa using ho] at hp
  simp only [List.mem_map, List.mem_filter] at hp
  obtain ⟨e, ⟨he, hb⟩, rfl⟩ := hp
  exact hall e (by simpa using he) hb
theorem ZmZ {ops : Array Oper} {listed : Array Bool} (hc : Zld ops listed) {j : Nat} (h : j ∈ Region.ready .any ops listed) : Zld ops (listed.setIfInBounds j true) := by
  intro m hm p hp
  by_cases hmj : j = m
  · subst hmj; exact getD_set_true (Zl1 h p hp)
  · unfold ZcI at hm
    rw [getD_set_ne false hmj] at hm
    exact getD_set_true (hc m hm p hp)
theorem ZiX {ops : Array Oper} {listed : Array Bool} (hc : Zld ops listed) : ∀ (n : Nat) (l : List Nat), (∀ x ∈ l, ZcI listed x) → ∀ x ∈ Zxz ops.toList n l, ZcI listed x
  | 0, l, h, x, hx => h x hx
  | n + 1, l, h, x, hx => by
    refine ZiX hc n _ (fun y hy => ?_) x hx
    have Zz5 : ∀ (ps acc : List Nat), (∀ p ∈ ps, ZcI listed p) → (∀ p ∈ acc, ZcI listed p) → ∀ y ∈ ps.foldl (fun acc k => bif has acc k then acc else k :: acc) acc, ZcI listed y := by
      intro ps
      induction ps with
      | nil => intro acc _ h2; exact h2
      | cons p ps ih =>
        intro acc h1 h2
        simp only [List.foldl_cons]
        refine ih _ (fun q hq => h1 q (List.mem_cons_of_mem _ hq)) (fun q hq => ?_)
        cases hh : has acc p with
        | true => rw [hh] at hq; exact h2 q hq
        | false =>
          rw [hh] at hq
          simp only [cond_false, List.mem_cons] at hq
          rcases hq with rfl | hq
          · exact h1 q (by simp)
          · exact h2 q hq
    have outer : ∀ (m acc : List Nat), (∀ p ∈ m, ZcI listed p) → (∀ p ∈ acc, ZcI listed p) →
        ∀ y ∈ m.foldl (fun acc i => (Zut ops.toList i).foldl (fun acc k => bif has acc k then acc else k :: acc) acc) acc, ZcI listed y := by
      intro m
      induction m with
      | nil => intro acc _ h2; exact h2
      | cons p m ih =>
        intro acc h1 h2
        simp only [List.foldl_cons]
        exact ih _ (fun q hq => h1 q (List.mem_cons_of_mem _ hq)) (Zz5 _ _ (hc p (h1 p (by simp))) h2)
    exact outer l l h h y hy
theorem Zf7 {ops : Array Oper} {listed : Array Bool} (hc : Zld ops listed) {j : Nat} (h : j ∈ Region.ready .any ops listed) : ∀ x, has (ZnK ops.toList j) x = true → ZcI listed x :=
  fun x hx => ZiX hc _ _ (Zl1 h) x (has_iff.1 hx)
theorem Zfp {ops : Array Oper} {listed : Array Bool} {j : Nat} (h : j ∈ Region.ready .any ops listed) : ¬ ZcI listed j := by
  intro hl
  have h0 := (mem_ready.1 h).1
  unfold ZcI at hl
  rcases Nat.lt_or_ge j listed.size with h' | h'
  · simp [h'] at h0 hl; rw [h0] at hl; cases hl
  · simp [Array.getElem?_eq_none h'] at hl
theorem ZmS {ops : Array Oper} {listed : Array Bool} (hc : Zld ops listed) {i j : Nat} (hi : i ∈ Region.ready .any ops listed) (hj : j ∈ Region.ready .any ops listed) (hne : i ≠ j)
    (hlt : ∀ k, k ∈ Region.ready .any ops listed → k < ops.size) : Zou ops.toList ((List.range ops.toList.length).map (ZnK ops.toList)) i = false := by
  cases hs : Zou ops.toList ((List.range ops.toList.length).map (ZnK ops.toList)) i with
  | false => rfl
  | true =>
    unfold Zou at hs
    rw [List.all_eq_true] at hs
    have hjl : j < ops.toList.length := by have := hlt j hj; simpa using this
    have hil : i < ops.toList.length := by have := hlt i hi; simpa using this
    have h1 := hs j (List.mem_range.2 hjl)
    have hji : Nat.beq j i = false := beq_ne.2 (Ne.symm hne)
    rw [hji, Bool.false_or] at h1
    have anc : ∀ k, k < ops.toList.length → ((List.range ops.toList.length).map (ZnK ops.toList)).getD k [] = ZnK ops.toList k := by
      intro k hk
      rw [List.getD_eq_getElem?_getD, List.getElem?_map, List.getElem?_range hk]
      rfl
    cases hb : Nat.blt j i with
    | true =>
      rw [hb, cond_true, anc i hil] at h1
      exact absurd (Zf7 hc hi j h1) (Zfp hj)
    | false =>
      rw [hb, cond_false, anc j hjl] at h1
      exact absurd (Zf7 hc hj i h1) (Zfp hi)
theorem Zuz {ops : Array Oper} {q : Nat → Bool} {i : Nat} {oi : Oper} (hi : ops[i]? = some oi)
    (hq : ∀ j, j < ops.size → Zou ops.toList ((List.range ops.toList.length).map (ZnK ops.toList)) j = false → ∀ oj, ops[j]? = some oj → (q j = true ∧ Zdx fa oj = true) ∨ (q j = false ∧ ZaE fa oj = true))
    (hoo : ∀ i j oi oj, i ≠ j → ops[i]? = some oi → ops[j]? = some oj → has (ZnK ops.toList j) i = false → has (ZnK ops.toList i) j = false → ¬ (ZaE fa oi = true ∧ ZaE fa oj = true)) :
    ∀ (fuel : Nat) (listed : Array Bool) (st st1 st' : St), Zld ops listed →
      (∀ j oj, ops[j]? = some oj → j ≠ i → listed.getD j true = false → (∀ e ∈ oj.after, Region.binds .any e = true → e.on ≠ i) → oi.apart ops oj = true) →
      i ∈ Region.ready .any ops listed → ZaB C call fa ops.toList (q i) oi st = some st1 →
      Ydk C call fa ops q fuel (listed.setIfInBounds i true) st1 st' → Ydk C call fa ops q (fuel + 1) listed st st' := by
  have rlt : ∀ listed k, k ∈ Region.ready .any ops listed → k < ops.size := fun listed k hk => by
    obtain ⟨_, o, ho, _⟩ := mem_ready.1 hk
    exact (Array.getElem?_eq_some_iff.1 ho).1
  intro fuel
  induction fuel with
  | zero =>
    intro listed st st1 st' _ _ hr hy H
    refine ⟨fun h => (by rw [h] at hr; cases hr), fun j hj => ?_⟩
    by_cases hji : j = i
    · subst hji; exact ⟨oi, st1, hi, hy, H⟩
    · have := ready_mono hj hji
      rw [H.1] at this
      cases this
  | succ fuel ih =>
    intro listed st st1 st' hc hfree hr hy H
    refine ⟨fun h => (by rw [h] at hr; cases hr), fun j hj => ?_⟩
    by_cases hji : j = i
    · subst hji; exact ⟨oi, st1, hi, hy, H⟩
    · obtain ⟨oj, st2, hoj, h2, h3⟩ := H.2 j (ready_mono hj hji)
      obtain ⟨hjun, oj', hoj', hall⟩ := mem_ready.1 hj
      rw [hoj] at hoj'
      simp only [Option.some.injEq] at hoj'
      subst hoj'
      have hnot : ∀ e ∈ oj.after, Region.binds .any e = true → e.on ≠ i := fun e he hb heq => by
        have h1 := hall e he hb
        rw [heq] at h1
        exact Zfp hr h1
      have qi := hq i (rlt _ i hr) (ZmS hc hr hj (Ne.symm hji) (rlt listed)) oi hi
      have qj := hq j (rlt _ j hj) (ZmS hc hj hr hji (rlt listed)) oj hoj
      have hno : ¬ (ZaE fa oi = true ∧ ZaE fa oj = true) := by
        refine hoo i j oi oj (Ne.symm hji) hi hoj ?_ ?_
        · cases h : has (ZnK ops.toList j) i with
          | false => rfl
          | true => exact absurd (Zf7 hc hj i h) (Zfp hr)
        · cases h : has (ZnK ops.toList i) j with
          | false => rfl
          | true => exact absurd (Zf7 hc hr j h) (Zfp hj)
      have hap := hfree j oj hoj hji hjun hnot
      obtain ⟨st1', g1, g2⟩ : ∃ st1', ZaB C call fa ops.toList (q j) oj st = some st1' ∧ ZaB C call fa ops.toList (q i) oi st1' = some st2 := by
        rcases qi with ⟨qi1, qi2⟩ | ⟨qi1, qi2⟩ <;> rcases qj with ⟨qj1, qj2⟩ | ⟨qj1, qj2⟩ <;> rw [qi1] at hy ⊢ <;> rw [qj1] at h2 ⊢
        · exact ZuF qi2 qj2 hap hy h2
        · exact ZwR qi2 qj2 hap hy h2
        · exact ZwC qi2 qj2 hap hy h2
        · exact absurd ⟨qi2, qj2⟩ hno
      refine ⟨oj, st1', hoj, g1, ih (listed.setIfInBounds j true) st1' st2 st' (ZmZ hc hj) (fun k ok hk hki hun hno => ?_) (ready_mono hr (Ne.symm hji)) g2 ?_⟩
      · refine hfree k ok hk hki ?_ hno
        by_cases hjk : j = k
        · subst hjk; exact hjun
        · rw [getD_set_ne true hjk] at hun; exact hun
      · rw [Array.setIfInBounds_comm _ _ hji]
        exact h3
theorem Ztv {ops : Array Oper} {q : Nat → Bool}
    (hq : ∀ j, j < ops.size → Zou ops.toList ((List.range ops.toList.length).map (ZnK ops.toList)) j = false → ∀ oj, ops[j]? = some oj → (q j = true ∧ Zdx fa oj = true) ∨ (q j = false ∧ ZaE fa oj = true))
    (hoo : ∀ i j oi oj, i ≠ j → ops[i]? = some oi → ops[j]? = some oj → has (ZnK ops.toList j) i = false → has (ZnK ops.toList i) j = false → ¬ (ZaE fa oi = true ∧ ZaE fa oj = true)) :
    ∀ (l : List Oper) (qs : List Bool) (k : Nat) (listed : Array Bool) (st st' : St), (∀ j, l[j]? = ops[k + j]?) → (∀ j b, qs[j]? = some b → q (k + j) = b) → Zld ops listed →
    Region.lexFrom .any ops l.length k listed = true → ZfG C call fa ops.toList qs l st = some st' → Ydk C call fa ops q l.length listed st st'
  | [], qs, k, listed, st, st', _, _, _, hB, h => by
    refine ⟨by simpa [Region.lexFrom] using hB, ?_⟩
    cases qs <;> simpa [ZfG] using h
  | o :: l, [], k, listed, st, st', _, _, _, _, h => by simp [ZfG] at h
  | o :: l, b :: qs, k, listed, st, st', hl, hqs, hc, hB, h => by
    have h0 : ops[k]? = some o := by simpa using (hl 0).symm
    have hqb : q k = b := by simpa using hqs 0 b rfl
    simp only [List.length_cons, Region.lexFrom, Bool.and_eq_true] at hB
    obtain ⟨⟨hr, hf⟩, hB'⟩ := hB
    have hr' : k ∈ Region.ready .any ops listed := by simpa using hr
    simp only [ZfG] at h
    split at h
    · rename_i st1 h1
      refine Zuz h0 hq hoo l.length listed st st1 st' hc (Region.free_spec h0 hf) hr' (by rw [hqb]; exact h1) ?_
      exact Ztv hq hoo l qs (k + 1) _ st1 st' (fun j => by have := hl (j + 1); simpa [Nat.add_assoc, Nat.add_comm 1 j] using this)
        (fun j b' hb' => by have := hqs (j + 1) b' (by simpa using hb'); rw [← this]; congr 1; omega) (ZmZ hc hr') hB' h
    · cases h
theorem SRel.dropTmp (S : SRel C.P fa own st a w) : SRel C.P fa own { st with tmp := [] } a w :=
  ⟨S.h, S.nt, S.defers, S.ek, fun t x h => by simp [Zad] at h, S.env, fun t x h => by simp [Zad] at h⟩
theorem ZqM (hn : Za4 C.P) (hm : C.P.follows .mixedOrders = true) (hK : Za2 C.P call) (S : SRel C.P fa own st a w) {id : Nat} {ops : Array Oper} {draw : Bool} {Q : Exit → Act → World → Prop}
    (he : Zew C call fa draw ops.toList st = some st') (hQ : Yd7 C.P fa own st.heap { st' with tmp := [] } w (Q .normal)) : (Code.region id ops draw).wp C.P Q a w := by
  have hQ' : Yd7 C.P fa own st.heap st' w (Q .normal) := fun a' w' own' S' F E => hQ a' w' own' S'.dropTmp F E
  unfold Zew at he
  cases draw with
  | false =>
    simp only [cond_false] at he
    exact wp_region_list (by
      have := Zc9 hn hK (Q := Q) ops.toList st own a w he S hQ'
      simpa using this)
  | true =>
    simp only [cond_true] at he
    cases hd : Zp2 fa ops.toList with
    | false => rw [hd] at he; cases he
    | true =>
      rw [hd] at he
      simp only [cond_true] at he
      unfold Zp2 at hd
      simp only [Bool.and_eq_true] at hd
      obtain ⟨⟨d1, d2⟩, d3⟩ := hd
      have d1' : Region.lexB .any ops = true := by simpa using d1
      simp only [Region.lexB, Bool.and_eq_true] at d1'
      have S' : SRel C.P fa own st a { w with drawn := w.drawn + 1 } := S.grow ⟨rfl, rfl, rfl, Nat.le_refl _, fun _ _ => rfl⟩
      refine wp_region_any hm ?_
      refine Znd hn hK ops.size _ st own a _ (q := fun j => (Zdn fa ops.toList).getD j true) ?_ S' (fun a' w' own' S2 F E => hQ' a' w' own' S2 ⟨F.os, F.tape, F.output, F.size, F.blk⟩ ⟨⟨E.ext.cell, E.ext.map⟩, E.len, E.kind, E.blk⟩)
      have hql : ∀ j, j < ops.toList.length → (Zdn fa ops.toList)[j]? = some (!Zou ops.toList ((List.range ops.toList.length).map (ZnK ops.toList)) j && !Ydr fa ops.toList j) := by
        intro j hj
        unfold Zdn
        simp only [List.getElem?_map, List.getElem?_range hj]
        rfl
      have := Ztv (C := C) (call := call) (fa := fa) (ops := ops) (q := fun j => (Zdn fa ops.toList).getD j true) (fun j hj hs => by
        have hjl : j < ops.toList.length := by simpa using hj
        intro oj hoj
        have hoj' : ops.toList[j]? = some oj := by simpa using hoj
        have hob : Ydr fa ops.toList j = ZaE fa oj := by simp only [Ydr, hoj']
        rw [List.getD_eq_getElem?_getD, hql j hjl, hs, hob]
        rw [List.all_eq_true] at d2
        have := d2 j (List.mem_range.2 hjl)
        rw [hs, Bool.false_or, hoj'] at this
        simp only [Bool.or_eq_true] at this
        cases hk : ZaE fa oj with
        | true => exact .inr ⟨rfl, rfl⟩
        | false => exact .inl ⟨rfl, this.resolve_right (by rw [hk]; decide)⟩) (fun i j oi oj hij hoi hoj h1 h2 => by
        have hil : i < ops.toList.length := by simpa using (Array.getElem?_eq_some_iff.1 hoi).1
        have hjl : j < ops.toList.length := by simpa using (Array.getElem?_eq_some_iff.1 hoj).1
        rw [List.all_eq_true] at d3
        have := d3 i (List.mem_range.2 hil)
        rw [List.all_eq_true] at this
        have := this j (List.mem_range.2 hjl)
        have anc : ∀ k, k < ops.toList.length → ((List.range ops.toList.length).map (ZnK ops.toList)).getD k [] = ZnK ops.toList k := by
          intro k hk
          rw [List.getD_eq_getElem?_getD, List.getElem?_map, List.getElem?_range hk]
          rfl
        unfold YdH at this
        rw [anc i hil, anc j hjl, h1, h2, beq_ne.2 hij, show ops.toList[i]? = some oi by simpa using hoi, show ops.toList[j]? = some oj by simpa using hoj] at this
        rintro ⟨g1, g2⟩
        simp [g1, g2] at this) ops.toList (Zdn fa ops.toList) 0 (Array.replicate ops.size false) st st' (by simp) (fun j b hb => by rw [Nat.zero_add, List.getD_eq_getElem?_getD, hb]; rfl) (fun m hm => by
          unfold ZcI at hm
          rcases Nat.lt_or_ge m (Array.replicate ops.size false).size with h' | h'
          · simp at h'; simp [h'] at hm
          · simp at h'; simp [h'] at hm) (by simpa using d1'.2) he
      simpa using this
end
end Go.Abs
namespace Go.Abs
def Out.st : Out → St
  | .norm st => st
  | .exit _ st => st
  | .goto _ st => st
  | .ret st => st
def Out.ex : Out → Exit
  | .norm _ => .normal
  | .exit id _ => .exit id
  | .goto l _ => .goto l
  | .ret _ => .ret
def OutRel (P : Program) (fa : FA) (own : Own) (h : List AObj) (w : World) (out : Out) : Exit → Act → World → Prop :=
  fun e a' w' => e = out.ex ∧ ∃ own', SRel P fa own' out.st a' w' ∧ Frm w own w' own' ∧ ExtA w own h w' own' out.st.heap
section
variable {C : Ctx} {call : Zaa} {fa : FA} {own own' own1 : Own} {st st' st1 st2 : St} {a a1 : Act} {w w' w1 : World} {h : List AObj} {out : Out}
theorem OutRel.after {P : Program} (F : Frm w own w1 own1) (E : ExtA w own h w1 own1 st1.heap) {e : Exit} {a' : Act} (r : OutRel P fa own1 st1.heap w1 out e a' w') : OutRel P fa own h w out e a' w' := by
  obtain ⟨h1, own', h2, h3, h4⟩ := r
  exact ⟨h1, own', h2, F.trans h3, E.trans h4⟩
theorem ZjY (e0 : List (Nat × SV)) : ∀ (env : List (Nat × SV)) (s : Nat) (sv : SV), Zad (Zbn e0 env) s = some sv → Zad env s = some sv := by
  intro env
  have key : ∀ (env : List (Nat × SV)) (s : Nat), Zad (Zbn e0 env) s = match Zad e0 s with
      | some _ => Zad env s
      | none => none := by
    intro env s
    induction env with
    | nil => simp only [Zbn, Zad]; split <;> rfl
    | cons e env ih =>
      obtain ⟨k, v⟩ := e
      simp only [Zbn]
      cases hk : Zad e0 k with
      | some u =>
        simp only [Zad]
        cases hb : Nat.beq k s with
        | true =>
          have := Nat.eq_of_beq_eq_true hb
          subst this
          rw [hk]; rfl
        | false => exact ih
      | none =>
        simp only [ih, Zad]
        cases hb : Nat.beq k s with
        | true =>
          have := Nat.eq_of_beq_eq_true hb
          subst this
          rw [hk]
        | false => rfl
  intro s sv hs
  rw [key env s] at hs
  split at hs
  · exact hs
  · cases hs
theorem SRel.trim (S : SRel C.P fa own st a w) (e0 : List (Nat × SV)) : SRel C.P fa own (st.trim e0) a w :=
  ⟨S.h, S.nt, S.defers, fun s sv hs => S.ek s sv (ZjY e0 _ s sv hs), S.tk, fun s sv hs => S.env s sv (ZjY e0 _ s sv hs), fun t x ht =>
    (S.tmp t x ht).mono ((Grow.refl w).extA own st.heap) (fun _ _ _ _ hb => hb) ((Grow.refl w).keep S.h _) (fun s es _ es' hes => ⟨ZjY e0 _ s _ hes, rfl⟩)⟩
theorem Ziu {P : Program} {Q : Exit → Act → World → Prop} {c : Code} (I : Nat → Act → World → Prop) (n : Nat) (h0 : I n a w)
    (round : ∀ n a w, I n a w → c.wp P (Exit.then (fun a' w' => ∃ m, m < n ∧ I m a' w') Q) a w) : (Code.loop c).wp P Q a w := by
  have least : ∀ a w, (∃ n, I n a w) → ∃ n, I n a w ∧ ∀ m, I m a w → n ≤ m := by
    intro a w ⟨n, hn⟩
    induction n using Nat.strongRecOn with
    | _ n ih =>
      by_cases hm : ∃ m, m < n ∧ I m a w
      · obtain ⟨m, h1, h2⟩ := hm; exact ih m h1 h2
      · exact ⟨n, hn, fun m h => Nat.le_of_not_lt fun hlt => hm ⟨m, hlt, h⟩⟩
  classical
  let μ : Act → World → Nat := fun a w => if h : ∃ n, I n a w then Classical.choose (least a w h) else 0
  have hμ : ∀ a w (h : ∃ n, I n a w), I (μ a w) a w ∧ ∀ m, I m a w → μ a w ≤ m := by
    intro a w h
    have : μ a w = Classical.choose (least a w h) := dif_pos h
    rw [this]
    exact Classical.choose_spec (least a w h)
  refine wp_loop (fun a w => ∃ n, I n a w) μ ⟨n, h0⟩ fun a w h => ?_
  refine wp_mono (round _ a w (hμ a w h).1) fun e a' w' q => ?_
  cases e <;> try exact q
  obtain ⟨m, hm, hI⟩ := q
  exact ⟨⟨m, hI⟩, Nat.lt_of_le_of_lt ((hμ a' w' ⟨m, hI⟩).2 m hI) hm⟩
theorem Zvh {c : Code} {f : St → Option Out} {e0 : List (Nat × SV)} (hf : ∀ st out own a w, f st = some out → SRel C.P fa own st a w → c.wp C.P (OutRel C.P fa own st.heap w out) a w)
    {n : Nat} (he : iter f e0 n st = some out) (S : SRel C.P fa own st a w) : (Code.loop c).wp C.P (OutRel C.P fa own st.heap w out) a w := by
  refine Ziu (fun n a' w' => ∃ st1 own1, iter f e0 n st1 = some out ∧ SRel C.P fa own1 st1 a' w' ∧ Frm w own w' own1 ∧ ExtA w own st.heap w' own1 st1.heap) n ⟨st, own, he, S, .refl w own, (Grow.refl w).extA own _⟩ ?_
  rintro n a' w' ⟨st1, own1, h1, S1, F1, E1⟩
  cases n with
  | zero => simp [iter] at h1
  | succ n =>
    simp only [iter] at h1
    split at h1
    · rename_i st2 h2
      refine wp_mono (hf st1 _ own1 a' w' h2 S1) fun e a2 w2 r => ?_
      obtain ⟨rfl, own2, S2, F2, E2⟩ := r
      exact ⟨n, Nat.lt_succ_self n, st2.trim e0, own2, h1, S2.trim e0, F1.trans F2, E1.trans E2⟩
    · rename_i hne
      refine wp_mono (hf st1 out own1 a' w' h1 S1) fun e a2 w2 r => ?_
      have r' := OutRel.after F1 E1 r
      have hex : ∀ st, out ≠ .norm st := fun st hst => hne st (by rw [h1, hst])
      obtain ⟨he, _⟩ := r
      cases out with
      | norm st => exact absurd rfl (hex st)
      | exit id st => subst he; exact r'
      | goto l st => subst he; exact r'
      | ret st => subst he; exact r'
theorem ZgI (hn : Za4 C.P) (hm : C.P.follows .mixedOrders = true) (hK : Za2 C.P call) (n : Nat) : ∀ (c : Code) (st : St) (out : Out) (own : Own) (a : Act) (w : World), evC C call fa n c st = some out → SRel C.P fa own st a w →
    c.wp C.P (OutRel C.P fa own st.heap w out) a w := by
  intro c
  induction c with
  | skip =>
    intro st out own a w he S
    simp only [evC, Option.some.injEq] at he
    subst he
    exact wp_skip ⟨rfl, own, S, .refl w own, (Grow.refl w).extA own _⟩
  | label l =>
    intro st out own a w he S
    simp only [evC, Option.some.injEq] at he
    subst he
    exact wp_label ⟨rfl, own, S, .refl w own, (Grow.refl w).extA own _⟩
  | region id ops draw =>
    intro st out own a w he S
    simp only [evC] at he
    split at he
    · rename_i st' h1
      simp only [Option.some.injEq] at he
      subst he
      exact ZqM hn hm hK S h1 fun a' w' own' S' F E => ⟨rfl, own', S', F, E⟩
    · cases he
  | seq x y ihx ihy =>
    intro st out own a w he S
    simp only [evC] at he
    split at he
    · rename_i st1 h1
      refine wp_seq (wp_mono (ihx st _ own a w h1 S) fun e a1 w1 r => ?_)
      obtain ⟨rfl, own1, S1, F1, E1⟩ := r
      exact wp_mono (ihy st1 out own1 a1 w1 he S1) fun e a2 w2 r => r.after F1 E1
    · rename_i hne
      refine wp_seq (wp_mono (ihx st out own a w he S) fun e a1 w1 r => ?_)
      have hex : ∀ st, out ≠ .norm st := fun st hst => hne st (by rw [he, hst])
      have r' := r
      obtain ⟨h1, _⟩ := r
      cases out with
      | norm st => exact absurd rfl (hex st)
      | exit id st => subst h1; exact r'
      | goto l st => subst h1; exact r'
      | ret st => subst h1; exact r'
  | cond c x y ihx ihy =>
    intro st out own a w he S
    simp only [evC] at he
    split at he
    · rename_i t ht
      have hc : a.eval c = .bool t := (Zbc S ht).bool_inv
      refine wp_cond hc ?_
      cases t with
      | true => exact ihx st out own a w he S
      | false => exact ihy st out own a w he S
    · cases he
  | block id c ih =>
    intro st out own a w he S
    simp only [evC] at he
    refine wp_block ?_
    split at he
    · rename_i k st1 h1
      refine wp_mono (ih st _ own a w h1 S) fun e a1 w1 r => ?_
      obtain ⟨rfl, own1, S1, F1, E1⟩ := r
      cases hb : Nat.beq k id with
      | true =>
        rw [hb] at he
        simp only [cond_true, Option.some.injEq] at he
        subst he
        have := Nat.eq_of_beq_eq_true hb
        subst this
        simp only [Out.ex, Exit.inBlock, if_true]
        exact ⟨rfl, own1, S1.trim _, F1, E1⟩
      | false =>
        rw [hb] at he
        simp only [cond_false, Option.some.injEq] at he
        subst he
        simp only [Out.ex, Exit.inBlock, if_neg (beq_ne.1 hb)]
        exact ⟨rfl, own1, S1, F1, E1⟩
    · rename_i st1 h1
      simp only [Option.some.injEq] at he
      subst he
      refine wp_mono (ih st _ own a w h1 S) fun e a1 w1 r => ?_
      obtain ⟨rfl, own1, S1, F1, E1⟩ := r
      exact ⟨rfl, own1, S1.trim _, F1, E1⟩
    · rename_i hne1 hne2
      refine wp_mono (ih st out own a w he S) fun e a1 w1 r => ?_
      have r' := r
      obtain ⟨h1, _⟩ := r
      cases out with
      | norm st2 => exact absurd he (hne2 st2)
      | exit k st2 => exact absurd he (hne1 k st2)
      | goto l st2 => subst h1; exact r'
      | ret st2 => subst h1; exact r'
  | loop c ih =>
    intro st out own a w he S
    simp only [evC] at he
    exact Zvh (fun st out own a w h S => ih st out own a w h S) he S
  | exit id =>
    intro st out own a w he S
    simp only [evC, Option.some.injEq] at he
    subst he
    exact wp_exit ⟨rfl, own, S, .refl w own, (Grow.refl w).extA own _⟩
  | ret =>
    intro st out own a w he S
    simp only [evC, Option.some.injEq] at he
    subst he
    exact wp_ret ⟨rfl, own, S, .refl w own, (Grow.refl w).extA own _⟩
  | goto l =>
    intro st out own a w he S
    simp only [evC, Option.some.injEq] at he
    subst he
    exact wp_goto ⟨rfl, own, S, .refl w own, (Grow.refl w).extA own _⟩
  | rangeFunc f ps x y _ _ => intro st out own a w he S; simp [evC] at he
  | scope c _ => intro st out own a w he S; simp [evC] at he
  | refuse s => intro st out own a w he S; simp [evC] at he
theorem ZrG (S : SRel C.P fa own st a w) : ∀ {rs : List ResultVar} {vs : List AV}, Zcm C st rs = some vs → ∃ us : List Value, us.length = vs.length ∧
    (∀ g : ResultVar → Sem Value, (∀ t, g (.tmp t) = pure (a.tmps.getD t undef)) → (∀ s t, g (.cell s t) = asAddr (a.tmps.getD s undef) >>= loadVar t) → (rs.mapM g).run C.P w = .ok us w) ∧
    ∀ (i : Nat) u v, us[i]? = some u → vs[i]? = some v → ARep C.P w own st.heap u v := by
  intro rs
  induction rs with
  | nil =>
    intro vs he
    simp only [Zcm, Option.some.injEq] at he
    subst he
    exact ⟨[], rfl, fun g _ _ => by simp, fun i u v h => by simp at h⟩
  | cons r rs ih =>
    intro vs he
    cases r with
    | tmp t =>
      simp only [Zcm] at he
      split at he
      · rename_i v hv
        simp only [Option.map_eq_some_iff] at he
        obtain ⟨vs', h1, rfl⟩ := he
        obtain ⟨us, g1, g2, g3⟩ := ih h1
        have hr := ZbO S hv
        rw [ZkM] at hr
        refine ⟨a.tmps.getD t undef :: us, by simp [g1], fun g k1 k2 => ?_, fun i u v' hu hv' => ?_⟩
        · rw [List.mapM_cons, k1]
          simp only [Sem.run_bind, Sem.run_pure, Result.andThen_ok, g2 g k1 k2]
        · cases i with
          | zero => simp only [List.getElem?_cons_zero, Option.some.injEq] at hu hv'; subst hu; subst hv'; exact hr
          | succ i => simp only [List.getElem?_cons_succ] at hu hv'; exact g3 i u v' hu hv'
      · cases he
    | cell s t =>
      simp only [Zcm] at he
      split at he
      · rename_i p hp
        split at he
        · rename_i v hv
          simp only [Option.map_eq_some_iff] at he
          obtain ⟨vs', h1, rfl⟩ := he
          obtain ⟨us, g1, g2, g3⟩ := ih h1
          obtain ⟨b, off, u0, e1, e2, e3⟩ := ZqD S hp hv
          rw [ZkM] at e1
          refine ⟨u0 :: us, by simp [g1], fun g k1 k2 => ?_, fun i u v' hu hv' => ?_⟩
          · have ha : (asAddr (.pointer (some ⟨b, off, none⟩))).run C.P w = .ok ⟨b, off, none⟩ w := by simp [asAddr]
            rw [List.mapM_cons, k2]
            simp only [Sem.run_bind, Sem.run_pure, e1, ha, Result.andThen_ok, e2, g2 g k1 k2]
          · cases i with
            | zero => simp only [List.getElem?_cons_zero, Option.some.injEq] at hu hv'; subst hu; subst hv'; exact e3
            | succ i => simp only [List.getElem?_cons_succ] at hu hv'; exact g3 i u v' hu hv'
        · cases he
      · cases he
theorem ZkW {fn : Func} (S : SRel C.P fa own st a w) {vs : List AV} (he : Zcm C st fn.results.toList = some vs) : ∃ v, (results fn a.tmps).run C.P w = .ok v w ∧ ARep C.P w own st.heap v (Zbk vs) := by
  obtain ⟨us, h1, h2, h3⟩ := ZrG S he
  have hrun : (results fn a.tmps).run C.P w = .ok (if h : us.toArray.size = 1 then us.toArray[0] else .tuple us.toArray) w := by
    unfold results
    rw [Sem.run_bind, ← Array.toArray_toList (xs := fn.results), List.mapM_toArray, Sem.run_map]
    rw [h2 _ (fun _ => rfl) (fun _ _ => rfl)]
    simp only [Result.andThen_ok, Sem.run_pure]
  refine ⟨_, hrun, ?_⟩
  by_cases hl : us.length = 1
  · obtain ⟨u, rfl⟩ := List.length_eq_one_iff.1 hl
    obtain ⟨v, rfl⟩ : ∃ v, vs = [v] := List.length_eq_one_iff.1 (by rw [← h1]; rfl)
    exact h3 0 u v rfl rfl
  · have hs : ¬ us.toArray.size = 1 := by simpa using hl
    rw [dif_neg hs]
    have : Zbk vs = Zc1 vs := by
      unfold Zbk
      split
      · rename_i v; simp at h1; exact absurd h1 hl
      · rfl
    rw [this]
    exact ZqX (C := C) h1 h3
theorem ZiI {l : List Nat} : ∀ {n : Nat}, Ze7 l n = true → ∀ i, i < n → has l i = true := by
  intro n
  induction n with
  | zero => intro _ i hi; omega
  | succ n ih =>
    intro h i hi
    simp only [Ze7, Bool.and_eq_true] at h
    rcases Nat.lt_succ_iff_lt_or_eq.1 hi with h1 | rfl
    · exact ih h.2 i h1
    · exact h.1
theorem Zhr : ∀ (vs : List AV) (k s : Nat) (sv : SV), Zad (ZgN k vs) s = some sv → ∃ v, sv = .val v ∧ k ≤ s ∧ vs[s - k]? = some v := by
  intro vs
  induction vs with
  | nil => intro k s sv h; simp [ZgN, Zad] at h
  | cons v vs ih =>
    intro k s sv h
    simp only [ZgN, Zad] at h
    cases hb : Nat.beq k s with
    | true =>
      rw [hb] at h
      simp only [cond_true, Option.some.injEq] at h
      have := Nat.eq_of_beq_eq_true hb
      subst this
      exact ⟨v, h.symm, Nat.le_refl _, by simp⟩
    | false =>
      rw [hb] at h
      obtain ⟨u, h1, h2, h3⟩ := ih (k + 1) s sv h
      refine ⟨u, h1, by omega, ?_⟩
      rw [show s - k = (s - (k + 1)) + 1 by omega, List.getElem?_cons_succ]
      exact h3
theorem ZzD (hn : Za4 C.P) (hm : C.P.follows .mixedOrders = true) (hK : Za2 C.P call) {n : Nat} {f : FuncId} {args : List AV} {h h' : List AObj} {r : AV} (he : YcH C call n f args h = some (r, h')) : Has C.P f args h r h' := by
  unfold YcH at he
  split at he
  · rename_i fn hfn
    split at he
    · rename_i c hc
      cases hb : Nat.beq fn.ntmps (C.ann f).nt && Nat.ble args.length fn.ntmps && Ze7 (C.ann f).keep args.length with
      | false => rw [hb] at he; cases he
      | true =>
        rw [hb] at he
        simp only [Bool.and_eq_true] at hb
        obtain ⟨⟨b1, b2⟩, b3⟩ := hb
        have hnt : fn.ntmps = (C.ann f).nt := Nat.eq_of_beq_eq_true b1
        have hle : args.length ≤ fn.ntmps := Nat.le_of_ble_eq_true b2
        simp only [cond_true] at he
        refine ⟨⟨fn, hfn, by rw [hc]; rfl⟩, fun w own vs H hO hl hr => ?_⟩
        refine calls_of_wp hfn hc ?_
        have S : SRel C.P (C.ann f) own ⟨ZgN 0 args, [], h⟩ { tmps := vs ++ Array.replicate (fn.ntmps - vs.size) undef, defers := [] } w := by
          refine ⟨H, by simp; omega, rfl, fun s sv hs => ?_, fun t x ht => by simp [Zad] at ht, fun s sv hs => ?_, fun t x ht => by simp [Zad] at ht⟩
          · obtain ⟨v, _, _, h3⟩ := Zhr args 0 s sv hs
            exact ZiI b3 s (by have := (List.getElem?_eq_some_iff.1 h3).1; simpa using this)
          · obtain ⟨v, rfl, _, h3⟩ := Zhr args 0 s sv hs
            rw [Nat.sub_zero] at h3
            have hlt : s < vs.size := by rw [hl]; exact (List.getElem?_eq_some_iff.1 h3).1
            have hu := Array.getElem?_eq_getElem hlt
            have hg : (vs ++ Array.replicate (fn.ntmps - vs.size) undef).getD s undef = vs[s] := by
              rw [Array.getD_eq_getD_getElem?, Array.getElem?_append_left hlt, hu]; rfl
            simp only [SVRel]
            rw [hg]
            exact hr s _ v hu h3
        have fin : ∀ (st' : St), (match Zcm C st' fn.results.toList with
            | some vs => some (Zbk vs, st'.heap)
            | none => none) = some (r, h') → ∀ (a' : Act) (w' : World), (∃ own', SRel C.P (C.ann f) own' st' a' w' ∧ Frm w own w' own' ∧ ExtA w own h w' own' st'.heap) →
            a'.defers = [] ∧ ∃ v, (results fn a'.tmps).run C.P w' = .ok v w' ∧ ∃ v1 own', Ending.returned v = .returned v1 ∧ ZhT own' ∧ HRel C.P w' own' h' ∧ ARep C.P w' own' h' v1 r ∧ Frm w own w' own' ∧ ExtA w own h w' own' h' := by
          intro st' hres a' w' ⟨own', S', F, E⟩
          split at hres
          · rename_i vs' hvs
            simp only [Option.some.injEq, Prod.mk.injEq] at hres
            obtain ⟨rfl, rfl⟩ := hres
            obtain ⟨v, hv, hrep⟩ := ZkW S' hvs
            have E2 := Zfq w' own' st'.heap
            refine ⟨S'.defers, v, hv, v, ZlS own', rfl, Zim own', Zi4 S'.h, hrep.mono E2, F.trans ⟨rfl, rfl, rfl, Nat.le_refl _, fun b _ hb => ⟨rfl, ?_⟩⟩, E.trans E2⟩
            rcases hb with hb | ⟨f, hb⟩ <;> simp [ZlS, hb]
          · cases hres
        unfold Zeb at he
        split at he
        · rename_i st' hev
          refine wp_mono (ZgI hn hm hK n c _ _ own _ w hev S) fun e a' w' q => ?_
          obtain ⟨rfl, q⟩ := q
          exact fin st' he a' w' q
        · rename_i st' hev
          refine wp_mono (ZgI hn hm hK n c _ _ own _ w hev S) fun e a' w' q => ?_
          obtain ⟨rfl, q⟩ := q
          exact fin st' he a' w' q
        · cases he
    · cases he
  · cases he
theorem ZhY (hn : Za4 C.P) (hm : C.P.follows .mixedOrders = true) {K : Zaa} (hK : Za2 C.P K) : ∀ n, Za2 C.P (ZjS C K n)
  | 0 => fun f args h r h' he => by simp [ZjS] at he
  | n + 1 => fun f args h r h' he => by
    simp only [ZjS] at he
    split at he
    · rename_i r' hr
      simp only [Option.some.injEq] at he
      subst he
      exact hK f args h _ _ hr
    · exact ZzD hn hm (ZhY hn hm hK n) he
end
end Go.Abs
namespace Go.Abs
def Evt {X : Type} (F : Nat → Option X) (x : X) : Prop := ∃ N, ∀ n, N ≤ n → F n = some x
theorem Evt.uniq {X : Type} {F : Nat → Option X} {x y : X} (h : Evt F x) (k : Evt F y) : x = y := by
  obtain ⟨N, h⟩ := h
  obtain ⟨M, k⟩ := k
  have h1 := h (max N M) (Nat.le_max_left _ _)
  rw [k (max N M) (Nat.le_max_right _ _)] at h1
  simpa using h1.symm
theorem Evt.of {X : Type} {F : Nat → Option X} {x : X} (h : ∀ n, F n = some x) : Evt F x := ⟨0, fun n _ => h n⟩
open Classical in
noncomputable def Zab (C : Ctx) (K : Zaa) : Zaa := fun f args h => if e : ∃ r, Evt (fun n => ZjS C K n f args h) r then some (Classical.choose e) else none
section
variable {C : Ctx} {K : Zaa} {fa : FA}
theorem ZfB {f : FuncId} {args : List AV} {h : List AObj} {r : AV × List AObj} (he : Zab C K f args h = some r) : Evt (fun n => ZjS C K n f args h) r := by
  unfold Zab at he
  split at he
  · rename_i e
    simp only [Option.some.injEq] at he
    rw [← he]
    exact Classical.choose_spec e
  · cases he
theorem Zt1 {f : FuncId} {args : List AV} {h : List AObj} {r : AV × List AObj} (he : Evt (fun n => ZjS C K n f args h) r) : Zab C K f args h = some r := by
  unfold Zab
  have e : ∃ r, Evt (fun n => ZjS C K n f args h) r := ⟨r, he⟩
  rw [dif_pos e]
  exact congrArg some ((Classical.choose_spec e).uniq he)
theorem Zic {f : FuncId} {args : List AV} {h : List AObj} {r : AV × List AObj} (he : K f args h = some r) : Zab C K f args h = some r :=
  Zt1 ⟨1, fun n hn => by
    obtain ⟨m, rfl⟩ : ∃ m, n = m + 1 := ⟨n - 1, by omega⟩
    simp only [ZjS, he]⟩
theorem Zlo (hn : Za4 C.P) (hm : C.P.follows .mixedOrders = true) (hK : Za2 C.P K) : Za2 C.P (Zab C K) := by
  intro f args h r h' he
  obtain ⟨N, hN⟩ := ZfB he
  exact ZhY hn hm hK N f args h r h' (hN N (Nat.le_refl _))
abbrev cv (C : Ctx) (K : Zaa) (n : Nat) : Zaa := ZjS C K n
theorem Zq2 {frz : Bool} {f : FuncId} {ds : List DV} {r : DV} (he : Zci (Zab C K) frz f ds = some r) : Evt (fun n => Zci (cv C K n) frz f ds) r := by
  unfold Zci at he
  split at he
  · rename_i r' hc hcall
    obtain ⟨N, hN⟩ := ZfB hcall
    refine ⟨N, fun n hn => ?_⟩
    unfold Zci
    simp only [cv, hN n hn]
    exact he
  · rename_i rv hc hne hcall
    obtain ⟨N, hN⟩ := ZfB hcall
    refine ⟨N, fun n hn => ?_⟩
    unfold Zci
    simp only [cv, hN n hn]
    cases rv with
    | d x => exact absurd rfl (hne x)
    | _ => exact he
  · cases he
theorem ZxA {f : FuncId} {args : List AV} {h : List AObj} {r : AV × List AObj} (he : ZhV (Zab C K) f args h = some r) : Evt (fun n => ZhV (cv C K n) f args h) r := by
  unfold ZhV at he
  split at he
  · rename_i ds hds
    split at he
    · rename_i r0 hc hcall
      obtain ⟨N, hN⟩ := ZfB hcall
      refine ⟨N, fun n hn => ?_⟩
      unfold ZhV
      simp only [hds, cv, hN n hn]
      exact he
    · cases he
  · rename_i hds
    obtain ⟨N, hN⟩ := ZfB he
    refine ⟨N, fun n hn => ?_⟩
    unfold ZhV
    simp only [hds, cv, hN n hn]
theorem Zqa {o : Oper} {st : St} {x : XV} (he : ZaY C (Zab C K) fa o st = some x) : Evt (fun n => ZaY C (cv C K n) fa o st) x := by
  unfold ZaY at he ⊢
  cases hop : o.op <;> rw [hop] at he
  case makeFunc f _ _ => cases f <;> exact .of fun _ => he
  case slice mx => cases mx <;> exact .of fun _ => he
  case makeMap r => cases r <;> exact .of fun _ => he
  all_goals (try (exact .of fun _ => he))
  rename_i c
  simp only at he ⊢
  cases hc : c.callee <;> simp only [hc] at he ⊢ <;> (try (exact .of fun _ => he))
  rename_i g
  cases hg : opA st g <;> cases ha : Za3 st c.args.toList <;> simp only [hg, ha] at he ⊢ <;> (try (cases he; done))
  rename_i fv vs
  cases hf : Zka fv <;> simp only [hf] at he ⊢ <;> (try (cases he; done))
  rename_i p
  obtain ⟨f, caps⟩ := p
  simp only at he ⊢
  cases hl : Za0 fa.lend o.dst <;> simp only [hl, cond_true, cond_false] at he ⊢
  · cases hd : Zeh (vs ++ caps) <;> simp only [hd] at he ⊢
    · cases he
    · rename_i ds
      cases hcd : Zci (Zab C K) (Za0 fa.frz o.dst) f ds with
      | none => rw [hcd] at he; cases he
      | some d =>
        rw [hcd] at he
        obtain ⟨N, hN⟩ := Zq2 hcd
        exact ⟨N, fun n hn => by simp only [hN n hn]; exact he⟩
  · cases hd : ZdO st.heap (vs ++ caps) <;> simp only [hd] at he ⊢
    · cases he
    · rename_i p
      obtain ⟨ds, k⟩ := p
      simp only at he ⊢
      cases hcd : Zci (Zab C K) false f ds with
      | none => rw [hcd] at he; cases he
      | some d =>
        rw [hcd] at he
        obtain ⟨N, hN⟩ := Zq2 hcd
        exact ⟨N, fun n hn => by simp only [hN n hn]; exact he⟩
theorem Zwu {o : Oper} {st st' : St} (he : Zck C (Zab C K) fa o st = some st') : Evt (fun n => Zck C (cv C K n) fa o st) st' := by
  unfold Zck at he ⊢
  cases hop : o.op <;> rw [hop] at he
  case makeFunc f _ _ => cases f <;> exact .of fun _ => he
  case slice mx => cases mx <;> exact .of fun _ => he
  case makeMap r => cases r <;> exact .of fun _ => he
  all_goals (try (exact .of fun _ => he))
  rename_i c
  simp only at he ⊢
  cases hc : c.callee <;> simp only [hc] at he ⊢ <;> (try (exact .of fun _ => he))
  rename_i g
  cases hg : opA st g <;> cases ha : Za3 st c.args.toList <;> simp only [hg, ha] at he ⊢ <;> (try (cases he; done))
  rename_i fv vs
  cases hf : Zka fv <;> simp only [hf] at he ⊢ <;> (try (cases he; done))
  rename_i p
  obtain ⟨f, caps⟩ := p
  simp only at he ⊢
  cases hl : Za0 fa.lend o.dst <;> simp only [hl, cond_true, cond_false] at he ⊢
  · cases hcd : ZhV (Zab C K) f (vs ++ caps) st.heap with
    | none => rw [hcd] at he; cases he
    | some d =>
      rw [hcd] at he
      obtain ⟨N, hN⟩ := ZxA hcd
      exact ⟨N, fun n hn => by simp only [hN n hn]; exact he⟩
  · cases he
theorem ZuH {o : Oper} {st st' : St} (hv : ZaY C (Zab C K) fa o st = none) (he : Zck C (Zab C K) fa o st = some st') : ∃ N, ∀ n, N ≤ n → ZaY C (cv C K n) fa o st = none := by
  unfold ZaY at hv ⊢
  unfold Zck at he
  cases hop : o.op <;> rw [hop] at he hv
  case makeFunc f _ _ => cases f <;> exact ⟨0, fun _ _ => hv⟩
  case slice mx => cases mx <;> exact ⟨0, fun _ _ => hv⟩
  case makeMap r => cases r <;> exact ⟨0, fun _ _ => hv⟩
  all_goals (try (exact ⟨0, fun _ _ => hv⟩))
  rename_i c
  simp only at he hv ⊢
  cases hc : c.callee <;> simp only [hc] at he hv ⊢ <;> (try (exact ⟨0, fun _ _ => hv⟩))
  rename_i g
  cases hg : opA st g <;> cases ha : Za3 st c.args.toList <;> simp only [hg, ha] at he hv ⊢ <;> (try (cases he; done))
  rename_i fv vs
  cases hf : Zka fv <;> simp only [hf] at he hv ⊢ <;> (try (cases he; done))
  rename_i p
  obtain ⟨f, caps⟩ := p
  simp only at he hv ⊢
  cases hl : Za0 fa.lend o.dst <;> simp only [hl, cond_true, cond_false] at he hv ⊢
  · cases hd : Zeh (vs ++ caps) <;> simp only [hd] at he hv ⊢
    · exact ⟨0, fun _ _ => by simp⟩
    · rename_i ds
      cases hcd : ZhV (Zab C K) f (vs ++ caps) st.heap with
      | none => rw [hcd] at he; cases he
      | some d =>
        unfold ZhV at hcd
        rw [hd] at hcd
        simp only at hcd
        have hda := Zeo hd
        rw [hda] at hcd
        cases hcall : Zab C K f (ds.map .d) [] with
        | none => rw [hcall] at hcd; cases hcd
        | some p =>
          obtain ⟨r, hc⟩ := p
          obtain ⟨N, hN⟩ := ZfB hcall
          refine ⟨N, fun n hn => ?_⟩
          unfold Zci at hv ⊢
          simp only [hcall] at hv
          simp only [cv, hN n hn]
          cases r with
          | d x => cases hv
          | _ => exact hv
  · cases he
theorem ZyB {o : Oper} {st st' : St} (he : Zjf C (Zab C K) fa o st = some st') : Evt (fun n => Zjf C (cv C K n) fa o st) st' := by
  unfold Zjf at he
  split at he
  · rename_i x hx
    obtain ⟨N, hN⟩ := Zqa hx
    exact ⟨N, fun n hn => by have h1 := hN n hn; simp only [Zjf] at h1 ⊢; rw [h1]; exact he⟩
  · rename_i hx
    obtain ⟨N, hN⟩ := ZuH hx he
    obtain ⟨M, hM⟩ := Zwu he
    exact ⟨max N M, fun n hn => by have h1 := hN n (by omega); have h2 := hM n (by omega); simp only [Zjf] at h1 h2 ⊢; rw [h1]; exact h2⟩
theorem Znv {all : List Oper} {q : Bool} {o : Oper} {st st' : St} (he : ZaB C (Zab C K) fa all q o st = some st') : Evt (fun n => ZaB C (cv C K n) fa all q o st) st' := by
  unfold ZaB at he ⊢
  cases hw : ZaQ all o st <;> simp only [hw] at he ⊢
  · cases he
  · rename_i b
    cases b <;> simp only at he ⊢
    · exact .of fun _ => he
    · cases q <;> simp only [cond_true, cond_false] at he ⊢
      · exact ZyB he
      · cases hv : ZaY C (Zab C K) fa o st with
        | none => rw [hv] at he; cases he
        | some x =>
          rw [hv] at he
          obtain ⟨N, hN⟩ := Zqa hv
          exact ⟨N, fun n hn => by simp only [hN n hn]; exact he⟩
theorem ZqB {all : List Oper} : ∀ {l : List Oper} {st st' : St}, Zai C (Zab C K) fa all l st = some st' → Evt (fun n => Zai C (cv C K n) fa all l st) st'
  | [], st, st', he => .of fun _ => he
  | o :: l, st, st', he => by
    simp only [Zai] at he
    cases h1 : ZaB C (Zab C K) fa all false o st with
    | none => rw [h1] at he; cases he
    | some st1 =>
      rw [h1] at he
      obtain ⟨N, hN⟩ := Znv h1
      obtain ⟨M, hM⟩ := ZqB (l := l) he
      exact ⟨max N M, fun n hn => by simp only [Zai, hN n (by omega)]; exact hM n (by omega)⟩
theorem ZmR {all : List Oper} : ∀ {qs : List Bool} {l : List Oper} {st st' : St}, ZfG C (Zab C K) fa all qs l st = some st' → Evt (fun n => ZfG C (cv C K n) fa all qs l st) st'
  | [], [], st, st', he => .of fun _ => he
  | _ :: _, [], st, st', he => .of fun _ => he
  | [], _ :: _, st, st', he => by simp [ZfG] at he
  | q :: qs, o :: l, st, st', he => by
    simp only [ZfG] at he
    cases h1 : ZaB C (Zab C K) fa all q o st with
    | none => rw [h1] at he; cases he
    | some st1 =>
      rw [h1] at he
      obtain ⟨N, hN⟩ := Znv h1
      obtain ⟨M, hM⟩ := ZmR (qs := qs) (l := l) he
      exact ⟨max N M, fun n hn => by simp only [ZfG, hN n (by omega)]; exact hM n (by omega)⟩
theorem ZqS {draw : Bool} {ops : List Oper} {st st' : St} (he : Zew C (Zab C K) fa draw ops st = some st') : Evt (fun n => Zew C (cv C K n) fa draw ops st) st' := by
  unfold Zew at he ⊢
  cases draw <;> simp only [cond_true, cond_false] at he ⊢
  · exact ZqB he
  · cases hd : Zp2 fa ops <;> simp only [hd, cond_true, cond_false] at he ⊢
    · cases he
    · exact ZmR he
theorem ZtS {f : St → Option Out} {g : Nat → St → Option Out} {e0 : List (Nat × SV)} (hf : ∀ st out, f st = some out → Evt (fun n => g n st) out) : ∀ (k : Nat) (st : St) (out : Out), iter f e0 k st = some out →
    ∃ N, ∀ n, N ≤ n → ∀ j, k ≤ j → iter (g n) e0 j st = some out
  | 0, st, out, he => by simp [iter] at he
  | k + 1, st, out, he => by
    simp only [iter] at he
    cases h1 : f st with
    | none => rw [h1] at he; cases he
    | some o1 =>
      rw [h1] at he
      obtain ⟨N, hN⟩ := hf st o1 h1
      cases o1 with
      | norm st1 =>
        simp only at he
        obtain ⟨M, hM⟩ := ZtS hf k (st1.trim e0) out he
        refine ⟨max N M, fun n hn j hj => ?_⟩
        obtain ⟨i, rfl⟩ : ∃ i, j = i + 1 := ⟨j - 1, by omega⟩
        simp only [iter, hN n (by omega)]
        exact hM n (by omega) i (by omega)
      | _ =>
        simp only at he
        refine ⟨N, fun n hn j hj => ?_⟩
        obtain ⟨i, rfl⟩ : ∃ i, j = i + 1 := ⟨j - 1, by omega⟩
        simp only [iter, hN n hn]
        exact he
theorem YbT (m : Nat) : ∀ (c : Code) (st : St) (out : Out), evC C (Zab C K) fa m c st = some out → Evt (fun n => evC C (cv C K n) fa n c st) out := by
  intro c
  induction c with
  | skip => exact fun st out he => .of fun _ => he
  | label l => exact fun st out he => .of fun _ => he
  | exit id => exact fun st out he => .of fun _ => he
  | goto l => exact fun st out he => .of fun _ => he
  | ret => exact fun st out he => .of fun _ => he
  | rangeFunc f ps x y _ _ => intro st out he; simp [evC] at he
  | scope c _ => intro st out he; simp [evC] at he
  | refuse s => intro st out he; simp [evC] at he
  | region id ops draw =>
    intro st out he
    simp only [evC] at he ⊢
    cases h1 : Zew C (Zab C K) fa draw ops.toList st with
    | none => rw [h1] at he; cases he
    | some st1 =>
      rw [h1] at he
      obtain ⟨N, hN⟩ := ZqS h1
      exact ⟨N, fun n hn => by simp only [hN n hn]; exact he⟩
  | seq x y ihx ihy =>
    intro st out he
    simp only [evC] at he ⊢
    cases h1 : evC C (Zab C K) fa m x st with
    | none => rw [h1] at he; cases he
    | some o1 =>
      rw [h1] at he
      obtain ⟨N, hN⟩ := ihx st o1 h1
      cases o1 with
      | norm st1 =>
        simp only at he
        obtain ⟨M, hM⟩ := ihy st1 out he
        exact ⟨max N M, fun n hn => by simp only [hN n (by omega)]; exact hM n (by omega)⟩
      | _ => exact ⟨N, fun n hn => by simp only [hN n hn]; exact he⟩
  | cond c x y ihx ihy =>
    intro st out he
    simp only [evC] at he ⊢
    cases hc : opD st c with
    | none => rw [hc] at he; cases he
    | some d =>
      rw [hc] at he
      cases d <;> simp only at he ⊢ <;> (try (cases he; done))
      rename_i b
      cases b <;> simp only [cond_true, cond_false] at he ⊢
      · exact ihy st out he
      · exact ihx st out he
  | block id c ih =>
    intro st out he
    simp only [evC] at he ⊢
    cases h1 : evC C (Zab C K) fa m c st with
    | none => rw [h1] at he; cases he
    | some o1 =>
      rw [h1] at he
      obtain ⟨N, hN⟩ := ih st o1 h1
      exact ⟨N, fun n hn => by simp only [hN n hn]; exact he⟩
  | loop c ih =>
    intro st out he
    simp only [evC] at he ⊢
    obtain ⟨N, hN⟩ := ZtS (f := evC C (Zab C K) fa m c) (g := fun n => evC C (cv C K n) fa n c) (fun st out h => ih st out h) m st out he
    exact ⟨max N m, fun n hn => hN n (by omega) n (by omega)⟩
theorem Yac {m : Nat} {f : FuncId} {args : List AV} {h : List AObj} {r : AV × List AObj} (hK : K f args h = none) (he : YcH C (Zab C K) m f args h = some r) : Zab C K f args h = some r := by
  refine Zt1 ?_
  unfold YcH at he
  cases hf : C.P.funcs[f]? with
  | none => rw [hf] at he; cases he
  | some fn =>
    rw [hf] at he
    simp only at he
    cases hb : fn.body with
    | none => rw [hb] at he; cases he
    | some c =>
      rw [hb] at he
      simp only at he
      cases hc : Nat.beq fn.ntmps (C.ann f).nt && Nat.ble args.length fn.ntmps && Ze7 (C.ann f).keep args.length with
      | false => rw [hc] at he; cases he
      | true =>
        rw [hc] at he
        simp only [cond_true] at he
        cases ho : evC C (Zab C K) (C.ann f) m c ⟨ZgN 0 args, [], h⟩ with
        | none => rw [ho] at he; simp [Zeb] at he
        | some out =>
          rw [ho] at he
          obtain ⟨N, hN⟩ := YbT m c _ out ho
          refine ⟨N + 1, fun n hn => ?_⟩
          obtain ⟨j, rfl⟩ : ∃ j, n = j + 1 := ⟨n - 1, by omega⟩
          have hj := hN j (by omega)
          simp only [ZjS, hK, YcH, hf, hb, hc, cond_true]
          rw [show evC C (ZjS C K j) (C.ann f) j c ⟨ZgN 0 args, [], h⟩ = some out from hj]
          exact he
end
end Go.Abs
namespace Go.Abs
def ZiB : Op → Bool
  | .alloc _ => true
  | .box _ _ => true
  | .store _ _ _ => true
  | .mapUpdate _ _ _ _ => true
  | .makeMap _ _ => true
  | .makeSlice _ _ _ => true
  | .call { callee := .builtin .append, .. } => true
  | .call { callee := .builtin .delete, .. } => true
  | _ => false
def Zbz (fa : FA) (o : Oper) : Bool := ZiB o.op || Zce fa o.dst
def Zcf (C : Ctx) (call : Zaa) (fa : FA) (draw : Bool) (all : List Oper) : List Oper → St → Option St
  | [], st => some st
  | o :: r, st => match ZaB C call fa all (draw && !Zbz fa o) o st with
    | some st' => Zcf C call fa draw all r st'
    | none => none
def ZoL (fa : FA) (draw : Bool) (ops : List Oper) : Bool := bif draw then Zp2 fa ops &&
    (let anc := (List.range ops.length).map (ZnK ops)
     (List.range ops.length).all fun j => Zou ops anc j || (match ops[j]? with | some o => !Zbz fa o || ZaE fa o | none => false)) else true
def okC (fa : FA) : Code → Bool
  | .region _ ops draw => ZoL fa draw ops.toList
  | .seq a b => okC fa a && okC fa b
  | .cond _ a b => okC fa a && okC fa b
  | .block _ c => okC fa c
  | .loop c => okC fa c
  | _ => true
def evQ (C : Ctx) (call : Zaa) (fa : FA) (n : Nat) : Code → St → Option Out
  | .skip, st => some (.norm st)
  | .label _, st => some (.norm st)
  | .region _ ops draw, st => match Zcf C call fa draw ops.toList ops.toList st with
    | some st' => some (.norm { st' with tmp := [] })
    | none => none
  | .seq a b, st => match evQ C call fa n a st with
    | some (.norm st') => evQ C call fa n b st'
    | r => r
  | .cond c a b, st => match opD st c with
    | some (.bool t) => bif t then evQ C call fa n a st else evQ C call fa n b st
    | _ => none
  | .block id c, st => match evQ C call fa n c st with
    | some (.exit k st') => bif Nat.beq k id then some (.norm (st'.trim st.env)) else some (.exit k st')
    | some (.norm st') => some (.norm (st'.trim st.env))
    | r => r
  | .loop c, st => iter (evQ C call fa n c) st.env n st
  | .exit id, st => some (.exit id st)
  | .ret, st => some (.ret st)
  | .goto l, st => some (.goto l st)
  | _, _ => none
section
variable {C : Ctx} {call : Zaa} {fa : FA}
theorem ZfL (n : Nat) (st : St) : evQ C call fa n .skip st = some (.norm st) := rfl
theorem ZdV (n l : Nat) (st : St) : evQ C call fa n (.label l) st = some (.norm st) := rfl
theorem ZcD (n id : Nat) (ops : Array Oper) (draw : Bool) (st : St) : evQ C call fa n (.region id ops draw) st = match Zcf C call fa draw ops.toList ops.toList st with
    | some st' => some (.norm { st' with tmp := [] })
    | none => none := rfl
theorem Zjp (n : Nat) (a b : Code) (st : St) : evQ C call fa n (.seq a b) st = match evQ C call fa n a st with
    | some (.norm st') => evQ C call fa n b st'
    | r => r := rfl
theorem ZfJ (n : Nat) (c : Operand) (a b : Code) (st : St) : evQ C call fa n (.cond c a b) st = match opD st c with
    | some (.bool t) => bif t then evQ C call fa n a st else evQ C call fa n b st
    | _ => none := rfl
theorem ZdR (n id : Nat) (c : Code) (st : St) : evQ C call fa n (.block id c) st = match evQ C call fa n c st with
    | some (.exit k st') => bif Nat.beq k id then some (.norm (st'.trim st.env)) else some (.exit k st')
    | some (.norm st') => some (.norm (st'.trim st.env))
    | r => r := rfl
theorem ZfH (n : Nat) (c : Code) (st : St) : evQ C call fa n (.loop c) st = iter (evQ C call fa n c) st.env n st := rfl
theorem ZfF (n id : Nat) (st : St) : evQ C call fa n (.exit id) st = some (.exit id st) := rfl
theorem Zjz (n : Nat) (st : St) : evQ C call fa n .ret st = some (.ret st) := rfl
theorem Zfo (n l : Nat) (st : St) : evQ C call fa n (.goto l) st = some (.goto l st) := rfl
theorem ZoC {all : List Oper} {q q' : Bool} {o : Oper} {st st' : St} (hq : q' = true → q = true) (h : ZaB C call fa all q o st = some st') : ZaB C call fa all q' o st = some st' := by
  cases q' with
  | true => rw [hq rfl] at h; exact h
  | false =>
    cases q with
    | false => exact h
    | true =>
      unfold ZaB at h ⊢
      cases hw : ZaQ all o st with
      | none => rw [hw] at h; cases h
      | some b =>
        rw [hw] at h
        cases b with
        | false => exact h
        | true =>
          simp only [cond_true, cond_false] at h ⊢
          unfold Zjf
          cases hv : ZaY C call fa o st with
          | none => rw [hv] at h; cases h
          | some x => rw [hv] at h; exact h
theorem Zke (all : List Oper) : ∀ (l : List Oper) (st : St), Zcf C call fa false all l st = Zai C call fa all l st
  | [], st => rfl
  | o :: l, st => by
    simp only [Zcf, Zai, Bool.false_and]
    cases ZaB C call fa all false o st with
    | none => rfl
    | some st1 => exact Zke all l st1
theorem ZlC (all : List Oper) : ∀ (l : List Oper) (qs : List Bool) (st st' : St), l.length = qs.length → (∀ (j : Nat) o q, l[j]? = some o → qs[j]? = some q → q = true → Zbz fa o = false) →
    Zcf C call fa true all l st = some st' → ZfG C call fa all qs l st = some st'
  | [], [], st, st', _, _, h => h
  | [], _ :: _, st, st', hl, _, h => by simp at hl
  | _ :: _, [], st, st', hl, _, h => by simp at hl
  | o :: l, q :: qs, st, st', hl, hq, h => by
    simp only [Zcf, Bool.true_and] at h
    cases h1 : ZaB C call fa all (!Zbz fa o) o st with
    | none => rw [h1] at h; cases h
    | some st1 =>
      rw [h1] at h
      have h2 := ZoC (q' := q) (fun hqt => by rw [hq 0 o q rfl rfl hqt]; rfl) h1
      simp only [ZfG, h2]
      exact ZlC all l qs st1 st' (by simpa using hl) (fun j o' q' h3 h4 => hq (j + 1) o' q' (by simpa using h3) (by simpa using h4)) h
theorem Zrt {draw : Bool} {ops : List Oper} {st st' : St} (hok : ZoL fa draw ops = true) (h : Zcf C call fa draw ops ops st = some st') : Zew C call fa draw ops st = some st' := by
  unfold Zew
  cases draw with
  | false => rw [Zke] at h; exact h
  | true =>
    unfold ZoL at hok
    simp only [cond_true, Bool.and_eq_true] at hok
    simp only [cond_true, hok.1]
    refine ZlC ops ops (Zdn fa ops) st st' (by simp [Zdn]) (fun j o q hj hq hqt => ?_) h
    have hlt : j < ops.length := (List.getElem?_eq_some_iff.1 hj).1
    have h2 := hok.2
    rw [List.all_eq_true] at h2
    have h3 := h2 j (List.mem_range.2 hlt)
    unfold Zdn at hq
    simp only [List.getElem?_map, List.getElem?_range hlt, Option.map_some, Option.some.injEq] at hq
    rw [← hq, Bool.and_eq_true] at hqt
    obtain ⟨hq1, hq2⟩ := hqt
    simp only [Bool.not_eq_true'] at hq1 hq2
    simp only [Ydr, hj] at hq2
    rw [hq1, hj, Bool.false_or] at h3
    simp only [hq2, Bool.or_false] at h3
    simpa using h3
theorem Zir {f g : St → Option Out} {e0 : List (Nat × SV)} (h : ∀ st out, f st = some out → g st = some out) : ∀ (n : Nat) (st : St) (out : Out), iter f e0 n st = some out → iter g e0 n st = some out
  | 0, st, out, he => by simp [iter] at he
  | n + 1, st, out, he => by
    simp only [iter] at he ⊢
    cases h1 : f st with
    | none => rw [h1] at he; cases he
    | some o =>
      rw [h1] at he
      rw [h st o h1]
      cases o with
      | norm st1 => exact Zir h n _ out he
      | _ => exact he
theorem ZhD (n : Nat) : ∀ (c : Code) (st : St) (out : Out), okC fa c = true → evQ C call fa n c st = some out → evC C call fa n c st = some out := by
  intro c
  induction c with
  | skip => exact fun st out _ he => he
  | label l => exact fun st out _ he => he
  | exit id => exact fun st out _ he => he
  | goto l => exact fun st out _ he => he
  | ret => exact fun st out _ he => he
  | rangeFunc f ps x y _ _ => intro st out _ he; simp [evQ] at he
  | scope c _ => intro st out _ he; simp [evQ] at he
  | refuse s => intro st out _ he; simp [evQ] at he
  | region id ops draw =>
    intro st out hok he
    simp only [evQ] at he
    simp only [okC] at hok
    cases h1 : Zcf C call fa draw ops.toList ops.toList st with
    | none => rw [h1] at he; cases he
    | some st1 =>
      rw [h1] at he
      simp only [evC, Zrt hok h1]
      exact he
  | seq x y ihx ihy =>
    intro st out hok he
    simp only [okC, Bool.and_eq_true] at hok
    simp only [evQ] at he
    cases h1 : evQ C call fa n x st with
    | none => rw [h1] at he; cases he
    | some o1 =>
      rw [h1] at he
      simp only [evC, ihx st o1 hok.1 h1]
      cases o1 with
      | norm st1 => exact ihy st1 out hok.2 he
      | _ => exact he
  | cond c x y ihx ihy =>
    intro st out hok he
    simp only [okC, Bool.and_eq_true] at hok
    simp only [evQ] at he
    simp only [evC]
    cases hc : opD st c with
    | none => rw [hc] at he; cases he
    | some d =>
      rw [hc] at he
      cases d <;> simp only at he ⊢ <;> (try (cases he; done))
      rename_i b
      cases b <;> simp only [cond_true, cond_false] at he ⊢
      · exact ihy st out hok.2 he
      · exact ihx st out hok.1 he
  | block id c ih =>
    intro st out hok he
    simp only [okC] at hok
    simp only [evQ] at he
    cases h1 : evQ C call fa n c st with
    | none => rw [h1] at he; cases he
    | some o1 =>
      rw [h1] at he
      simp only [evC, ih st o1 hok h1]
      exact he
  | loop c ih =>
    intro st out hok he
    simp only [okC] at hok
    simp only [evQ] at he
    simp only [evC]
    exact Zir (fun st out h => ih st out hok h) n st out he
def okF (fa : FA) (fn : Func) (k : Nat) : Bool := Nat.beq fn.ntmps fa.nt && Nat.ble k fn.ntmps && Ze7 fa.keep k && (match fn.body with | some c => okC fa c | none => false)
def Zac (fn : Func) : Code := fn.body.getD .skip
theorem Zrw {K : Zaa} {f : FuncId} {fn : Func} {args : List AV} {h : List AObj} {r : AV × List AObj} {out : Out} (m : Nat) (hK : K f args h = none) (hf : C.P.funcs[f]? = some fn) (hok : okF (C.ann f) fn args.length = true)
    (hev : evQ C (Zab C K) (C.ann f) m (Zac fn) ⟨ZgN 0 args, [], h⟩ = some out) (hr : Zeb C fn (some out) = some r) : Zab C K f args h = some r := by
  unfold okF at hok
  simp only [Bool.and_eq_true] at hok
  obtain ⟨⟨⟨h1, h2⟩, h3⟩, h4⟩ := hok
  refine Yac (m := m) hK ?_
  unfold YcH
  rw [hf]
  simp only
  cases hb : fn.body with
  | none => rw [hb] at h4; cases h4
  | some c =>
    rw [hb] at h4
    simp only at h4
    have hc : Zac fn = c := by simp [Zac, hb]
    rw [hc] at hev
    simp only [h1, h2, h3, Bool.and_self, cond_true]
    rw [ZhD m c _ out h4 hev]
    exact hr
theorem ZsN {K : Zaa} {f : FuncId} {fn : Func} {args : List AV} {h : List AObj} {r : AV × List AObj} (m : Nat) (hK : K f args h = none) (hf : C.P.funcs[f]? = some fn) (hok : okF (C.ann f) fn args.length = true)
    (hev : Zeb C fn (evQ C (Zab C K) (C.ann f) m (Zac fn) ⟨ZgN 0 args, [], h⟩) = some r) : Zab C K f args h = some r := by
  cases ho : evQ C (Zab C K) (C.ann f) m (Zac fn) ⟨ZgN 0 args, [], h⟩ with
  | none => rw [ho] at hev; simp [Zeb] at hev
  | some out => rw [ho] at hev; exact Zrw m hK hf hok ho hev
def Zfl {α β : Type} (step : Nat → β → α → β ⊕ Out) (fin : Nat → β → Out) : Nat → β → List α → Out
  | i, b, [] => fin i b
  | i, b, v :: r => match step i b v with
    | .inl b' => Zfl step fin (i + 1) b' r
    | .inr o => o
def evL (C : Ctx) (call : Zaa) (fa : FA) (n : Nat) : List Code → St → Option Out
  | [], st => some (.norm st)
  | c :: r, st => match evQ C call fa n c st with
    | some (.norm st') => evL C call fa n r st'
    | x => x
def Zz5 : Code → Code
  | .block _ c => c
  | .loop c => c
  | .cond _ a _ => a
  | c => c
def other : Code → Code
  | .cond _ _ b => b
  | c => c
end
end Go.Abs
