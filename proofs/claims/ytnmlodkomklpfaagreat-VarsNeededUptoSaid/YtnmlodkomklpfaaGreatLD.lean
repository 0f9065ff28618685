/- A certified evaluator for the walked functions, and their contracts, for the laws of the variables. -/
import Derived.Test.YtnmlodkomklpfaaGreatLC
import Derived.Great.BuildSlice
import Derived.Great.FillDense
set_option linter.unusedVariables false
set_option linter.unusedSimpArgs false
namespace Go.Abs
structure Grow (w w' : World) : Prop where
  os : w'.os = w.os
  tape : w'.tape = w.tape
  output : w'.output = w.output
  size : w.heap.size ≤ w'.heap.size
  blk : ∀ b, b < w.heap.size → w'.heap[b]? = w.heap[b]?
theorem Grow.refl (w : World) : Grow w w := ⟨rfl, rfl, rfl, Nat.le_refl _, fun _ _ => rfl⟩
theorem Grow.alloc (w : World) (x : Obj) : Grow w (w.alloc x) := ⟨rfl, rfl, rfl, by simp, fun b hb => by
  show (w.heap.push x)[b]? = _
  rw [Array.getElem?_push, if_neg (by omega)]⟩
theorem ZaN {w : World} {b : Nat} {x : Obj} (h : w.heap[b]? = some x) : b < w.heap.size := (Array.getElem?_eq_some_iff.1 h).1
theorem Zdc {w : World} {b o : Nat} {v : Value} (h : w.cell? ⟨b, o, none⟩ = some v) : b < w.heap.size := by
  rcases Nat.lt_or_ge b w.heap.size with hb | hb
  · exact hb
  · simp [World.cell?, Array.getElem?_eq_none hb] at h
theorem ZbQ {w w' : World} {b : Nat} (h : w'.heap[b]? = w.heap[b]?) (o : Nat) : w'.cell? ⟨b, o, none⟩ = w.cell? ⟨b, o, none⟩ := by simp [World.cell?, h]
theorem Grow.ext {w w' : World} (g : Grow w w') (own : Own) : Ext w own w' own :=
  ⟨fun b o v hc hp => ⟨by rw [ZbQ (g.blk b (Zdc hc)), hc], hp⟩, fun b es c hc hp => ⟨by rw [g.blk b (ZaN hc), hc], hp⟩⟩
theorem Grow.extA {w w' : World} (g : Grow w w') (own : Own) (h : List AObj) : ExtA w own h w' own h :=
  ⟨g.ext own, Nat.le_refl _, fun id x x' h1 h2 => by rw [h1] at h2; simp only [Option.some.injEq] at h2; subst h2; exact AObj.later_refl x,
    fun b id x x' hb _ _ _ => ⟨hb, fun c T fr hc => ⟨c, by rw [g.blk b (ZaN hc), hc], rfl⟩⟩⟩
theorem Grow.keep {P : Program} {w w' : World} {own : Own} {h : List AObj} (g : Grow w w') (H : HRel P w own h) (x : Owner) : Keep w own w' own x :=
  fun b f hb => ⟨hb, g.blk b (H.lt b _ hb)⟩
theorem HRel.grow {P : Program} {w w' : World} {own : Own} {h : List AObj} (H : HRel P w own h) (g : Grow w w') : HRel P w' own h :=
  ⟨fun id x hx => let ⟨b, hb, hr⟩ := H.obj id x hx; ⟨b, hb, hr.mono (g.extA own h) (g.blk b (H.lt b _ hb))⟩, H.uniq,
    fun b x hb => Nat.lt_of_lt_of_le (H.lt b x hb) g.size, H.idlt⟩
theorem SRel.grow {P : Program} {fa : FA} {own : Own} {st : St} {a : Act} {w w' : World} (S : SRel P fa own st a w) (g : Grow w w') : SRel P fa own st a w' :=
  ⟨S.h.grow g, S.nt, S.defers, S.ek, S.tk, fun s sv hs => (S.env s sv hs).mono (g.extA own st.heap) (g.keep S.h _) (g.keep S.h _),
    fun t x ht => (S.tmp t x ht).mono (g.extA own st.heap) (fun _ _ _ _ hb => hb) (g.keep S.h _) (fun _ _ _ _ he => ⟨he, rfl⟩)⟩
theorem VRel.grow {P : Program} {own : Own} {st : St} {a : Act} {w w' : World} {v : Value} {x : XV} (H : HRel P w own st.heap) (h : VRel P w own st a v x) (g : Grow w w') : VRel P w' own st a v x :=
  fun t => (h t).mono (g.extA own st.heap) (fun _ _ _ _ hb => hb) (g.keep H _) (fun _ _ _ _ he => ⟨he, rfl⟩)
theorem Grow.frm {w w' : World} (g : Grow w w') (own : Own) : Frm w own w' own := ⟨g.os, g.tape, g.output, g.size, fun b hb _ => ⟨g.blk b hb, rfl⟩⟩
theorem Grow.trans {w w1 w2 : World} (h : Grow w w1) (k : Grow w1 w2) : Grow w w2 :=
  ⟨k.os.trans h.os, k.tape.trans h.tape, k.output.trans h.output, Nat.le_trans h.size k.size, fun b hb => (k.blk b (Nat.lt_of_lt_of_le hb h.size)).trans (h.blk b hb)⟩
section
variable {C : Ctx} {call : Zaa} {fa : FA} {own : Own} {st : St} {a : Act} {w : World} {o : Oper}
structure CellsRel (w : World) (own : Own) (cs : Array Value) (ds : List DV) : Prop where
  len : cs.size = ds.length
  one : ∀ (i : Nat) u, cs[i]? = some u → u.oneCell' = true
  rep : ∀ (i : Nat) u d, cs[i]? = some u → ds[i]? = some d → Rep w own u d
theorem Zxq {d : DV} (h : d.cellOk = true) : ∀ vs, d ≠ .tup vs := by
  rintro vs rfl; cases h
theorem CellsRel.of {v : Value} {d : DV} (h : Rep w own v d) (hk : d.cellOk = true) : CellsRel w own v.cells d.cells :=
  let ⟨x, y, z⟩ := h.cells (Zxq hk); ⟨x, y, z⟩
theorem Zha {α : Type} {cs vs r : List α} {off : Nat} (h : ZbE cs off vs = some r) : off + vs.length ≤ cs.length ∧ r.length = cs.length ∧
    ∀ (j : Nat), r[j]? = if off ≤ j ∧ j < off + vs.length then vs[j - off]? else cs[j]? := by
  unfold ZbE at h
  cases hb : Nat.ble (off + vs.length) cs.length with
  | false => rw [hb] at h; cases h
  | true =>
    rw [hb] at h
    simp only [cond_true, Option.some.injEq] at h
    subst h
    have hle := Nat.le_of_ble_eq_true hb
    refine ⟨hle, by simp only [List.length_append, List.length_take, List.length_drop]; omega, fun j => ?_⟩
    have hlt : (cs.take off).length = off := by rw [List.length_take]; omega
    by_cases h1 : j < off
    · rw [List.append_assoc, List.getElem?_append_left (by omega), List.getElem?_take, if_pos h1, if_neg (by omega)]
    · by_cases h2 : j < off + vs.length
      · rw [List.append_assoc, List.getElem?_append_right (by omega), hlt, List.getElem?_append_left (by omega), if_pos (by omega)]
      · rw [List.getElem?_append_right (by simp only [List.length_append]; omega), if_neg (by omega), List.getElem?_drop]
        congr 1
        simp only [List.length_append, hlt]
        omega
theorem ZyM (f : Nat → Option (Nat × Nat)) : ∀ (ps : List (Nat × Value)) (vs : List (Nat × DV)) (cells : Array Value) (z r : List DV), ps.length = vs.length →
    (∀ (i : Nat) x v, ps[i]? = some x → vs[i]? = some v → x.1 = v.1 ∧ Rep w own x.2 v.2) → CellsRel w own cells z → ZfD f z vs = some r →
    ∃ cs, Instr.fill f cells ps = some cs ∧ CellsRel w own cs r := by
  intro ps
  induction ps with
  | nil =>
    intro vs cells z r hl _ hc hf
    have : vs = [] := List.eq_nil_of_length_eq_zero (by simpa using hl.symm)
    subst this
    simp only [ZfD, Option.some.injEq] at hf
    subst hf
    exact ⟨cells, rfl, hc⟩
  | cons p ps ih =>
    intro vs cells z r hl hp hc hf
    cases vs with
    | nil => simp at hl
    | cons v vs =>
      obtain ⟨i, x⟩ := p
      obtain ⟨k, d⟩ := v
      obtain ⟨rfl, hr⟩ := hp 0 _ _ rfl rfl
      simp only [ZfD] at hf
      split at hf
      · rename_i off size hfi
        cases hb : Nat.beq d.cells.length size && d.cellOk with
        | false => rw [hb] at hf; cases hf
        | true =>
          rw [hb] at hf
          simp only [Bool.and_eq_true] at hb
          simp only [cond_true] at hf
          split at hf
          · rename_i cs' hs
            obtain ⟨g1, g2, g3⟩ := Zha hs
            have cr := CellsRel.of hr hb.2
            have hsz : size = d.cells.length := (Nat.eq_of_beq_eq_true hb.1).symm
            subst hsz
            obtain ⟨s1, s2⟩ := Great.foldl_set off x.cells.toList 0 cells
            have hcond : ¬ ((x.cells.size ≠ d.cells.length || off + x.cells.size > cells.size) = true) := by
              rw [cr.len, hc.len]
              simp only [ne_eq, not_true_eq_false, decide_false, Bool.false_or, decide_eq_true_eq]
              omega
            have e : (x.cells.zipIdx.foldl (fun (cs : Array Value) (x : Value × Nat) => cs.setIfInBounds (off + x.2) x.1) cells) = (x.cells.toList.zipIdx 0).foldl (fun cs (x : Value × Nat) => cs.setIfInBounds (off + x.2) x.1) cells := by
              rw [← Array.foldl_toList, Array.toList_zipIdx]
            have key : ∀ (j : Nat), ((x.cells.toList.zipIdx 0).foldl (fun cs (x : Value × Nat) => cs.setIfInBounds (off + x.2) x.1) cells)[j]? =
                if off ≤ j ∧ j < off + d.cells.length then x.cells[j - off]? else cells[j]? := by
              intro j
              have hx : x.cells.size = d.cells.length := cr.len
              rw [s2 j]
              simp only [Nat.add_zero, Array.length_toList, hx, hc.len, Array.getElem?_toList]
              by_cases h1 : off ≤ j ∧ j < off + d.cells.length
              · rw [if_pos ⟨h1.1, h1.2, by omega⟩, if_pos h1]
              · rw [if_neg (by omega), if_neg h1]
            obtain ⟨cs, h1, h2⟩ := ih vs ((x.cells.toList.zipIdx 0).foldl (fun cs (x : Value × Nat) => cs.setIfInBounds (off + x.2) x.1) cells) cs' r (by simpa using hl)
              (fun j x v hx hv => hp (j + 1) x v (by simpa using hx) (by simpa using hv)) ⟨by rw [s1, hc.len, g2], fun j u hu => by
                rw [key j] at hu
                split at hu
                · exact cr.one _ _ hu
                · exact hc.one _ _ hu, fun j u y hu hy => by
                rw [key j] at hu
                rw [g3 j] at hy
                split at hu
                · rename_i h1; rw [if_pos h1] at hy; exact cr.rep _ _ _ hu hy
                · rename_i h1; rw [if_neg h1] at hy; exact hc.rep _ _ _ hu hy⟩ hf
            refine ⟨cs, ?_, h2⟩
            simp only [Instr.fill, hfi]
            rw [if_neg hcond, e]
            exact h1
          · cases hf
      · cases hf
def GoodW (P : Program) (own : Own) (st : St) (a : Act) (w : World) (o : Oper) (x : XV) : Prop :=
  ∃ v w', (execOp a.eval o).run P w = .ok (.value v) w' ∧ Grow w w' ∧ VRel P w' own st a v x
theorem Good.grown {P : Program} {x : XV} (h : Good P own st a w o x) : GoodW P own st a w o x := let ⟨v, h1, h2⟩ := h; ⟨v, w, h1, .refl w, h2⟩
theorem Zvb (S : SRel C.P fa own st a w) {t : TypeId} {ps : Array (Nat × Operand)} {d : DV} (hop : o.op = .build t ps)
    (he : Zcd C t st ps.toList = some d) : Good C.P own st a w o (.a (.d d)) := by
  unfold Zcd at he
  split at he
  · rename_i z f hz hf
    split at he
    · rename_i vs hvs
      split at he
      · rename_i cs hcs
        simp only [Option.some.injEq] at he
        subst he
        obtain ⟨zv, hzv, ⟨it, hit, hitz⟩, hzr⟩ := Zi9 hz
        obtain ⟨zc, rfl, hl, h1, h2⟩ := (hzr w own).agg_inv
        obtain ⟨hpl, hpr⟩ := ZlL S hvs
        obtain ⟨r, hr, cr⟩ := ZyM f (ps.toList.map fun p => (p.1, a.eval p.2)) vs zc z cs (by simpa using hpl) (fun i x v hx hv => by
          rw [List.getElem?_map, Option.map_eq_some_iff] at hx
          obtain ⟨p, hp, rfl⟩ := hx
          exact hpr i p v hp hv) ⟨hl, h1, h2⟩ hcs
        have hb : C.P.built t (ps.toList.map fun p => (p.1, a.eval p.2)) = some r := by
          unfold Program.built
          unfold Ctx.places at hf
          split at hf
          · rename_i fs hu
            split at hf
            · rename_i l hl'
              simp only [Option.some.injEq] at hf
              subst hf
              simp only [hit, hu, hitz, hl']
              simpa [Value.cells] using hr
            · cases hf
          · rename_i n e hu
            split at hf
            · rename_i ie hie
              simp only [Option.some.injEq] at hf
              subst hf
              simp only [hit, hu, hitz, hie]
              simpa [Value.cells] using hr
            · cases hf
          · cases hf
        refine ZeP (v := .agg r) ?_ (.agg r cs cr.len cr.one cr.rep)
        have hrun := run_build (P := C.P) w t (ps.map fun p => (p.1, a.eval p.2)) r (by simpa using hb)
        simp only [ZhI, execOp, hop, Sem.run_bind]
        have e : (ps.map fun x => match x with | (i, x) => (i, a.eval x)) = ps.map fun p => (p.1, a.eval p.2) := rfl
        rw [e, hrun]
        rfl
      · cases he
    · cases he
  · cases he
theorem Zq5 {sz : Nat} : ∀ {vs : List (Nat × DV)} {k : Nat} {es : List DV}, Zb1 sz k vs = some es → es.length = vs.length ∧ (∀ e ∈ es, e.cells.length = sz ∧ e.cellOk = true) ∧
    ∀ (i : Nat) v, vs[i]? = some v → v.1 = k + i ∧ es[i]? = some v.2 := by
  intro vs
  induction vs with
  | nil => intro k es h; simp only [Zb1, Option.some.injEq] at h; subst h; simp
  | cons v vs ih =>
    intro k es h
    obtain ⟨i, d⟩ := v
    simp only [Zb1] at h
    cases hb : Nat.beq i k && Nat.beq d.cells.length sz && d.cellOk with
    | false => rw [hb] at h; cases h
    | true =>
      rw [hb] at h
      simp only [Bool.and_eq_true] at hb
      obtain ⟨⟨b1, b2⟩, b3⟩ := hb
      simp only [cond_true] at h
      split at h
      · rename_i l hl
        simp only [Option.some.injEq] at h
        subst h
        obtain ⟨h1, h2, h3⟩ := ih hl
        refine ⟨by simp [h1], ?_, ?_⟩
        · intro e he
          simp only [List.mem_cons] at he
          rcases he with rfl | he
          · exact ⟨Nat.eq_of_beq_eq_true b2, b3⟩
          · exact h2 e he
        · intro j v hv
          cases j with
          | zero => simp at hv; subst hv; exact ⟨by simpa using Nat.eq_of_beq_eq_true b1, rfl⟩
          | succ j =>
            simp at hv
            obtain ⟨h4, h5⟩ := h3 j v hv
            exact ⟨by rw [h4]; omega, by simpa using h5⟩
      · cases h
theorem Zso (S : SRel C.P fa own st a w) {t : TypeId} {n : Nat} {ps : Array (Nat × Operand)} {es : List DV} (hop : o.op = .buildSlice t n ps)
    (he : Zam C t n st ps.toList = some es) : ∃ (e : TypeId) (inf : TypeInfo) (c : Array Value), C.P.underlying t = some (.slice e) ∧ C.P.info? e = some inf ∧ 0 < inf.size ∧ es.length = n ∧ 0 < n ∧
      n ≤ 2 ^ 24 ∧ c.size = n * inf.size ∧ (∀ e ∈ es, e.cells.length = inf.size) ∧ (∀ (i : Nat) u, c[i]? = some u → u.oneCell' = true) ∧
      (∀ (i : Nat) u d, c[i]? = some u → (es.flatMap DV.cells)[i]? = some d → Rep w own u d) ∧
      (execOp a.eval o).run C.P w = .ok (.value (.slice (some ⟨w.heap.size, 0, none⟩) n n)) (w.alloc (.cells c e)) := by
  unfold Zam at he
  split at he
  · rename_i sz hsz
    obtain ⟨e, inf, hu, hinf, rfl⟩ := Zec hsz
    split at he
    · rename_i vs hvs
      split at he
      · rename_i l hl
        cases hb : Nat.beq l.length n && Nat.ble (n * inf.size) (2 ^ 24) && Nat.blt 0 (n * inf.size) && C.hasZero t with
        | false => rw [hb] at he; cases he
        | true =>
          rw [hb] at he
          simp only [cond_true, Option.some.injEq] at he
          subst he
          simp only [Bool.and_eq_true] at hb
          obtain ⟨⟨⟨b1, b2⟩, b3⟩, b4⟩ := hb
          have hn : l.length = n := Nat.eq_of_beq_eq_true b1
          have hsm : n * inf.size ≤ 2 ^ 24 := Nat.le_of_ble_eq_true b2
          have hpos : 0 < n * inf.size := by simpa [Nat.blt_eq] using b3
          have hn0 : 0 < n := Nat.pos_of_mul_pos_right hpos
          have hs0 : 0 < inf.size := Nat.pos_of_mul_pos_left hpos
          obtain ⟨z, hz⟩ : ∃ z, inf.zero = some z := by
            unfold Ctx.hasZero at b4
            simp only [hu, hinf] at b4
            exact Option.isSome_iff_exists.1 b4
          obtain ⟨hpl, hpr⟩ := ZlL S hvs
          obtain ⟨e1, e2, e3⟩ := Zq5 hl
          let us : List Value := ps.toList.map fun p => a.eval p.2
          have hus : us.length = n := by simp only [us, List.length_map, hpl, ← e1, hn]
          have hcell : ∀ (i : Nat) u d, us[i]? = some u → l[i]? = some d → CellsRel w own u.cells d.cells := by
            intro i u d hu' hd
            simp only [us, List.getElem?_map, Option.map_eq_some_iff] at hu'
            obtain ⟨p, hp, rfl⟩ := hu'
            have hi : i < vs.length := by rw [← hpl]; exact (List.getElem?_eq_some_iff.1 hp).1
            obtain ⟨g1, g2⟩ := e3 i vs[i] (List.getElem?_eq_getElem hi)
            rw [hd] at g2
            simp only [Option.some.injEq] at g2
            subst g2
            exact .of (hpr i p vs[i] hp (List.getElem?_eq_getElem hi)).2 (e2 _ (List.mem_of_getElem? hd)).2
          have h1 : ∀ v ∈ us, v.cells.size = inf.size := by
            intro v hv
            obtain ⟨i, hi, rfl⟩ := List.mem_iff_getElem.1 hv
            have hil : i < l.length := by omega
            rw [(hcell i _ l[i] (List.getElem?_eq_getElem hi) (List.getElem?_eq_getElem hil)).len]
            exact (e2 _ (List.getElem_mem hil)).1
          have hzip : (us.zipIdx 0).map (fun x => (x.2, x.1)) = (ps.map fun p => (p.1, a.eval p.2)).toList := by
            apply List.ext_getElem?
            intro i
            rw [Array.toList_map, List.getElem?_map, List.getElem?_map, List.getElem?_zipIdx]
            simp only [us, List.getElem?_map]
            cases hp : ps.toList[i]? with
            | none => simp [hp]
            | some p =>
              have hi : i < vs.length := by rw [← hpl]; exact (List.getElem?_eq_some_iff.1 hp).1
              have := (e3 i vs[i] (List.getElem?_eq_getElem hi)).1
              rw [← (hpr i p vs[i] hp (List.getElem?_eq_getElem hi)).1] at this
              simp [this]
          let c0 : Array Value := (Array.range (n * inf.size)).map (z.cells[· % z.cells.size]!)
          have hfill := Great.fill_whole hs0 us c0 h1 (by simp [c0, hus])
          refine ⟨e, inf, (us.flatMap fun v => v.cells.toList).toArray, hu, hinf, hs0, hn, hn0, ?_, ?_, fun e he => (e2 e he).1, ?_, ?_, ?_⟩
          · exact Nat.le_trans (Nat.le_mul_of_pos_right n hs0) hsm
          · have : (us.flatMap fun v => v.cells.toList).length = us.length * inf.size := Za5 (fun v hv => by simpa using h1 v hv)
            simpa [hus] using this
          · intro i u hu'
            have hu'' : u ∈ us.flatMap fun v => v.cells.toList := List.mem_of_getElem? (by simpa using hu')
            obtain ⟨v, hv, huv⟩ := List.mem_flatMap.1 hu''
            obtain ⟨j, hj, rfl⟩ := List.mem_iff_getElem.1 hv
            have hil : j < l.length := by omega
            obtain ⟨q, hq, hqe⟩ := List.mem_iff_getElem.1 huv
            exact (hcell j _ l[j] (List.getElem?_eq_getElem hj) (List.getElem?_eq_getElem hil)).one q u (by rw [← hqe, ← Array.getElem?_toList]; exact List.getElem?_eq_getElem hq)
          · intro i u d hu' hd
            have hilt : i < n * inf.size := by
              have := (List.getElem?_eq_some_iff.1 hd).1
              rwa [Za5 (fun e he => (e2 e he).1), hn] at this
            have hq : i / inf.size < n := Nat.div_lt_of_lt_mul (by rw [Nat.mul_comm]; exact hilt)
            have hm : i % inf.size < inf.size := Nat.mod_lt _ hs0
            have hdec : i = i / inf.size * inf.size + i % inf.size := by rw [Nat.mul_comm]; exact (Nat.div_add_mod _ _).symm
            have hil : i / inf.size < l.length := by omega
            have hiu : i / inf.size < us.length := by omega
            have g1 := flat_get (f := DV.cells) (fun e he => (e2 e he).1) (List.getElem?_eq_getElem hil) _ hm
            have g2 := flat_get (f := fun v : Value => v.cells.toList) (fun v hv => by simpa using h1 v hv) (List.getElem?_eq_getElem hiu) _ hm
            rw [← hdec] at g1 g2
            rw [g1] at hd
            have hu2 : us[i / inf.size].cells[i % inf.size]? = some u := by
              rw [← Array.getElem?_toList, ← g2]; simpa using hu'
            exact (hcell _ _ _ (List.getElem?_eq_getElem hiu) (List.getElem?_eq_getElem hil)).rep _ _ _ hu2 hd
          · have hrun := Go.run_buildSlice (P := C.P) w t e n (ps.map fun p => (p.1, a.eval p.2)) _ inf z hu hinf hz (by omega) (by omega) (by rw [← hzip]; exact hfill)
            simp only [execOp, hop, Sem.run_bind]
            have e' : (ps.map fun x => match x with | (i, x) => (i, a.eval x)) = ps.map fun p => (p.1, a.eval p.2) := rfl
            rw [e', hrun]
            rfl
      · cases he
    · cases he
  · cases he
theorem ZrM {t : TypeId} {ps : Array (Nat × Operand)} {sz : Nat} (hop : o.op = .buildSlice t 0 ps) (hps : ps.toList = []) (hsz : C.elemSize t = some sz) : GoodW C.P own st a w o (.own []) := by
  obtain ⟨e, i, hu, hi, rfl⟩ := Zec hsz
  have hrun : (execOp a.eval o).run C.P w = .ok (.value (.slice (some ⟨w.heap.size, 0, none⟩) 0 0)) (w.alloc (.cells #[] e)) := by
    obtain rfl : ps = #[] := Array.ext' (by simpa using hps)
    simp [execOp, hop, Instr.buildSlice, run_underlying hu, sizeOf, typeInfo, hi, newRow, Instr.fill]
    rw [show Array.map (fun _ => (default : Value)) (Array.range 0) = #[] from Array.eq_empty_of_size_eq_zero (by simp)]
  exact ⟨_, _, hrun, Grow.alloc w (.cells #[] e), fun _ => .inl ⟨rfl, _, rfl⟩⟩
theorem Zzj (S : SRel C.P fa own st a w) {t : TypeId} {n : Nat} {ps : Array (Nat × Operand)} {es : List DV} (hop : o.op = .buildSlice t n ps)
    (he : Zam C t n st ps.toList = some es) : GoodW C.P own st a w o (.a (.d (.slc es))) := by
  obtain ⟨e, inf, c, hu, hinf, hs0, hn, hn0, _, hcs, hsz, h1, h2, hrun⟩ := Zso S hop he
  have g := Grow.alloc w (.cells c e)
  refine ⟨_, _, hrun, g, fun _ => .d _ _ ?_⟩
  have hfree : own w.heap.size = none := by
    cases h : own w.heap.size with
    | none => rfl
    | some x => exact absurd (S.h.lt _ _ h) (Nat.lt_irrefl _)
  have hblk : (w.alloc (.cells c e)).heap[w.heap.size]? = some (.cells c e (0, 0)) := by
    show (w.heap.push _)[_]? = _
    simp
  rw [← hn]
  have hc : ∀ i, i < es.length * inf.size → ∃ u, c[i]? = some u := fun i hi => ⟨c[i]'(by rw [hcs, ← hn]; exact hi), Array.getElem?_eq_getElem _⟩
  refine .slc w.heap.size 0 es.length inf.size es (fun i => c[i]?.getD undef) (Nat.le_refl _) hsz (fun i hi => ?_) (fun i hi x f hx => by rw [hfree] at hx; cases hx) (fun i hi => ?_) (fun i d hd => ?_)
  · obtain ⟨u, hu⟩ := hc i hi
    rw [Nat.zero_add, cell_of_row _ _ i c e (0, 0) hblk, hu]
    rfl
  · obtain ⟨u, hu⟩ := hc i hi
    rw [hu]; exact h1 i u hu
  · have hi : i < es.length * inf.size := by
      have := (List.getElem?_eq_some_iff.1 hd).1
      rwa [Za5 hsz] at this
    obtain ⟨u, hu⟩ := hc i hi
    rw [hu]
    exact (h2 i u d hu hd).mono (g.ext own)
theorem Zos (S : SRel C.P fa own st a w) {f : FuncId} {first captured : Array Operand} {vs : List AV} (hop : o.op = .makeFunc (.func f) first captured)
    (h1 : first.toList = []) (h2 : Za3 st captured.toList = some vs) : Good C.P own st a w o (.a (Zug f vs)) := by
  have hf : first = #[] := by rw [← Array.toList_inj, h1]
  obtain ⟨hl, hr⟩ := Znk S h2
  refine ⟨.func (.func f) #[] (captured.map a.eval), by simp [ZhI, execOp, hop, hf, Instr.makeFunc], fun _ => ?_⟩
  unfold Zug
  split
  · rename_i ds hd
    have := Zeo hd
    subst this
    refine .d _ _ (.fn f _ ds (by simpa using hl) fun i v x hv hx => ?_)
    rw [Array.getElem?_map, Option.map_eq_some_iff] at hv
    obtain ⟨y, hy, rfl⟩ := hv
    exact (hr i y (.d x) (by simpa using hy) (by rw [List.getElem?_map, hx]; rfl)).d_inv
  · refine .fn f _ vs (by simpa using hl) fun i v x hv hx => ?_
    rw [Array.getElem?_map, Option.map_eq_some_iff] at hv
    obtain ⟨y, hy, rfl⟩ := hv
    exact hr i y x (by simpa using hy) hx
end
end Go.Abs
namespace Go.Abs
def ZhT (own : Own) : Prop := ∀ b x f, own b = some (x, f) → x = .ext ∨ ∃ id, x = .obj id
def Has (P : Program) (f : FuncId) (args : List AV) (h : List AObj) (r : AV) (h' : List AObj) : Prop :=
  (∃ fn, P.funcs[f]? = some fn ∧ fn.body.isSome = true) ∧
  ∀ (w : World) (own : Own) (vs : Array Value), HRel P w own h → ZhT own → vs.size = args.length →
    (∀ (i : Nat) v x, vs[i]? = some v → args[i]? = some x → ARep P w own h v x) →
    Calls P f vs w fun e w' => ∃ v own', e = .returned v ∧ ZhT own' ∧ HRel P w' own' h' ∧ ARep P w' own' h' v r ∧ Frm w own w' own' ∧ ExtA w own h w' own' h'
def Za2 (P : Program) (call : Zaa) : Prop := ∀ f args h r h', call f args h = some (r, h') → Has P f args h r h'
def Za4 (P : Program) : Prop := ∀ (f : FuncId) (fn : Func), P.funcs[f]? = some fn → (fn.name == "runtime.NumGoroutine") = false
def ZbF (L : Nat → Bool) (own : Own) : Own := fun b => match own b with
  | some (.obj id, f) => if L id then none else some (.ext, f)
  | some (_, f) => some (.ext, f)
  | none => none
theorem ZaM (L : Nat → Bool) (own : Own) (b : Nat) : (own b = none ∧ ZbF L own b = none) ∨ (∃ id f, own b = some (.obj id, f) ∧ L id = true ∧ ZbF L own b = none) ∨
    ∃ x f, own b = some (x, f) ∧ ZbF L own b = some (.ext, f) ∧ ∀ id, x = .obj id → L id = false := by
  cases h : own b with
  | none => exact .inl ⟨rfl, by simp [ZbF, h]⟩
  | some y =>
    obtain ⟨x, f⟩ := y
    cases x with
    | obj id =>
      cases hl : L id with
      | true => exact .inr (.inl ⟨id, f, rfl, hl, by simp [ZbF, h, hl]⟩)
      | false => exact .inr (.inr ⟨_, f, rfl, by simp [ZbF, h, hl], fun id' e => by cases e; exact hl⟩)
    | _ => exact .inr (.inr ⟨_, f, rfl, by simp [ZbF, h], fun id e => by cases e⟩)
section
variable {P : Program} {w w' : World} {own : Own} {h : List AObj} {L : Nat → Bool}
theorem Zl8 (w : World) (own : Own) (L : Nat → Bool) : Ext w own w (ZbF L own) := by
  refine ⟨fun b o v hc hp => ⟨hc, fun x f hx => ?_⟩, fun b es c hc hn => ⟨hc, ?_⟩⟩
  · rcases ZaM L own b with ⟨_, h2⟩ | ⟨_, _, _, _, h2⟩ | ⟨x', f', h1, h2, _⟩
    · rw [h2] at hx; cases hx
    · rw [h2] at hx; cases hx
    · rw [h2] at hx
      simp only [Option.some.injEq, Prod.mk.injEq] at hx
      obtain ⟨_, rfl⟩ := hx
      exact hp x' f' h1
  · rcases ZaM L own b with ⟨_, h2⟩ | ⟨_, _, h1, _⟩ | ⟨_, _, h1, _⟩
    · exact h2
    · rw [h1] at hn; cases hn
    · rw [h1] at hn; cases hn
theorem Zki (H : HRel P w own h) (L : Nat → Bool) : HRel P w (ZbF L own) [] := by
  refine ⟨fun id x hx => by simp at hx, fun b b' x f f' h1 h2 hne => ?_, fun b x hx => ?_, fun b id f hx => ?_⟩
  · rcases ZaM L own b with ⟨_, h3⟩ | ⟨_, _, _, _, h3⟩ | ⟨_, _, _, h3, _⟩
    · rw [h3] at h1; cases h1
    · rw [h3] at h1; cases h1
    · rw [h3] at h1
      simp only [Option.some.injEq, Prod.mk.injEq] at h1
      exact absurd h1.1.symm hne
  · rcases ZaM L own b with ⟨_, h3⟩ | ⟨_, _, _, _, h3⟩ | ⟨_, _, h1, _⟩
    · rw [h3] at hx; cases hx
    · rw [h3] at hx; cases hx
    · exact H.lt b _ h1
  · rcases ZaM L own b with ⟨_, h3⟩ | ⟨_, _, _, _, h3⟩ | ⟨_, _, _, h3, _⟩
    · rw [h3] at hx; cases hx
    · rw [h3] at hx; cases hx
    · rw [h3] at hx; simp at hx
theorem Zj2 (L : Nat → Bool) (own : Own) : ZhT (ZbF L own) := by
  intro b x f hx
  rcases ZaM L own b with ⟨_, h3⟩ | ⟨_, _, _, _, h3⟩ | ⟨_, _, _, h3, _⟩
  · rw [h3] at hx; cases hx
  · rw [h3] at hx; cases hx
  · rw [h3] at hx
    simp only [Option.some.injEq, Prod.mk.injEq] at hx
    exact .inl hx.1.symm
theorem ZgP {own1 : Own} (F : Frm w (ZbF L own) w' own1) : Grow w w' := by
  refine ⟨F.os, F.tape, F.output, F.size, fun b hb => (F.blk b hb ?_).1⟩
  rcases ZaM L own b with ⟨_, h2⟩ | ⟨_, _, _, _, h2⟩ | ⟨_, f, _, h2, _⟩
  · exact .inl h2
  · exact .inl h2
  · exact .inr ⟨f, h2⟩
theorem Ze9 {own1 : Own} (F : Frm w (ZbF L own) w' own1) (b : Nat) (hb : b < w.heap.size) : own1 b = ZbF L own b := by
  refine (F.blk b hb ?_).2
  rcases ZaM L own b with ⟨_, h2⟩ | ⟨_, _, _, _, h2⟩ | ⟨_, f, _, h2, _⟩
  · exact .inl h2
  · exact .inl h2
  · exact .inr ⟨f, h2⟩
mutual
theorem ZjB : ∀ (d : DV), d.scal = true → ∀ {v : Value} {w w' : World} {own own' : Own}, Rep w own v d → Rep w' own' v d
  | .bool b, _, _, _, _, _, _, r => by cases r; exact .bool b
  | .int k n, _, _, _, _, _, _, r => by cases r; exact .int k n
  | .str s, _, _, _, _, _, _, r => by cases r with | str s => exact .str s
  | .nilp, _, _, _, _, _, _, r => by cases r; exact .nilp
  | .nilm, _, _, _, _, _, _, r => by cases r; exact .nilm
  | .nilf, _, _, _, _, _, _, r => by cases r; exact .nilf
  | .nili, _, _, _, _, _, _, r => by cases r; exact .nili
  | .slc _, h, _, _, _, _, _, _ => by simp [DV.scal] at h
  | .fmap _, h, _, _, _, _, _, _ => by simp [DV.scal] at h
  | .fn _ _, h, _, _, _, _, _, _ => by simp [DV.scal] at h
  | .agg cs, h, _, _, _, _, _, r => by
    cases r with
    | agg vs cs hl h1 hh => exact .agg vs cs hl h1 fun i v d hv hd => Zh0 cs (by simpa [DV.scal] using h) i d hd (hh i v d hv hd)
  | .tup cs, h, _, _, _, _, _, r => by
    cases r with
    | tup vs cs hl hh => exact .tup vs cs hl fun i v d hv hd => Zh0 cs (by simpa [DV.scal] using h) i d hd (hh i v d hv hd)
  | .iface t d, h, _, _, _, _, _, r => by
    cases r with
    | iface t v d hr => exact .iface t v d (ZjB d (by simpa [DV.scal] using h) hr)
theorem Zh0 : ∀ (cs : List DV), DV.scalL cs = true → ∀ (i : Nat) (d : DV), cs[i]? = some d → ∀ {v : Value} {w w' : World} {own own' : Own}, Rep w own v d → Rep w' own' v d
  | [], _, _, _, hd, _, _, _, _, _, _ => by simp at hd
  | c :: cs, h, 0, d, hd, _, _, _, _, _, r => by
    simp only [DV.scalL, Bool.and_eq_true] at h
    simp only [List.getElem?_cons_zero, Option.some.injEq] at hd
    subst hd
    exact ZjB c h.1 r
  | c :: cs, h, i + 1, d, hd, _, _, _, _, _, r => by
    simp only [DV.scalL, Bool.and_eq_true] at h
    simp only [List.getElem?_cons_succ] at hd
    exact Zh0 cs h.2 i d hd r
end
theorem Zhe : ∀ {cs : List DV}, DV.noMapL cs = true → ∀ {i : Nat} {d : DV}, cs[i]? = some d → d.noMap = true := by
  intro cs
  induction cs with
  | nil => intro _ i d h; simp at h
  | cons c cs ih =>
    intro h i d hd
    simp only [DV.noMapL, Bool.and_eq_true] at h
    cases i with
    | zero => simp at hd; subst hd; exact h.1
    | succ i => simp at hd; exact ih h.2 hd
theorem ZpT : ∀ {es : List DV}, DV.noMapL es = true → DV.noMapL (es.flatMap DV.cells) = true := by
  have app : ∀ (a b : List DV), DV.noMapL a = true → DV.noMapL b = true → DV.noMapL (a ++ b) = true := by
    intro a b ha hb
    induction a with
    | nil => exact hb
    | cons x a ih =>
      simp only [DV.noMapL, Bool.and_eq_true] at ha
      simp only [List.cons_append, DV.noMapL, Bool.and_eq_true]
      exact ⟨ha.1, ih ha.2⟩
  intro es
  induction es with
  | nil => intro _; rfl
  | cons x es ih =>
    intro h
    simp only [DV.noMapL, Bool.and_eq_true] at h
    rw [List.flatMap_cons]
    refine app _ _ ?_ (ih h.2)
    cases x <;> first | (simp only [DV.cells, DV.noMapL, Bool.and_true]; exact h.1) | (simp only [DV.cells]; simpa [DV.noMap] using h.1)
theorem Rep.noMap_mono {w w' : World} {own own' : Own} {v : Value} {d : DV} (r : Rep w own v d)
    (e : ∀ b o v, w.cell? ⟨b, o, none⟩ = some v → Zy1 own b o → w'.cell? ⟨b, o, none⟩ = some v ∧ Zy1 own' b o) : d.noMap = true → Rep w' own' v d := by
  induction r with
  | bool b => intro _; exact .bool b
  | int k n => intro _; exact .int k n
  | str s => intro _; exact .str s
  | nilp => intro _; exact .nilp
  | nilm => intro _; exact .nilm
  | nilf => intro _; exact .nilf
  | nili => intro _; exact .nili
  | slc0 a cap => intro _; exact .slc0 a cap
  | slc b o cap sz es vs hcap hsz hc hp h1 hr ih =>
    intro hm
    exact .slc b o cap sz es vs hcap hsz (fun i hi => (e _ _ _ (hc i hi) (hp i hi)).1) (fun i hi => (e _ _ _ (hc i hi) (hp i hi)).2) h1
      (fun i d hd => ih i d hd (Zhe (ZpT (by simpa [DV.noMap] using hm)) hd))
  | fmap b es clock ds hb ho hst hl hk hv ihk ihv => intro hm; simp [DV.noMap] at hm
  | fn f cs ds hl h ih => intro hm; exact .fn f cs ds hl fun i v d hv hd => ih i v d hv hd (Zhe (by simpa [DV.noMap] using hm) hd)
  | agg cs ds hl h1 h ih => intro hm; exact .agg cs ds hl h1 fun i v d hv hd => ih i v d hv hd (Zhe (by simpa [DV.noMap] using hm) hd)
  | tup cs ds hl h ih => intro hm; exact .tup cs ds hl fun i v d hv hd => ih i v d hv hd (Zhe (by simpa [DV.noMap] using hm) hd)
  | iface t v d h ih => intro hm; exact .iface t v d (ih (by simpa [DV.noMap] using hm))
theorem ZzI {own1 : Own} {v : Value} {r : DV} (H : HRel P w own h) (F : Frm w (ZbF L own) w' own1) (hr : Rep w' own1 v r) (k : Nat) (hk : Zqh k r = true)
    (h0 : k = 0 → ∀ id, L id = false) (h1 : k = 1 → ∀ id, L id = true → ∃ es, h[id]? = some (.map es)) : Rep w' own v r := by
  have g := ZgP F
  have cellp : (∀ id b f, own b = some (.obj id, f) → L id = true → ∃ m c, w.heap[b]? = some (.map m c)) → ∀ b o v, w'.cell? ⟨b, o, none⟩ = some v → Zy1 own1 b o → w'.cell? ⟨b, o, none⟩ = some v ∧ Zy1 own b o := by
    intro hmaps b o v hc hp
    refine ⟨hc, fun x f hx => ?_⟩
    have hlt := H.lt b _ hx
    have hb := Ze9 F b hlt
    rcases ZaM L own b with ⟨h2, _⟩ | ⟨id, f', h2, h3, _⟩ | ⟨x', f', h2, h3, _⟩
    · rw [h2] at hx; cases hx
    · obtain ⟨m, c, hm⟩ := hmaps id b f' h2 h3
      have : w'.heap[b]? = some (.map m c) := by rw [g.blk b hlt, hm]
      simp [World.cell?, this] at hc
    · rw [h2] at hx
      simp only [Option.some.injEq, Prod.mk.injEq] at hx
      obtain ⟨_, rfl⟩ := hx
      exact hp .ext f' (by rw [hb, h3])
  match k, hk with
  | 0, _ =>
    refine hr.mono ⟨cellp fun id b f _ hl => ?_, fun b es c hc hn => ⟨hc, ?_⟩⟩
    · rw [h0 rfl id] at hl; cases hl
    · cases hx : own b with
      | none => rfl
      | some y =>
        have hlt := H.lt b _ hx
        have hb := Ze9 F b hlt
        rw [hn] at hb
        rcases ZaM L own b with ⟨h2, _⟩ | ⟨id, f', h2, h3, _⟩ | ⟨x', f', h2, h3, _⟩
        · rw [h2] at hx; cases hx
        · rw [h0 rfl id] at h3; cases h3
        · rw [h3] at hb; cases hb
  | 1, hk =>
    refine hr.noMap_mono (cellp fun id b f hb hl => ?_) hk
    obtain ⟨es, hes⟩ := h1 rfl id hl
    obtain ⟨b', hb', m, cl, hm, _⟩ := H.obj id _ hes
    have : b = b' := H.uniq b b' _ _ _ hb hb' (by simp)
    subst this
    exact ⟨m, cl, hm⟩
  | k + 2, hk => exact ZjB r hk hr
end
end Go.Abs
namespace Go.Abs
section
variable {P : Program} {w : World} {own own1 : Own} {h : List AObj}
theorem Zm1 (hE : Ext w own1 w own) (hdrop : ∀ b id f, own1 b = some (.obj id, f) → own b = none) (H : HRel P w own1 h) :
    ∀ (m : Nat) (av : AV) (d : DV) (v : Value), freeze h m av = some d → ARep P w own1 h v av → Rep w own v d := by
  intro m
  induction m with
  | zero =>
    intro av d v hf hr
    cases av <;> simp only [freeze] at hf <;> try (cases hf; done)
    simp only [Option.some.injEq] at hf
    subst hf
    exact hr.d_inv.mono hE
  | succ m ih =>
    intro av d v hf hr
    cases av with
    | raw u => simp [freeze] at hf
    | d x =>
      simp only [freeze, Option.some.injEq] at hf
      subst hf
      exact hr.d_inv.mono hE
    | osl id g n =>
      simp only [freeze] at hf
      split at hf
      · rename_i g' ap es ho
        cases hb : Nat.beq g g' && Nat.ble n es.length with
        | false => rw [hb] at hf; cases hf
        | true =>
          rw [hb] at hf
          simp only [Bool.and_eq_true] at hb
          simp only [cond_true, Option.map_eq_some_iff] at hf
          obtain ⟨ds, hds, rfl⟩ := hf
          have hgg : g = g' := Nat.eq_of_beq_eq_true hb.1
          subst hgg
          have hn : n ≤ es.length := Nat.le_of_ble_eq_true hb.2
          obtain ⟨hid, _, _, hl⟩ := hr.osl_inv
          obtain ⟨b, cap, c, T, fr, inf, hv, hob, hc, hi, hcs⟩ := hl ap es ho
          obtain ⟨b', hob', hor⟩ := H.obj id _ ho
          have hbb : b = b' := H.uniq b b' _ _ _ hob hob' (by simp)
          subst hbb
          obtain ⟨c', T', fr', inf2, hc', hi2, _, _, hsz, hpos, hle, hcells⟩ := hor
          rw [hc] at hc'
          simp only [Option.some.injEq, Obj.cells.injEq] at hc'
          obtain ⟨rfl, rfl, rfl⟩ := hc'
          rw [hi] at hi2
          simp only [Option.some.injEq] at hi2
          subst hi2
          obtain ⟨hlen, hget⟩ := Zhb hds
          rw [List.length_take, Nat.min_eq_left hn] at hlen
          have hone : ∀ (q : Nat) e x, es[q]? = some e → ds[q]? = some x → freeze h m e = some x := by
            intro q e x he hx
            have hq : q < n := by rw [hlen]; exact (List.getElem?_eq_some_iff.1 hx).1
            exact hget q e x (by rw [List.getElem?_take, if_pos hq]; exact he) hx
          have hcl : ∀ (e : AV) (x : DV), freeze h m e = some x → e.cellOk = true → (∃ y, e = .d y ∧ x = y) ∨ (e.cells = [e] ∧ x.cells = [x]) := by
            intro e x he hk
            cases m with
            | zero =>
              cases e <;> simp only [freeze] at he <;> try (cases he; done)
              simp only [Option.some.injEq] at he; subst he; exact .inl ⟨_, rfl, rfl⟩
            | succ m =>
              cases e with
              | raw u => simp [freeze] at he
              | d y => simp only [freeze, Option.some.injEq] at he; subst he; exact .inl ⟨_, rfl, rfl⟩
              | osl id g n =>
                simp only [freeze] at he
                split at he
                · cases hb : Nat.beq g ‹Nat› && Nat.ble n (‹List AV›).length
                  all_goals first | (rw [hb] at he; cases he; done) | (rw [hb] at he; simp only [cond_true, Option.map_eq_some_iff] at he; obtain ⟨_, _, rfl⟩ := he; exact .inr ⟨rfl, rfl⟩)
                · cases he
              | mp id =>
                simp only [freeze] at he
                split at he
                · simp only [Option.map_eq_some_iff] at he; obtain ⟨_, _, rfl⟩ := he; exact .inr ⟨rfl, rfl⟩
                · cases he
              | tup vs => simp [AV.cellOk] at hk
              | ptr _ _ => simp [freeze] at he
              | fn _ _ => simp [freeze] at he
          have hnt : ∀ (q : Nat) e, es[q]? = some e → e.cellOk = true := by
            intro q e he
            cases hk : e.cellOk with
            | true => rfl
            | false =>
              exfalso
              have hs1 : e.cells = [e] := by cases e <;> first | rfl | (rename_i y; cases y <;> simp_all [AV.cellOk, DV.cellOk, AV.cells])
              have hsz1 := hsz e (List.mem_of_getElem? he)
              rw [hs1] at hsz1
              obtain ⟨u, hu, ho1, hru⟩ := hcells (q * inf.size + 0) e (by rw [flat_get hsz he 0 hpos, hs1]; rfl)
              cases e with
              | tup vs => obtain ⟨cs, rfl, _⟩ := hru.tup_inv; simp [Value.oneCell'] at ho1
              | d y =>
                cases y <;> simp [AV.cellOk, DV.cellOk] at hk
                obtain ⟨cs, rfl, _⟩ := hru.d_inv.tup_inv
                simp [Value.oneCell'] at ho1
              | _ => simp [AV.cellOk] at hk
          have hszd : ∀ x ∈ ds, x.cells.length = inf.size := by
            intro x hx
            obtain ⟨q, hq, rfl⟩ := List.mem_iff_getElem.1 hx
            have hqe : q < es.length := by omega
            have he := List.getElem?_eq_getElem hqe
            rcases hcl _ _ (hone q _ _ he (List.getElem?_eq_getElem hq)) (hnt q _ he) with ⟨y, h1, h2⟩ | ⟨h1, h2⟩
            · have := hsz es[q] (List.getElem_mem hqe)
              rw [h1] at this
              rw [h2]
              cases y <;> simpa [AV.cells, DV.cells] using this
            · have := hsz es[q] (List.getElem_mem hqe)
              rw [h1] at this
              rw [h2]; exact this
          have hcap : n ≤ cap := by
            have h1 : n * inf.size ≤ cap * inf.size := by rw [← hcs]; exact Nat.le_trans (Nat.mul_le_mul_right _ hn) hle
            exact Nat.le_of_mul_le_mul_right h1 hpos
          have hnone := hdrop b id 0 hob
          rw [hv, hlen]
          refine .slc b 0 cap inf.size ds (fun i => c[i]?.getD undef) (by omega) hszd (fun i hi' => ?_) (fun i _ x f hx => by rw [hnone] at hx; cases hx) (fun i hi' => ?_) (fun i x hx => ?_)
          all_goals have hi3 : i < n * inf.size := by first | (rw [hlen]; exact hi') | (have := (List.getElem?_eq_some_iff.1 hx).1; rw [Za5 hszd] at this; rw [hlen]; exact this)
          all_goals have hq : i / inf.size < n := Nat.div_lt_of_lt_mul (by rw [Nat.mul_comm]; exact hi3)
          all_goals have hr' : i % inf.size < inf.size := Nat.mod_lt _ hpos
          all_goals have hdec : i / inf.size * inf.size + i % inf.size = i := by rw [Nat.mul_comm]; exact Nat.div_add_mod _ _
          all_goals have hqe : i / inf.size < es.length := by omega
          all_goals have he := List.getElem?_eq_getElem hqe
          all_goals have hfl := flat_get hsz he _ hr'
          all_goals rw [hdec] at hfl
          all_goals have hcl2 : i % inf.size < es[i / inf.size].cells.length := by rw [hsz _ (List.getElem_mem hqe)]; exact hr'
          all_goals obtain ⟨u, hu1, hu2, hu3⟩ := hcells i _ (by rw [hfl]; exact List.getElem?_eq_getElem hcl2)
          · rw [Nat.zero_add, cell_of_row w b i c T fr hc, hu1]; rfl
          · rw [hu1]; exact hu2
          · rw [hu1]
            show Rep w own u x
            have hqd : i / inf.size < ds.length := by omega
            have hd := List.getElem?_eq_getElem hqd
            have hfx := flat_get hszd hd _ hr'
            rw [hdec, hx] at hfx
            rcases hcl _ _ (hone _ _ _ he hd) (hnt _ _ he) with ⟨y, h1, h2⟩ | ⟨h1, h2⟩
            · have hgx : es[i / inf.size].cells[i % inf.size]? = some (.d x) := by
                rw [h1]
                rw [h2] at hfx
                have : (AV.d y).cells = y.cells.map .d := by cases y <;> rfl
                rw [this, List.getElem?_map, ← hfx]
                rfl
              rw [List.getElem?_eq_getElem hcl2] at hgx
              simp only [Option.some.injEq] at hgx
              rw [hgx] at hu3
              exact hu3.d_inv.mono hE
            · have hs1 : inf.size = 1 := by
                have := hsz es[i / inf.size] (List.getElem_mem hqe)
                rw [h1] at this; simpa using this.symm
              have h0 : i % inf.size = 0 := by omega
              have hgx : es[i / inf.size].cells[i % inf.size]? = some es[i / inf.size] := by rw [h1, h0]; rfl
              rw [List.getElem?_eq_getElem hcl2] at hgx
              simp only [Option.some.injEq] at hgx
              rw [hgx] at hu3
              rw [h2, h0] at hfx
              simp only [List.getElem?_cons_zero, Option.some.injEq] at hfx
              rw [hfx]
              exact ih _ _ _ (hone _ _ _ he hd) hu3
      · cases hf
    | mp id =>
      simp only [freeze] at hf
      split at hf
      · rename_i es ho
        simp only [Option.map_eq_some_iff] at hf
        obtain ⟨ds, hds, rfl⟩ := hf
        obtain ⟨hid, hl, _⟩ := hr.mp_inv
        obtain ⟨b, hob, hv⟩ := hl es ho
        obtain ⟨b', hob', mm, cl, hm, hst, hsz, hent⟩ := H.obj id _ ho
        have hbb : b = b' := H.uniq b b' _ _ _ hob hob' (by simp)
        subst hbb
        obtain ⟨hlen, hget⟩ := Zhb hds
        have key : ∀ (i : Nat) e d, mm[i]? = some e → ds[i]? = some d → Rep w own e.key d.1 ∧ Rep w own e.val d.2 := by
          intro i e d he hd
          have hi : i < es.length := by rw [hlen]; exact (List.getElem?_eq_some_iff.1 hd).1
          have hx := List.getElem?_eq_getElem hi
          have h1 := hget i _ d hx hd
          simp only [Option.map_eq_some_iff] at h1
          obtain ⟨y, hy, rfl⟩ := h1
          obtain ⟨h2, h3⟩ := hent i e _ he hx
          exact ⟨h2.mono hE, ih _ _ _ hy h3⟩
        rw [hv]
        exact .fmap b mm cl ds hm (hdrop b id 0 hob) hst (by rw [hsz, hlen]) (fun i e d he hd => (key i e d he hd).1) (fun i e d he hd => (key i e d he hd).2)
      · cases hf
    | tup vs =>
      simp only [freeze, Option.map_eq_some_iff] at hf
      obtain ⟨ds, hds, rfl⟩ := hf
      obtain ⟨cs, rfl, hl, hh⟩ := hr.tup_inv
      obtain ⟨hlen, hget⟩ := Zhb hds
      refine .tup cs ds (by omega) fun i u d hu hd => ?_
      have hi : i < vs.length := by rw [hlen]; exact (List.getElem?_eq_some_iff.1 hd).1
      have hx := List.getElem?_eq_getElem hi
      exact ih _ _ _ (hget i _ d hx hd) (hh i u _ hu hx)
    | ptr _ _ => simp [freeze] at hf
    | fn _ _ => simp [freeze] at hf
end
end Go.Abs
namespace Go.Abs
def Zxe (P : Program) (own : Own) (st : St) (a : Act) (w : World) (o : Oper) (x : XV) : Prop :=
  ∀ (K : Act → World → Prop) (Q : Exit → Act → World → Prop), (∀ v w', Grow w w' → VRel P w' own st a v x → K (a.put o.dst v) w') → o.wp P a w K Q
section
variable {C : Ctx} {call : Zaa} {fa : FA} {own : Own} {st : St} {a : Act} {w : World} {o : Oper}
theorem GoodW.wp {x : XV} (h : GoodW C.P own st a w o x) : Zxe C.P own st a w o x := by
  intro K Q hK
  obtain ⟨v, w', hr, hg, hv⟩ := h
  unfold Oper.wp
  rw [hr]
  exact hK v w' hg hv
theorem Good.wp {x : XV} (h : Good C.P own st a w o x) : Zxe C.P own st a w o x := GoodW.wp h.grown
theorem Zop {h : List AObj} {v : Value} {fv : AV} {f : FuncId} {caps : List AV} (hr : ARep C.P w own h v fv) (hf : Zka fv = some (f, caps)) :
    ∃ cs : Array Value, v = .func (.func f) #[] cs ∧ cs.size = caps.length ∧ ∀ (i : Nat) u x, cs[i]? = some u → caps[i]? = some x → ARep C.P w own h u x := by
  unfold Zka at hf
  split at hf
  · rename_i g ds
    simp only [Option.some.injEq, Prod.mk.injEq] at hf
    obtain ⟨rfl, rfl⟩ := hf
    have := hr.d_inv
    cases this with
    | fn _ cs _ hl hh =>
      refine ⟨cs, rfl, by simpa using hl, fun i u x hu hx => ?_⟩
      rw [List.getElem?_map, Option.map_eq_some_iff] at hx
      obtain ⟨y, hy, rfl⟩ := hx
      exact .d _ _ (hh i u y hu hy)
  · rename_i g cs'
    simp only [Option.some.injEq, Prod.mk.injEq] at hf
    obtain ⟨rfl, rfl⟩ := hf
    cases hr with
    | fn _ cs _ hl hh => exact ⟨cs, rfl, hl, hh⟩
  · cases hf
theorem ZkH (hn : Za4 C.P) {c : Call} {g : Operand} {f : FuncId} {cs : Array Value} {K : Act → World → Prop} {Q : Exit → Act → World → Prop} (hop : o.op = .call c) (hc : c.callee = .value g)
    (hg : a.eval g = .func (.func f) #[] cs) (hb : ∃ fn, C.P.funcs[f]? = some fn ∧ fn.body.isSome = true)
    (h : Calls C.P f (c.args.map a.eval ++ cs) w fun | .returned v, w'' => K (a.put o.dst v) w'' | .panicked chain, w'' => Q (.panic chain) a w'' | .outgrown, _ => LetsOut Q) : o.wp C.P a w K Q := by
  obtain ⟨fn, hfn, hbd⟩ := hb
  have hname := hn f fn hfn
  have hbn : fn.body.isNone = false := by
    cases hbb : fn.body with
    | none => rw [hbb] at hbd; cases hbd
    | some _ => rfl
  have hname' : ¬ (fn.name == "runtime.NumGoroutine") = true := by rw [hname]; simp
  have hrun : (execOp a.eval o).run C.P w = .ok (.enter f (c.args.map a.eval ++ cs)) w := by
    simp only [execOp, hop, resolve, hc, hg, Deferred.ofValue, invoke, callFunc, Sem.run_bind, Sem.run_pure, Result.andThen_ok, run_program, hfn]
    rw [if_neg hname']
    simp only [hbn, Bool.false_eq_true, if_false, Sem.run_pure]
    congr 2
    simp
  unfold Oper.wp
  rw [hrun]
  exact h
theorem Zo4 (S : SRel C.P fa own st a w) {c : Call} {vs caps : List AV} {cs : Array Value} (hv : Za3 st c.args.toList = some vs) (hl : cs.size = caps.length)
    (hh : ∀ (i : Nat) u x, cs[i]? = some u → caps[i]? = some x → ARep C.P w own st.heap u x) : (c.args.map a.eval ++ cs).size = (vs ++ caps).length ∧
    ∀ (i : Nat) u x, (c.args.map a.eval ++ cs)[i]? = some u → (vs ++ caps)[i]? = some x → ARep C.P w own st.heap u x := by
  obtain ⟨h1, h2⟩ := Znk S hv
  have hs : c.args.size = vs.length := by simpa using h1
  refine ⟨by simp [hs, hl], fun i u x hu hx => ?_⟩
  rw [Array.getElem?_append] at hu
  simp only [Array.size_map, hs] at hu
  split at hu
  · rename_i hi
    rw [List.getElem?_append_left hi] at hx
    rw [Array.getElem?_map, Option.map_eq_some_iff] at hu
    obtain ⟨y, hy, rfl⟩ := hu
    exact h2 i y x (by simpa using hy) hx
  · rename_i hi
    rw [List.getElem?_append_right (by omega)] at hx
    exact hh _ u x hu hx
theorem ZvN (hK : Za2 C.P call) {frz : Bool} {f : FuncId} {ds : List DV} {r : DV} (he : Zci call frz f ds = some r) :
    ∃ rv hc, Has C.P f (ds.map .d) [] rv hc ∧ ((rv = .d r) ∨ (frz = true ∧ freeze hc 100 rv = some r)) := by
  unfold Zci at he
  split at he
  · rename_i r' hc hcall
    simp only [Option.some.injEq] at he
    subst he
    exact ⟨_, _, hK _ _ _ _ _ hcall, .inl rfl⟩
  · rename_i rv hc _ hcall
    cases frz with
    | false => cases he
    | true => exact ⟨_, _, hK _ _ _ _ _ hcall, .inr ⟨rfl, he⟩⟩
  · cases he
theorem Zpu {h : List AObj} : ∀ {vs : List AV} {ds : List DV} {k : Nat}, ZdO h vs = some (ds, k) → ds.length = vs.length ∧
    ∀ (i : Nat) v, vs[i]? = some v → ∃ x j, ds[i]? = some x ∧ ZpA h v = some (x, j) ∧ j ≤ k := by
  intro vs
  induction vs with
  | nil => intro ds k he; simp only [ZdO, Option.some.injEq, Prod.mk.injEq] at he; obtain ⟨rfl, rfl⟩ := he; simp
  | cons v vs ih =>
    intro ds k he
    simp only [ZdO] at he
    split at he
    · rename_i x j hx
      split at he
      · rename_i xs m hxs
        simp only [Option.some.injEq, Prod.mk.injEq] at he
        obtain ⟨rfl, rfl⟩ := he
        obtain ⟨h1, h2⟩ := ih hxs
        refine ⟨by simp [h1], fun i u hu => ?_⟩
        cases i with
        | zero => simp at hu; subst hu; exact ⟨x, j, rfl, hx, Nat.le_max_left _ _⟩
        | succ i =>
          simp at hu
          obtain ⟨y, q, h3, h4, h5⟩ := h2 i u hu
          exact ⟨y, q, by simpa using h3, h4, Nat.le_trans h5 (Nat.le_max_right _ _)⟩
      · cases he
    · cases he
def Zng (vs : List AV) (id : Nat) : Bool := vs.any fun v => match v with
  | .mp k => k == id
  | .osl k _ _ => k == id
  | _ => false
theorem ZzQ (H : HRel C.P w own st.heap) {vs : List AV} {v : AV} {x : DV} {k : Nat} {u : Value} (hm : v ∈ vs) (hl : ZpA st.heap v = some (x, k)) (hr : ARep C.P w own st.heap u v) :
    Rep w (ZbF (Zng vs) own) u x ∧ (k = 0 → ∃ y, v = .d y) ∧ (k = 1 → ∀ id, (v = .mp id ∨ ∃ g n, v = .osl id g n) → ∃ es, st.heap[id]? = some (.map es)) ∧ k ≤ 2 := by
  have hE := Zl8 w own (Zng vs)
  have lentNone : ∀ id b, own b = some (.obj id, 0) → Zng vs id = true → ZbF (Zng vs) own b = none := by
    intro id b hb hl
    rcases ZaM (Zng vs) own b with ⟨h1, _⟩ | ⟨_, _, _, _, h2⟩ | ⟨x', f', h1, h2, h3⟩
    · rw [h1] at hb; cases hb
    · exact h2
    · rw [hb] at h1
      simp only [Option.some.injEq, Prod.mk.injEq] at h1
      have := h3 id h1.1.symm
      rw [hl] at this; cases this
  unfold ZpA at hl
  split at hl
  · rename_i y
    simp only [Option.some.injEq, Prod.mk.injEq] at hl
    obtain ⟨rfl, rfl⟩ := hl
    exact ⟨hr.d_inv.mono hE, fun _ => ⟨_, rfl⟩, fun h => by simp at h, by omega⟩
  · rename_i id
    split at hl
    · rename_i es ho
      simp only [Option.map_eq_some_iff, Prod.mk.injEq] at hl
      obtain ⟨l, hl', rfl, rfl⟩ := hl
      refine ⟨?_, fun h => by simp at h, fun _ id' hid => ?_, by omega⟩
      · obtain ⟨hid, hlv, _⟩ := hr.mp_inv
        obtain ⟨b, hob, hv⟩ := hlv es ho
        obtain ⟨mm, cl, hmm, hst, hsz, hent⟩ := H.objAt ho hob
        obtain ⟨hlen, hget⟩ := Zhb hl'
        have key : ∀ (i : Nat) e d, mm[i]? = some e → l[i]? = some d → Rep w own e.key d.1 ∧ Rep w own e.val d.2 := by
          intro i e d he hd
          have hi : i < es.length := by rw [hlen]; exact (List.getElem?_eq_some_iff.1 hd).1
          have hx := List.getElem?_eq_getElem hi
          have h1 := hget i _ d hx hd
          simp only [Option.map_eq_some_iff] at h1
          obtain ⟨y, hy, rfl⟩ := h1
          obtain ⟨h2, h3⟩ := hent i e _ he hx
          refine ⟨h2, ?_⟩
          generalize es[i].2 = av at hy h3
          cases av <;> simp only [AV.toD] at hy <;> try (cases hy; done)
          simp only [Option.some.injEq] at hy
          subst hy
          exact h3.d_inv
        rw [hv]
        refine .fmap b mm cl l hmm (lentNone id b hob ?_) hst (by rw [hsz, hlen]) (fun i e d he hd => ((key i e d he hd).1).mono hE) (fun i e d he hd => ((key i e d he hd).2).mono hE)
        exact List.any_eq_true.2 ⟨_, hm, by simp⟩
      · rcases hid with h | ⟨g, n, h⟩
        · cases h; exact ⟨es, ho⟩
        · cases h
    · cases hl
  · rename_i id g n
    split at hl
    · rename_i g' ap es ho
      cases hb : Nat.beq g g' && Nat.ble n es.length with
      | false => rw [hb] at hl; cases hl
      | true =>
        rw [hb] at hl
        simp only [Bool.and_eq_true] at hb
        simp only [cond_true, Option.map_eq_some_iff, Prod.mk.injEq] at hl
        obtain ⟨l, hl', rfl, rfl⟩ := hl
        refine ⟨?_, fun h => by simp at h, fun h => by simp at h, Nat.le_refl _⟩
        have hgg : g = g' := Nat.eq_of_beq_eq_true hb.1
        subst hgg
        have hn : n ≤ es.length := Nat.le_of_ble_eq_true hb.2
        have hds := Zeo hl'
        obtain ⟨hid, _, _, hlv⟩ := hr.osl_inv
        obtain ⟨b, cap, c, T, fr, inf, hv, hob, hc, hi, hcs⟩ := hlv ap es ho
        obtain ⟨c', T', fr', inf2, hc', hi2, _, _, hsz, hpos, hle, hcells⟩ := H.objAt ho hob
        rw [hc] at hc'
        simp only [Option.some.injEq, Obj.cells.injEq] at hc'
        obtain ⟨rfl, rfl, rfl⟩ := hc'
        rw [hi] at hi2
        simp only [Option.some.injEq] at hi2
        subst hi2
        have hll : l.length = n := by
          have := congrArg List.length hds
          rw [List.length_take, List.length_map] at this; omega
        have hcap : n ≤ cap := by
          have h1 : n * inf.size ≤ cap * inf.size := by rw [← hcs]; exact Nat.le_trans (Nat.mul_le_mul_right _ hn) hle
          exact Nat.le_of_mul_le_mul_right h1 hpos
        have hszl : ∀ y ∈ l, y.cells.length = inf.size := by
          intro y hy
          have : AV.d y ∈ es.take n := by rw [hds]; exact List.mem_map.2 ⟨y, hy, rfl⟩
          have h1 := hsz _ (List.mem_of_mem_take this)
          have h2 : (AV.d y).cells = y.cells.map .d := by cases y <;> rfl
          rw [h2, List.length_map] at h1
          exact h1
        have hfl : ∀ (i : Nat) (x : DV), (l.flatMap DV.cells)[i]? = some x → (es.flatMap AV.cells)[i]? = some (.d x) := by
          intro i x hx
          have h1 : (es.take n).flatMap AV.cells = (l.flatMap DV.cells).map AV.d := by
            rw [hds, List.flatMap_map, List.map_flatMap]
            congr 1
            funext y
            cases y <;> rfl
          have h2 := ZpC hsz n
          rw [h1] at h2
          have h3 : ((l.flatMap DV.cells).map AV.d)[i]? = some (.d x) := by rw [List.getElem?_map, hx]; rfl
          rw [h2, List.getElem?_take] at h3
          split at h3
          · exact h3
          · cases h3
        have hnone := lentNone id b hob (List.any_eq_true.2 ⟨_, hm, by simp⟩)
        rw [hv, ← hll]
        have hin : ∀ i, i < l.length * inf.size → ∃ x u, (l.flatMap DV.cells)[i]? = some x ∧ c[i]? = some u ∧ u.oneCell' = true ∧ Rep w own u x := by
          intro i hi'
          have hlt : i < (l.flatMap DV.cells).length := by rw [Za5 hszl]; exact hi'
          have hx := List.getElem?_eq_getElem hlt
          obtain ⟨u, h1, h2, h3⟩ := hcells i _ (hfl i _ hx)
          exact ⟨_, u, hx, h1, h2, h3.d_inv⟩
        refine .slc b 0 cap inf.size l (fun i => c[i]?.getD undef) (by omega) hszl (fun i hi' => ?_) (fun i _ x f hx => by rw [hnone] at hx; cases hx) (fun i hi' => ?_) (fun i x hx => ?_)
        · obtain ⟨x, u, _, h1, _⟩ := hin i hi'
          rw [Nat.zero_add, cell_of_row w b i c T fr hc, h1]; rfl
        · obtain ⟨x, u, _, h1, h2, _⟩ := hin i hi'
          rw [h1]; exact h2
        · have hi' : i < l.length * inf.size := by
            have := (List.getElem?_eq_some_iff.1 hx).1
            rwa [Za5 hszl] at this
          obtain ⟨x', u, h0, h1, _, h3⟩ := hin i hi'
          rw [hx] at h0
          simp only [Option.some.injEq] at h0
          subst h0
          rw [h1]
          exact h3.mono hE
    · cases hl
  · cases hl
theorem ZzU (H : HRel C.P w own st.heap) {L : Nat → Bool} {w' : World} {own1 : Own} {v : Value} {rv : AV} {hc : List AObj} {r : DV} {k : Nat} (F : Frm w (ZbF L own) w' own1) (H1 : HRel C.P w' own1 hc)
    (hrr : ARep C.P w' own1 hc v rv) (hok : Zqh k r = true) (h0 : k = 0 → ∀ id, L id = false) (h1 : k = 1 → ∀ id, L id = true → ∃ es, st.heap[id]? = some (.map es))
    (hr : rv = .d r ∨ (k = 0 ∧ freeze hc 100 rv = some r)) : Rep w' own v r := by
  rcases hr with rfl | ⟨rfl, hf⟩
  · exact ZzI H F hrr.d_inv k hok h0 h1
  · have hL := h0 rfl
    have small : ∀ b x f, own b = some (x, f) → own1 b = some (.ext, f) := by
      intro b x f hb
      rw [Ze9 F b (H.lt b _ hb)]
      rcases ZaM L own b with ⟨h2, _⟩ | ⟨id, f', h2, h3, _⟩ | ⟨x', f', h2, h3, _⟩
      · rw [h2] at hb; cases hb
      · rw [hL id] at h3; cases h3
      · rw [h2] at hb
        simp only [Option.some.injEq, Prod.mk.injEq] at hb
        rw [h3, hb.2]
    refine Zm1 (own1 := own1) (P := C.P) (h := hc) ⟨fun b o u hcell hp => ⟨hcell, fun x f hx => hp _ _ (small b x f hx)⟩, fun b es c hm hn => ⟨hm, ?_⟩⟩ (fun b id f hb => ?_) H1 100 rv r v hf hrr
    · cases hx : own b with
      | none => rfl
      | some y => obtain ⟨x, f⟩ := y; rw [small b x f hx] at hn; cases hn
    · cases hx : own b with
      | none => rfl
      | some y => obtain ⟨x, f'⟩ := y; rw [small b x f' hx] at hb; simp at hb
theorem Ztq (hn : Za4 C.P) (hK : Za2 C.P call) (S : SRel C.P fa own st a w) {c : Call} {g : Operand} {fv : AV} {vs caps : List AV} {f : FuncId} {ds : List DV} {k : Nat} {frz : Bool} {r : DV}
    (hop : o.op = .call c) (hc : c.callee = .value g) (hg : opA st g = some fv) (hv : Za3 st c.args.toList = some vs) (hf : Zka fv = some (f, caps))
    (he : Zci call frz f ds = some r) (hl : ZdO st.heap (vs ++ caps) = some (ds, k)) (hfr : frz = true → k = 0) (hok : Zqh k r = true) : Zxe C.P own st a w o (.a (.d r)) := by
  intro K Q hKK
  obtain ⟨cs, hgv, hcl, hch⟩ := Zop (ZbO S hg) hf
  obtain ⟨ha1, ha2⟩ := Zo4 S hv hcl hch
  obtain ⟨rv, hcp, ⟨hb, hhas⟩, hr⟩ := ZvN hK he
  obtain ⟨hl1, hl2⟩ := Zpu hl
  let L := Zng (vs ++ caps)
  have each : ∀ (i : Nat) v, (vs ++ caps)[i]? = some v → ∃ u x j, (c.args.map a.eval ++ cs)[i]? = some u ∧ ds[i]? = some x ∧ j ≤ k ∧ Rep w (ZbF L own) u x ∧ (j = 0 → ∃ y, v = .d y) ∧
      (j = 1 → ∀ id, (v = .mp id ∨ ∃ g n, v = .osl id g n) → ∃ es, st.heap[id]? = some (.map es)) := by
    intro i v hv'
    have hi : i < (c.args.map a.eval ++ cs).size := by rw [ha1]; exact (List.getElem?_eq_some_iff.1 hv').1
    have hu := Array.getElem?_eq_getElem hi
    obtain ⟨x, j, h3, h4, h5⟩ := hl2 i v hv'
    obtain ⟨g1, g2, g3, _⟩ := ZzQ S.h (List.mem_of_getElem? hv') h4 (ha2 i _ v hu hv')
    exact ⟨_, x, j, hu, h3, h5, g1, g2, g3⟩
  have isL : ∀ id, L id = true → ∃ (i : Nat) (v : AV), (vs ++ caps)[i]? = some v ∧ (v = .mp id ∨ ∃ g n, v = .osl id g n) := by
    intro id hL
    obtain ⟨v, hm, hv'⟩ := List.any_eq_true.1 hL
    obtain ⟨i, hi, rfl⟩ := List.mem_iff_getElem.1 hm
    refine ⟨i, _, List.getElem?_eq_getElem hi, ?_⟩
    generalize (vs ++ caps)[i] = av at hv'
    cases av <;> simp at hv'
    · subst hv'; exact .inr ⟨_, _, rfl⟩
    · subst hv'; exact .inl rfl
  have hk0 : k = 0 → ∀ id, L id = false := by
    intro hk id
    cases hL : L id with
    | false => rfl
    | true =>
      obtain ⟨i, v, hv', hid⟩ := isL id hL
      obtain ⟨u, x, j, _, _, h5, _, h6, _⟩ := each i v hv'
      obtain ⟨y, rfl⟩ := h6 (by omega)
      rcases hid with h | ⟨_, _, h⟩ <;> cases h
  have hk1 : k = 1 → ∀ id, L id = true → ∃ es, st.heap[id]? = some (.map es) := by
    intro hk id hL
    obtain ⟨i, v, hv', hid⟩ := isL id hL
    obtain ⟨u, x, j, _, _, h5, _, h6, h7⟩ := each i v hv'
    rcases Nat.lt_or_ge j 1 with hj | hj
    · obtain ⟨y, rfl⟩ := h6 (by omega)
      rcases hid with h | ⟨_, _, h⟩ <;> cases h
    · exact h7 (by omega) id hid
  refine ZkH hn hop hc hgv hb ?_
  refine (hhas w (ZbF L own) _ (Zki S.h L) (Zj2 L own) (by rw [ha1, List.length_map, hl1]) (fun i v x hv' hx => ?_)).mono ?_
  · rw [List.getElem?_map, Option.map_eq_some_iff] at hx
    obtain ⟨y, hy, rfl⟩ := hx
    have hi : i < (vs ++ caps).length := by rw [← hl1]; exact (List.getElem?_eq_some_iff.1 hy).1
    obtain ⟨u, x, j, h1, h2, _, h3, _⟩ := each i _ (List.getElem?_eq_getElem hi)
    rw [h1] at hv'
    rw [h2] at hy
    simp only [Option.some.injEq] at hv' hy
    rw [← hv', ← hy]
    exact .d _ _ h3
  · rintro e w' ⟨v, own1, rfl, _, H1, hrr, F, _⟩
    refine hKK v w' (ZgP F) fun _ => .d _ _ ?_
    refine ZzU S.h F H1 hrr hok hk0 hk1 ?_
    rcases hr with h | h
    · exact .inl h
    · exact .inr ⟨hfr h.1, h.2⟩
end
end Go.Abs
namespace Go.Abs
section
variable {C : Ctx} {call : Zaa} {fa : FA} {own : Own} {st st' : St} {a : Act} {w : World} {o : Oper}
theorem Zqt {h : List AObj} {vs : List AV} {ds : List DV} (hd : Zeh vs = some ds) : ZdO h vs = some (ds, 0) := by
  have := Zeo hd
  subst this
  clear hd
  induction ds with
  | nil => rfl
  | cons d ds ih => simp only [List.map_cons, ZdO, ZpA, ih]; rfl
theorem Zlk (hn : Za4 C.P) (hK : Za2 C.P call) (S : SRel C.P fa own st a w) {x : XV} (he : ZaY C call fa o st = some x) : Zxe C.P own st a w o x := by
  unfold ZaY at he
  split at he
  case h_1 y hop =>
    cases ht : Zce fa o.dst with
    | true => rw [ht] at he; cases he
    | false => rw [ht] at he; exact (Zpi S (.inl hop) he).wp
  case h_2 y hop =>
    cases ht : Zce fa o.dst with
    | true => rw [ht] at he; cases he
    | false => rw [ht] at he; exact (Zpi S (.inr hop) he).wp
  case h_3 c y z hop =>
    split at he
    · rename_i t hc; exact (ZxF S hop hc he).wp
    · cases he
  case h_4 t ps hop =>
    cases hb : Zcd C t st ps.toList with
    | none => rw [hb] at he; cases he
    | some d => rw [hb] at he; simp only [oD, Option.some.injEq] at he; subst he; exact (Zvb S hop hb).wp
  case h_5 t n ps hop =>
    cases ht : Zce fa o.dst with
    | true => rw [ht] at he; cases he
    | false =>
      rw [ht] at he
      simp only [cond_false] at he
      split at he
      · rename_i es hes; simp only [Option.some.injEq] at he; subst he; exact (Zzj S hop hes).wp
      · split at he
        · simp only [Option.some.injEq] at he; subst he; exact (ZrM hop (by assumption) (by assumption)).wp
        · cases he
  case h_6 t y hop =>
    split at he
    · rename_i p hp
      cases hl : Zbl C t st p with
      | none => rw [hl] at he; cases he
      | some v => rw [hl] at he; simp only [oA, Option.some.injEq] at he; subst he; exact (Zx7 S hop hp hl).wp
    · cases he
  case h_7 y hop =>
    split at he
    · rename_i v hv; exact (ZnU S hop hv he).wp
    · cases he
  case h_8 op t y z yt hop =>
    split at he
    · rename_i u v hu hv
      cases hb : ZjL C op t u v with
      | none => rw [hb] at he; cases he
      | some d => rw [hb] at he; simp only [oD, Option.some.injEq] at he; subst he; exact (Zvv S hop hu hv hb).wp
    · cases he
  case h_9 op t y hop =>
    split at he
    · rename_i u hu
      cases hb : dUn op u with
      | none => rw [hb] at he; cases he
      | some d => rw [hb] at he; simp only [oD, Option.some.injEq] at he; subst he; exact (ZwP S hop hu hb).wp
    · cases he
  case h_10 s t y hop =>
    split at he
    · rename_i u hu
      cases hb : ZaA C st.heap s t u with
      | none => rw [hb] at he; cases he
      | some d => rw [hb] at he; simp only [oD, Option.some.injEq] at he; subst he; exact (Zq8 S hop hu hb).wp
    · cases he
  case h_11 f first cap hop =>
    split at he
    · rename_i vs hf hv; simp only [Option.some.injEq] at he; subst he; exact (Zos S hop hf hv).wp
    · cases he
  case h_12 t y lo hi hop =>
    split at he
    · rename_i u l h hu hl hh
      cases hb : ZbX C t u l h with
      | none => rw [hb] at he; cases he
      | some d => rw [hb] at he; simp only [oD, Option.some.injEq] at he; subst he; exact (Zvg S hop hu hl hh hb).wp
    · cases he
  case h_13 t y f hop =>
    split at he
    · rename_i p hp; exact (ZmH S hop hp he).wp
    · cases he
  case h_14 t y f hop =>
    split at he
    · rename_i u hu
      cases hb : Zb3 C t f u with
      | none => rw [hb] at he; cases he
      | some d => rw [hb] at he; simp only [oD, Option.some.injEq] at he; subst he; exact (Zu7 S hop hu hb).wp
    · cases he
  case h_15 t y i hop =>
    split at he
    · rename_i v k n hv hi; exact (Zmy S hop hv hi he).wp
    · cases he
  case h_16 t y i hop =>
    split at he
    · rename_i v k n hv hi
      cases hb : Zcb C t v n with
      | none => rw [hb] at he; cases he
      | some d => rw [hb] at he; simp only [oD, Option.some.injEq] at he; subst he; exact (Zuf S hop hv hi hb).wp
    · cases he
  case h_17 t y k ok hop =>
    split at he
    · rename_i m kd hm hk
      cases hb : Zbm C t st.heap m kd ok with
      | none => rw [hb] at he; cases he
      | some d => rw [hb] at he; simp only [oA, Option.some.injEq] at he; subst he; exact (Zrv S hop hm hk hb).wp
    · cases he
  case h_18 y i hop =>
    split at he
    · rename_i v hv
      cases hb : ZaL v i with
      | none => rw [hb] at he; cases he
      | some d => rw [hb] at he; simp only [oA, Option.some.injEq] at he; subst he; exact (Zqk S hop hv hb).wp
    · cases he
  case h_19 c hop =>
    split at he
    · rename_i b hb
      cases hd : ZaJ C st b c.args.toList c.argTypes.toList with
      | none => rw [hd] at he; cases he
      | some d =>
        rw [hd] at he
        simp only [oD, Option.some.injEq] at he
        subst he
        unfold ZaJ at hd
        split at hd
        · rename_i y t ha ht
          split at hd
          · rename_i v hv; exact (Zzq S hop hb ha ht hv hd).wp
          · cases hd
        · rename_i xs _ _
          split at hd
          · rename_i ds hds; exact (ZsL S hop rfl hds (.inl ⟨hb, hd⟩)).wp
          · cases hd
        · rename_i xs _ _
          split at hd
          · rename_i ds hds; exact (ZsL S hop rfl hds (.inr ⟨hb, hd⟩)).wp
          · cases hd
        · cases hd
    · rename_i g hg
      split at he
      · rename_i fv vs hfv hvs
        split at he
        · rename_i f caps hf
          cases hl : Za0 fa.lend o.dst with
          | true =>
            rw [hl] at he
            simp only [cond_true] at he
            split at he
            · rename_i ds k hld
              split at he
              · rename_i r hr
                cases hok : Zqh k r with
                | false => rw [hok] at he; cases he
                | true =>
                  rw [hok] at he
                  simp only [cond_true, Option.some.injEq] at he
                  subst he
                  exact Ztq hn hK S hop hg hfv hvs hf hr hld (fun h => by cases h) hok
              · cases he
            · cases he
          | false =>
            rw [hl] at he
            simp only [cond_false] at he
            split at he
            · rename_i ds hds
              cases hr : Zci call (Za0 fa.frz o.dst) f ds with
              | none => rw [hr] at he; cases he
              | some r =>
                rw [hr] at he
                simp only [oD, Option.some.injEq] at he
                subst he
                exact Ztq hn hK S hop hg hfv hvs hf hr (Zqt hds) (fun _ => rfl) rfl
            · cases he
        · cases he
      · cases he
    · cases he
  case h_20 => cases he
theorem Zsx {a : Act} {d : Nat} {v : Value} (hd : d < a.tmps.size) (s : Nat) : (a.put (some d) v).tmps.getD s undef = if s = d then v else a.tmps.getD s undef := by
  simp only [Act.put]
  by_cases h : s = d
  · subst h; rw [if_pos rfl]; simp [hd]
  · rw [if_neg h]; simp [Array.getElem?_setIfInBounds_ne (Ne.symm h)]
theorem SRel.put (S : SRel C.P fa own st a w) {dst : Option Tmp} {v : Value} {x : XV} (hx : ∀ t, dst = some t → XRel C.P w own st.heap st.env (fun s => a.tmps.getD s undef) t v x)
    (hp : st.put fa dst x = some st') : SRel C.P fa own st' (a.put dst v) w := by
  cases dst with
  | none => simp only [St.put, Option.some.injEq] at hp; subst hp; exact S
  | some t =>
    simp only [St.put] at hp
    cases hlt : Nat.blt t fa.nt with
    | false => rw [hlt] at hp; cases hp
    | true =>
      rw [hlt] at hp
      have ht : t < a.tmps.size := by rw [S.nt]; simpa [Nat.blt_eq] using hlt
      have hget := fun s => Zsx (v := v) ht s
      have hxt := hx t rfl
      simp only [cond_true] at hp
      cases hk : has fa.keep t with
      | true =>
        rw [hk] at hp
        simp only [cond_true] at hp
        split at hp
        · rename_i av hav
          simp only [Option.some.injEq] at hp
          subst hp
          have hrep : ARep C.P w own st.heap v av := by
            cases x <;> simp only [XV.flat] at hav <;> try (cases hav; done)
            · simp only [XV.a.injEq] at hav; subst hav; exact hxt
            · simp only [XV.a.injEq] at hav; subst hav; exact .d _ _ (OwnRel.rep hxt)
            · simp only [XV.a.injEq] at hav; subst hav; exact .d _ _ hxt.1
          refine ⟨S.h, by simp [Act.put, S.nt], S.defers, fun s sv hs => ?_, S.tk, fun s sv hs => ?_, fun u y hu => ?_⟩
          · rw [ZaC] at hs
            cases hb : Nat.beq t s with
            | true => rw [← Nat.eq_of_beq_eq_true hb]; exact hk
            | false => rw [hb] at hs; exact S.ek s sv hs
          · rw [ZaC] at hs
            rw [hget s]
            cases hb : Nat.beq t s with
            | true =>
              rw [hb] at hs
              simp only [cond_true, Option.some.injEq] at hs
              subst hs
              rw [if_pos (Nat.eq_of_beq_eq_true hb).symm]
              exact hrep
            | false =>
              rw [hb] at hs
              rw [if_neg (Ne.symm (beq_ne.1 hb))]
              exact S.env s sv hs
          · have hut : u ≠ t := by rintro rfl; rw [S.tk u y hu] at hk; cases hk
            rw [hget u, if_neg hut]
            refine (S.tmp u y hu).mono ((Grow.refl w).extA own st.heap) (fun _ _ _ _ hb => hb) ((Grow.refl w).keep S.h _) (fun s es hal es' hes => ?_)
            rw [ZaC] at hes
            cases hb : Nat.beq t s with
            | true => rw [hb] at hes; simp at hes
            | false => rw [hb] at hes; exact ⟨hes, by rw [hget s, if_neg (Ne.symm (beq_ne.1 hb))]⟩
        · cases hp
      | false =>
        rw [hk] at hp
        simp only [cond_false, Option.some.injEq] at hp
        subst hp
        have alfix : ∀ u y, XRel C.P w own st.heap st.env (fun s => a.tmps.getD s undef) u (if u = t then v else a.tmps.getD u undef) y →
            XRel C.P w own st.heap st.env (fun s => (a.put (some t) v).tmps.getD s undef) u (if u = t then v else a.tmps.getD u undef) y := by
          intro u y hy
          refine hy.mono ((Grow.refl w).extA own st.heap) (fun _ _ _ _ hb => hb) ((Grow.refl w).keep S.h _) (fun s es hal es' hes => ⟨hes, ?_⟩)
          have : s ≠ t := by rintro rfl; rw [S.ek s _ hes] at hk; cases hk
          rw [hget s, if_neg this]
        refine ⟨S.h, by simp [Act.put, S.nt], S.defers, S.ek, fun u y hu => ?_, fun s sv hs => ?_, fun u y hu => ?_⟩
        · rw [ZaI] at hu
          cases hb : Nat.beq t u with
          | true => rw [← Nat.eq_of_beq_eq_true hb]; exact hk
          | false => rw [hb] at hu; exact S.tk u y hu
        · have : s ≠ t := by rintro rfl; rw [S.ek s sv hs] at hk; cases hk
          rw [hget s, if_neg this]
          exact S.env s sv hs
        · rw [ZaI] at hu
          rw [hget u]
          refine alfix u y ?_
          cases hb : Nat.beq t u with
          | true =>
            rw [hb] at hu
            simp only [cond_true, Option.some.injEq] at hu
            subst hu
            have := Nat.eq_of_beq_eq_true hb
            subst this
            rw [if_pos rfl]
            exact hxt
          | false =>
            rw [hb] at hu
            rw [if_neg (Ne.symm (beq_ne.1 hb))]
            exact S.tmp u y hu
end
end Go.Abs
namespace Go.Abs
def ZeU (P : Program) (fa : FA) (own : Own) (h : List AObj) (st' : St) (a : Act) (w : World) (o : Oper) : Prop :=
  ∀ (K : Act → World → Prop) (Q : Exit → Act → World → Prop), (∀ a' w' own', SRel P fa own' st' a' w' → Frm w own w' own' → ExtA w own h w' own' st'.heap → K a' w') → o.wp P a w K Q
section
variable {C : Ctx} {call : Zaa} {fa : FA} {own own' : Own} {st st' : St} {a : Act} {w w' : World} {o : Oper}
theorem ZaV {v : Value} (hr : (execOp a.eval o).run C.P w = .ok (.value v) w') (S : SRel C.P fa own' st' (a.put o.dst v) w') (F : Frm w own w' own') (E : ExtA w own st.heap w' own' st'.heap) : ZeU C.P fa own st.heap st' a w o := by
  intro K Q hK
  unfold Oper.wp
  rw [hr]
  exact hK _ _ _ S F E
theorem Zh3 (hr : (execOp a.eval o).run C.P w = .ok .skip w') (S : SRel C.P fa own' st' (a.put o.dst undef) w') (F : Frm w own w' own') (E : ExtA w own st.heap w' own' st'.heap) : ZeU C.P fa own st.heap st' a w o := by
  intro K Q hK
  unfold Oper.wp
  rw [hr]
  exact hK _ _ _ S F E
theorem ZbA {dst : Option Tmp} {x : XV} (hp : st.put fa dst x = some st') : st'.heap = st.heap := by
  unfold St.put at hp
  split at hp
  · simp only [Option.some.injEq] at hp; subst hp; rfl
  · rename_i t
    cases h1 : Nat.blt t fa.nt <;> rw [h1] at hp
    · cases hp
    · cases h2 : has fa.keep t <;> rw [h2] at hp
      · simp only [cond_true, cond_false, Option.some.injEq] at hp; subst hp; rfl
      · simp only [cond_true] at hp
        split at hp
        · simp only [Option.some.injEq] at hp; subst hp; rfl
        · cases hp
theorem ZjX (S : SRel C.P fa own st a w) {x : XV} (hv : Zxe C.P own st a w o x) (hp : st.put fa o.dst x = some st') : ZeU C.P fa own st.heap st' a w o := by
  intro K Q hK
  refine hv K Q fun v w' g hr => ?_
  exact hK _ _ own ((S.grow g).put (fun t _ => hr t) hp) (g.frm own) (by rw [ZbA hp]; exact g.extA own st.heap)
theorem SRel.heapStep (S : SRel C.P fa own st a w) {h' : List AObj} (H : HRel C.P w' own' h') (e : ExtA w own st.heap w' own' h')
    (k : ∀ x, (∀ id, x ≠ .obj id) → Keep w own w' own' x) : SRel C.P fa own' { st with heap := h' } a w' :=
  ⟨H, S.nt, S.defers, S.ek, S.tk, fun s sv hs => (S.env s sv hs).mono e (k _ (by simp)) (k _ (by simp)),
    fun t x ht => (S.tmp t x ht).mono e (fun s _ _ b hb => (k (.box s) (by simp) b 0 hb).1) (k _ (by simp)) (fun _ _ _ _ he => ⟨he, rfl⟩)⟩
def upd (own : Own) (b : Nat) (y : Option (Owner × Nat)) : Own := fun k => if k = b then y else own k
theorem Ybt (H : HRel C.P w own st.heap) : own w.heap.size = none := by
  cases h : own w.heap.size with
  | none => rfl
  | some x => exact absurd (H.lt _ _ h) (Nat.lt_irrefl _)
theorem Zrz {P : Program} {h h' : List AObj} (H : HRel P w own h) (g : Grow w w') (y : Option (Owner × Nat)) (hlen : h.length ≤ h'.length)
    (hk : ∀ (id : Nat) (x x' : AObj), h[id]? = some x → h'[id]? = some x' → x = x') : ExtA w own h w' (upd own w.heap.size y) h' := by
  have hu : ∀ b, b < w.heap.size → upd own w.heap.size y b = own b := fun b hb => by simp [upd, Nat.ne_of_lt hb]
  refine ⟨⟨fun b o v hc hp => ⟨by rw [ZbQ (g.blk b (Zdc hc)), hc], fun x f hx => hp x f (by rwa [hu b (Zdc hc)] at hx)⟩,
    fun b es c hc hp => ⟨by rw [g.blk b (ZaN hc), hc], by rw [hu b (ZaN hc), hp]⟩⟩, hlen, fun id x x' h1 h2 => ?_, fun b id x x' hb h1 h2 _ => ?_⟩
  · rw [hk id x x' h1 h2]; exact AObj.later_refl x'
  · exact ⟨by rw [hu b (H.lt b _ hb), hb], fun c T fr hc => ⟨c, by rw [g.blk b (ZaN hc), hc], rfl⟩⟩
theorem Zof {P : Program} {h : List AObj} (H : HRel P w own h) (g : Grow w w') (y : Option (Owner × Nat)) (x : Owner) : Keep w own w' (upd own w.heap.size y) x :=
  fun b f hb => ⟨by simp [upd, Nat.ne_of_lt (H.lt b _ hb), hb], g.blk b (H.lt b _ hb)⟩
theorem Zih (g : Grow w w') (y : Option (Owner × Nat)) : Frm w own w' (upd own w.heap.size y) :=
  ⟨g.os, g.tape, g.output, g.size, fun b hb _ => ⟨g.blk b hb, by simp [upd, Nat.ne_of_lt hb]⟩⟩
theorem SRel.newObj (S : SRel C.P fa own st a w) (g : Grow w w') (hlt : w.heap.size < w'.heap.size) {x : AObj}
    (hx : ∀ own', ExtA w own st.heap w' own' (st.heap ++ [x]) → own' w.heap.size = some (.obj st.heap.length, 0) → ORel C.P w' own' (st.heap ++ [x]) w.heap.size x) :
    SRel C.P fa (upd own w.heap.size (some (.obj st.heap.length, 0))) { st with heap := st.heap ++ [x] } a w' ∧
      ExtA w own st.heap w' (upd own w.heap.size (some (.obj st.heap.length, 0))) (st.heap ++ [x]) := by
  have hold : ∀ id y, st.heap[id]? = some y → (st.heap ++ [x])[id]? = some y := fun id y hy => by rw [List.getElem?_append_left (List.getElem?_eq_some_iff.1 hy).1, hy]
  have e := Zrz S.h g (some (.obj st.heap.length, 0)) (h' := st.heap ++ [x]) (by simp) (fun id y y' h1 h2 => by rw [hold id y h1] at h2; simpa using h2)
  have hu : ∀ b, b < w.heap.size → upd own w.heap.size (some (.obj st.heap.length, 0)) b = own b := fun b hb => by simp [upd, Nat.ne_of_lt hb]
  have hnew : upd own w.heap.size (some (.obj st.heap.length, 0)) w.heap.size = some (.obj st.heap.length, 0) := by simp [upd]
  have cases' : ∀ b z, upd own w.heap.size (some (.obj st.heap.length, 0)) b = some z → (b = w.heap.size ∧ z = (.obj st.heap.length, 0)) ∨ own b = some z := by
    intro b z hz
    unfold upd at hz
    split at hz
    · simp only [Option.some.injEq] at hz; exact .inl ⟨by assumption, hz.symm⟩
    · exact .inr hz
  refine ⟨S.heapStep ⟨fun id y hy => ?_, fun b b' z f f' h1 h2 hne => ?_, fun b z hz => ?_, fun b id f hb => ?_⟩ e (fun z _ => Zof S.h g _ z), e⟩
  · rcases Nat.lt_or_ge id st.heap.length with hid | hid
    · rw [List.getElem?_append_left hid] at hy
      obtain ⟨b, hb, hr⟩ := S.h.obj id y hy
      have hlt' := S.h.lt b _ hb
      exact ⟨b, by rw [hu b hlt', hb], hr.mono e (g.blk b hlt')⟩
    · rw [List.getElem?_append_right hid] at hy
      have : id = st.heap.length := by
        have := (List.getElem?_eq_some_iff.1 hy).1
        simp at this; omega
      subst this
      simp at hy
      subst hy
      exact ⟨w.heap.size, hnew, hx _ e hnew⟩
  · rcases cases' b _ h1 with ⟨rfl, hz⟩ | hz <;> rcases cases' b' _ h2 with ⟨rfl, hz'⟩ | hz'
    · rfl
    · simp only [Prod.mk.injEq] at hz
      rw [hz.1] at hz'
      exact absurd (S.h.idlt _ _ _ hz').1 (Nat.lt_irrefl _)
    · simp only [Prod.mk.injEq] at hz'
      rw [hz'.1] at hz
      exact absurd (S.h.idlt _ _ _ hz).1 (Nat.lt_irrefl _)
    · exact S.h.uniq b b' z f f' hz hz' hne
  · rcases cases' b _ hz with ⟨rfl, _⟩ | hz
    · exact hlt
    · exact Nat.lt_of_lt_of_le (S.h.lt b _ hz) g.size
  · rcases cases' b _ hb with ⟨rfl, hz⟩ | hz
    · simp only [Prod.mk.injEq, Owner.obj.injEq] at hz; exact ⟨by simp [hz.1], hz.2⟩
    · have := S.h.idlt b id f hz; exact ⟨by simp; omega, this.2⟩
theorem ZeB (w : World) (x : Obj) : (w.alloc x).heap.size = w.heap.size + 1 := by simp
theorem Zex (w : World) (x : Obj) : (w.alloc x).heap[w.heap.size]? = some x := by
  show (w.heap.push x)[_]? = _
  simp
theorem Zsn (S : SRel C.P fa own st a w) {t : TypeId} (hop : o.op = .makeMap t none)
    (he : St.put fa { st with heap := st.heap ++ [AObj.map []] } o.dst (.a (.mp st.heap.length)) = some st') : ZeU C.P fa own st.heap st' a w o := by
  have g := Grow.alloc w (.map #[] 0)
  have S1 := S.newObj g (by rw [ZeB]; omega) (x := .map []) (fun own' _ _ => ⟨#[], 0, Zex w _, ⟨by simp, by simp⟩, rfl, fun j e x he => by simp at he⟩)
  refine ZaV (v := .map (some w.heap.size)) (w' := w.alloc (.map #[] 0)) (by simp [execOp, hop, Instr.makeMap]) (S1.1.put (fun t _ => ?_) he) (Zih g _) (by rw [ZbA he]; exact S1.2)
  exact .mp _ _ (by simp) (fun es _ => ⟨w.heap.size, by simp [upd], rfl⟩) ⟨_, rfl⟩
theorem YaC {h : List AObj} {v : Value} {x : AV} (hr : ARep C.P w own h v x) (hk : x.cellOk = true) : v.cells.size = x.cells.length ∧
    (∀ (i : Nat) u, v.cells[i]? = some u → u.oneCell' = true) ∧ ∀ (i : Nat) u y, v.cells[i]? = some u → x.cells[i]? = some y → ARep C.P w own h u y := by
  have one : v.oneCell' = true → v.cells = #[v] → x.cells = [x] → v.cells.size = x.cells.length ∧
    (∀ (i : Nat) u, v.cells[i]? = some u → u.oneCell' = true) ∧ ∀ (i : Nat) u y, v.cells[i]? = some u → x.cells[i]? = some y → ARep C.P w own h u y := by
    intro h1 hv hx
    rw [hv, hx]
    refine ⟨rfl, fun i u hu => ?_, fun i u y hu hy => ?_⟩
    · cases i with
      | zero => simp at hu; subst hu; exact h1
      | succ i => simp at hu
    · cases i with
      | zero => simp at hu hy; subst hu; subst hy; exact hr
      | succ i => simp at hu
  cases x with
  | d y =>
    have hc : (AV.d y).cells = y.cells.map .d := by cases y <;> rfl
    obtain ⟨h1, h2, h3⟩ := CellsRel.of hr.d_inv (d := y) hk
    rw [hc]
    refine ⟨by simp [h1], h2, fun i u z hu hz => ?_⟩
    rw [List.getElem?_map, Option.map_eq_some_iff] at hz
    obtain ⟨z', hz', rfl⟩ := hz
    exact .d _ _ (h3 i u z' hu hz')
  | tup vs => simp [AV.cellOk] at hk
  | ptr id off => obtain ⟨_, _, b, o', rfl⟩ := hr.ptr_inv; exact one rfl rfl rfl
  | osl id g n => obtain ⟨_, ⟨_, _, rfl⟩, _⟩ := hr.osl_inv; exact one rfl rfl rfl
  | mp id => obtain ⟨_, _, b, rfl⟩ := hr.mp_inv; exact one rfl rfl rfl
  | fn f as => cases hr with | fn f cs as hl hh => exact one rfl rfl rfl
  | raw u =>
    cases hr with
    | raw v h1 => exact one h1 (by cases v <;> first | rfl | simp [Value.oneCell'] at h1) rfl
theorem ZuJ (S : SRel C.P fa own st a w) {t : TypeId} {v : Value} {x : AV} (hr : ARep C.P w own st.heap v x) (hk : x.cellOk = true)
    (hrun : (execOp a.eval o).run C.P w = .ok (.value (.pointer (some ⟨w.heap.size, 0, none⟩))) (w.alloc (.cells v.cells t)))
    (he : St.put fa { st with heap := st.heap ++ [AObj.var x.cells] } o.dst (.a (.ptr st.heap.length 0)) = some st') : ZeU C.P fa own st.heap st' a w o := by
  have g := Grow.alloc w (.cells v.cells t)
  obtain ⟨h1, h2, h3⟩ := YaC hr hk
  have S1 := S.newObj g (by rw [ZeB]; omega) (x := .var x.cells) (fun own' e _ => ⟨v.cells, t, (0, 0), Zex w _, fun j _ hj => by simp at hj, h1, fun j y hy => by
    have hj : j < v.cells.size := by rw [h1]; exact (List.getElem?_eq_some_iff.1 hy).1
    have hu := Array.getElem?_eq_getElem hj
    exact ⟨_, hu, h2 j _ hu, (h3 j _ y hu hy).mono e⟩⟩)
  refine ZaV hrun (S1.1.put (fun t _ => ?_) he) (Zih g _) (by rw [ZbA he]; exact S1.2)
  exact .ptr _ _ _ (by simp) (fun cs _ => ⟨w.heap.size, by simp [upd], rfl⟩) ⟨_, _, rfl⟩
def Zwe (own : Own) (b s : Nat) : Own := fun k => if k = b then some (.box s, 0) else match own k with
  | some (x, f) => if x = .box s then none else some (x, f)
  | none => none
theorem Zwy {s : Nat} : ∀ {l : List (Nat × XV)}, Zig s l = true → ∀ t k off, Zad l t = some (.sp k off) → k ≠ s := by
  intro l
  induction l with
  | nil => intro _ t k off h; simp [Zad] at h
  | cons e l ih =>
    obtain ⟨u, x⟩ := e
    intro h t k off hk
    have tail : Zig s l = true := by
      cases x <;> simp only [Zig] at h <;> try exact h
      cases hb : Nat.beq _ s with
      | true => rw [hb] at h; cases h
      | false => rw [hb] at h; exact h
    simp only [Zad] at hk
    cases hb : Nat.beq u t with
    | true =>
      rw [hb] at hk
      simp only [cond_true, Option.some.injEq] at hk
      subst hk
      simp only [Zig] at h
      cases hb' : Nat.beq k s with
      | true => rw [hb'] at h; cases h
      | false => exact beq_ne.1 hb'
    | false => rw [hb] at hk; exact ih tail t k off hk
theorem Zvl (S : SRel C.P fa own st a w) {t : TypeId} {v : Value} {x : DV} {s : Nat} (hr : Rep w own v x) (hk : x.cellOk = true)
    (hrun : (execOp a.eval o).run C.P w = .ok (.value (.pointer (some ⟨w.heap.size, 0, none⟩))) (w.alloc (.cells v.cells t)))
    (hd : o.dst = some s) (hks : has fa.keep s = true) (hns : Zig s st.tmp = true) (hlt : Nat.blt s fa.nt = true) : ZeU C.P fa own st.heap { st with env := Zgx st.env s (.box x.cells) } a w o := by
  have g := Grow.alloc w (.cells v.cells t)
  obtain ⟨h1, h2, h3⟩ := CellsRel.of hr hk
  have hst : s < a.tmps.size := by rw [S.nt]; simpa [Nat.blt_eq] using hlt
  have hnew := Ybt S.h
  let own' := Zwe own w.heap.size s
  have cs : ∀ b z, own' b = some z → (b = w.heap.size ∧ z = (.box s, 0)) ∨ (own b = some z ∧ z.1 ≠ .box s) := by
    intro b z hz
    simp only [own', Zwe] at hz
    split at hz
    · simp only [Option.some.injEq] at hz; exact .inl ⟨by assumption, hz.symm⟩
    · split at hz
      · rename_i y f hy
        split at hz
        · cases hz
        · rename_i hne; simp only [Option.some.injEq] at hz; subst hz; exact .inr ⟨hy, hne⟩
      · cases hz
  have old : ∀ b z, own b = some z → z.1 ≠ .box s → own' b = some z := by
    intro b z hz hne
    have : b ≠ w.heap.size := Nat.ne_of_lt (S.h.lt b _ hz)
    obtain ⟨y, f⟩ := z
    simp only [own', Zwe, if_neg this, hz]
    rw [if_neg hne]
  have e : ExtA w own st.heap (w.alloc (.cells v.cells t)) own' st.heap := by
    refine ⟨⟨fun b i u hc hp => ⟨by rw [ZbQ (g.blk b (Zdc hc)), hc], fun y f hy => ?_⟩, fun b es c hc hp => ⟨by rw [g.blk b (ZaN hc), hc], ?_⟩⟩, Nat.le_refl _,
      fun id y y' h1 h2 => by rw [h1] at h2; simp only [Option.some.injEq] at h2; subst h2; exact AObj.later_refl y, fun b id y y' hb _ _ _ =>
        ⟨old b _ hb (by simp), fun c T fr hc => ⟨c, by rw [g.blk b (ZaN hc), hc], rfl⟩⟩⟩
    · rcases cs b _ hy with ⟨rfl, _⟩ | ⟨hy, _⟩
      · exact absurd (Zdc hc) (Nat.lt_irrefl _)
      · exact hp y f hy
    · cases hx : own' b with
      | none => rfl
      | some z =>
        rcases cs b _ hx with ⟨rfl, _⟩ | ⟨hy, _⟩
        · exact absurd (ZaN hc) (Nat.lt_irrefl _)
        · rw [hp] at hy; cases hy
  have keep : ∀ y, y ≠ .box s → Keep w own (w.alloc (.cells v.cells t)) own' y := fun y hy b f hb => ⟨old b _ hb hy, g.blk b (S.h.lt b _ hb)⟩
  have H : HRel C.P (w.alloc (.cells v.cells t)) own' st.heap := by
    refine ⟨fun id y hy => ?_, fun b b' z f f' h1 h2 hne => ?_, fun b z hz => ?_, fun b id f hb => ?_⟩
    · obtain ⟨b, hb, hr⟩ := S.h.obj id y hy
      exact ⟨b, old b _ hb (by simp), hr.mono e (g.blk b (S.h.lt b _ hb))⟩
    · rcases cs b _ h1 with ⟨rfl, hz⟩ | ⟨hz, hzn⟩ <;> rcases cs b' _ h2 with ⟨rfl, hz'⟩ | ⟨hz', hzn'⟩
      · rfl
      · simp only [Prod.mk.injEq] at hz; exact absurd hz.1 hzn'
      · simp only [Prod.mk.injEq] at hz'; exact absurd hz'.1 hzn
      · exact S.h.uniq b b' z f f' hz hz' hne
    · rcases cs b _ hz with ⟨rfl, _⟩ | ⟨hz, _⟩
      · rw [ZeB]; omega
      · exact Nat.lt_of_lt_of_le (S.h.lt b _ hz) g.size
    · rcases cs b _ hb with ⟨_, hz⟩ | ⟨hz, _⟩
      · simp at hz
      · exact S.h.idlt b id f hz
  have hget := fun u => Zsx (v := .pointer (some ⟨w.heap.size, 0, none⟩)) hst u
  have htk : ∀ u y, Zad st.tmp u = some y → u ≠ s := by
    rintro u y hu rfl
    rw [S.tk u y hu] at hks; cases hks
  refine ZaV (own' := own') hrun ?_ ⟨g.os, g.tape, g.output, g.size, fun b hb ho => ⟨g.blk b hb, ?_⟩⟩ e
  · rw [hd]
    refine ⟨H, by simp [Act.put, S.nt], S.defers, fun u sv hu => ?_, S.tk, fun u sv hu => ?_, fun u y hu => ?_⟩
    · simp only at hu
      rw [ZaC] at hu
      cases hb : Nat.beq s u with
      | true => rw [← Nat.eq_of_beq_eq_true hb]; exact hks
      | false => rw [hb] at hu; exact S.ek u sv hu
    · simp only at hu
      rw [ZaC] at hu
      rw [hget u]
      cases hb : Nat.beq s u with
      | true =>
        rw [hb] at hu
        simp only [cond_true, Option.some.injEq] at hu
        subst hu
        have := Nat.eq_of_beq_eq_true hb
        subst this
        rw [if_pos rfl]
        refine ⟨w.heap.size, v.cells, t, (0, 0), by simp [own', Zwe], rfl, Zex w _, fun j _ hj => by simp at hj, h1, fun j y hy => ?_⟩
        have hj : j < v.cells.size := by rw [h1]; exact (List.getElem?_eq_some_iff.1 hy).1
        have hu := Array.getElem?_eq_getElem hj
        exact ⟨_, hu, h2 j _ hu, (h3 j _ y hu hy).mono e.ext⟩
      | false =>
        rw [hb] at hu
        have hne := beq_ne.1 hb
        rw [if_neg (Ne.symm hne)]
        exact (S.env u sv hu).mono e (keep _ (by simp; exact Ne.symm hne)) (keep _ (by simp))
    · rw [hget u, if_neg (htk u y hu)]
      refine (S.tmp u y hu).mono e (fun k off hk b hb => old b _ hb ?_) (keep _ (by simp)) (fun k es hk es' hes => ?_)
      · subst hk
        have := Zwy hns u k off hu
        simpa using this
      · simp only at hes
        rw [ZaC] at hes
        cases hb : Nat.beq s k with
        | true => rw [hb] at hes; simp at hes
        | false => rw [hb] at hes; exact ⟨hes, by rw [hget k, if_neg (Ne.symm (beq_ne.1 hb))]⟩
  · rcases ho with ho | ⟨f, ho⟩
    · rw [ho]
      simp only [own', Zwe, if_neg (Nat.ne_of_lt hb), ho]
    · rw [ho]; exact old b _ ho (by simp)
theorem Zqj (S : SRel C.P fa own st a w) {t : TypeId} {v : Value} {x : AV} (hr : ARep C.P w own st.heap v x)
    (hrun : (execOp a.eval o).run C.P w = .ok (.value (.pointer (some ⟨w.heap.size, 0, none⟩))) (w.alloc (.cells v.cells t)))
    (he : Zb6 fa st o.dst x = some st') : ZeU C.P fa own st.heap st' a w o := by
  unfold Zb6 at he
  cases hk : x.cellOk with
  | false => rw [hk] at he; cases he
  | true =>
  rw [hk] at he
  simp only [Bool.not_true, cond_false] at he
  cases hh : Zbi fa o.dst with
  | true => rw [hh] at he; exact ZuJ S hr hk hrun he
  | false =>
    rw [hh] at he
    simp only [cond_false] at he
    split at he
    · rename_i s u hd
      cases hb : has fa.keep s && Zig s st.tmp && Nat.blt s fa.nt with
      | false => rw [hb] at he; cases he
      | true =>
        rw [hb] at he
        simp only [cond_true, Option.some.injEq] at he
        subst he
        simp only [Bool.and_eq_true] at hb
        exact Zvl S hr.d_inv hk hrun hd hb.1.1 hb.1.2 hb.2
    · cases he
end
end Go.Abs
namespace Go.Abs
theorem Zcj {P : Program} (g o : Nat) (t : TypeId) (fr : Nat × Nat) : ∀ (vs : List Value) (i : Nat) (cur : Array Value) (w : World), w.heap[g]? = some (.cells cur t fr) → Zf8 cur fr →
    o + i + vs.length ≤ cur.size → (∀ v ∈ vs, v.oneCell' = true) →
    ∃ c' : Array Value, (storeCells ⟨g, o, none⟩ vs i).run P w = .ok () (w.setRow g c') ∧ c'.size = cur.size ∧
      ∀ j : Nat, c'[j]? = if o + i ≤ j ∧ j < o + i + vs.length then vs[j - (o + i)]? else cur[j]?
  | [], i, cur, w, hg, _, _, _ => by
    refine ⟨cur, by rw [setRow_self w g cur t fr hg]; rfl, rfl, fun j => ?_⟩
    rw [if_neg (by simp)]
  | v :: rest, i, cur, w, hg, hnf, hl, h1 => by
    have hi : o + i < cur.size := by simp at hl; omega
    have hcell : w.cell? ⟨g, o + i, none⟩ = some cur[o + i] := by simp [World.cell?, hg, hi]
    have hfro : w.frozen? ⟨g, o + i, none⟩ = false := by
      have := hnf (o + i) hi
      simp only [World.frozen?, hg]
      simpa using this
    have hst : (store ((⟨g, o, none⟩ : Addr).add i) v).run P w = .ok () (w.setRow g (cur.setIfInBounds (o + i) v)) := by
      rw [Addr.add_lit, run_store P w _ v _ (h1 v (by simp)), hcell]
      simp [hfro, setCell_eq_setRow w g (o + i) cur t fr v hg]
    obtain ⟨c', e1, e2, e3⟩ := Zcj (P := P) g o t fr rest (i + 1) (cur.setIfInBounds (o + i) v) (w.setRow g (cur.setIfInBounds (o + i) v)) (setRow_heap w g cur _ t _ hg)
      (fun j hj => hnf j (by simpa using hj)) (by simp at hl ⊢; omega) (fun x hx => h1 x (by simp [hx]))
    refine ⟨c', ?_, by rw [e2]; simp, fun j => ?_⟩
    · simp only [storeCells, Sem.run_bind, hst, Result.andThen_ok, e1, setRow_setRow]
    · rw [e3 j]
      by_cases h : o + (i + 1) ≤ j ∧ j < o + (i + 1) + rest.length
      · rw [if_pos h, if_pos (by simp only [List.length_cons]; omega)]
        rw [show j - (o + i) = (j - (o + (i + 1))) + 1 by omega, List.getElem?_cons_succ]
      · rw [if_neg h]
        by_cases hj : j = o + i
        · subst hj
          rw [if_pos (by simp only [List.length_cons]; omega)]
          simp [hi]
        · rw [if_neg (by simp only [List.length_cons]; omega)]
          simp [Array.getElem?_setIfInBounds_ne (Ne.symm hj)]
section
variable {C : Ctx} {call : Zaa} {fa : FA} {own own' : Own} {st st' : St} {a : Act} {w w' : World} {o : Oper}
theorem size_setRow (w : World) (g : Nat) (c : Array Value) : (w.setRow g c).heap.size = w.heap.size := by simp [World.setRow]
theorem ZlI {h h' : List AObj} {b : Nat} {x : Owner} {c c' : Array Value} {T : TypeId} {fr : Nat × Nat} (hb : own b = some (x, 0)) (hc : w.heap[b]? = some (.cells c T fr)) (hs : c'.size = c.size)
    (hlen : h.length ≤ h'.length) (hk : ∀ (id : Nat) (y y' : AObj), h[id]? = some y → h'[id]? = some y' → y.later y') : ExtA w own h (w.setRow b c') own h' := by
  have other : ∀ k, k ≠ b → (w.setRow b c').heap[k]? = w.heap[k]? := fun k hk => setRow_other w b k c' hk
  refine ⟨⟨fun k i v hv hp => ?_, fun k es cl hm hn => ?_⟩, hlen, hk, fun k id y y' hb' _ _ _ => ⟨hb', fun c0 T0 fr0 hc0 => ?_⟩⟩
  · have hne : k ≠ b := by rintro rfl; exact absurd (hp x 0 hb) (Nat.not_lt_zero _)
    exact ⟨by rw [ZbQ (other k hne), hv], hp⟩
  · have hne : k ≠ b := by rintro rfl; rw [hb] at hn; cases hn
    exact ⟨by rw [other k hne, hm], hn⟩
  · by_cases hne : k = b
    · subst hne
      rw [hc] at hc0
      simp only [Option.some.injEq, Obj.cells.injEq] at hc0
      obtain ⟨rfl, rfl, rfl⟩ := hc0
      exact ⟨c', setRow_heap w k c c' T fr hc, hs⟩
    · exact ⟨c0, by rw [other k hne, hc0], rfl⟩
theorem ZcY {b : Nat} {x : Owner} {c' : Array Value} (hb : own b = some (x, 0)) (y : Owner) (hy : y ≠ x) : Keep w own (w.setRow b c') own y := by
  intro k f hk
  have hne : k ≠ b := by rintro rfl; rw [hb] at hk; simp only [Option.some.injEq, Prod.mk.injEq] at hk; exact hy hk.1.symm
  exact ⟨hk, setRow_other w b k c' hne⟩
theorem ZrC {b : Nat} {x : Owner} {c' : Array Value} (hb : own b = some (x, 0)) (hx : x ≠ .ext) : Frm w own (w.setRow b c') own := by
  refine ⟨rfl, rfl, rfl, by rw [size_setRow]; exact Nat.le_refl _, fun k _ hk => ?_⟩
  have hne : k ≠ b := by
    rintro rfl
    rcases hk with hk | ⟨f, hk⟩
    · rw [hb] at hk; cases hk
    · rw [hb] at hk; simp only [Option.some.injEq, Prod.mk.injEq] at hk; exact hx hk.1
  exact ⟨setRow_other w b k c' hne, rfl⟩
theorem Zh2 {t : TypeId} {v : Value} {n b off : Nat} {c : Array Value} {T : TypeId} {fr : Nat × Nat} (hn : C.size t = some n) (hv : v.cells.size = n) (hone : ∀ (i : Nat) u, v.cells[i]? = some u → u.oneCell' = true)
    (hc : w.heap[b]? = some (.cells c T fr)) (hnf : Zf8 c fr) (hle : off + n ≤ c.size) :
    ∃ c' : Array Value, (Instr.storeAt t (.pointer (some ⟨b, off, none⟩)) v).run C.P w = .ok () (w.setRow b c') ∧ c'.size = c.size ∧
      ∀ j : Nat, c'[j]? = if off ≤ j ∧ j < off + n then v.cells[j - off]? else c[j]? := by
  obtain ⟨c', h1, h2, h3⟩ := Zcj (P := C.P) b off T fr v.cells.toList 0 c w hc hnf (by simpa [hv] using hle) (fun u hu => by
    obtain ⟨i, hi, rfl⟩ := List.mem_iff_getElem.1 hu
    exact hone i _ (by rw [← Array.getElem?_toList]; exact List.getElem?_eq_getElem hi))
  refine ⟨c', ?_, h2, fun j => ?_⟩
  · simp only [Instr.storeAt, Instr.sureAddr, Sem.run_bind, Sem.run_pure, Result.andThen_ok, storeVar, Zoh hn]
    rw [if_neg (by simp [hv])]
    exact h1
  · rw [h3 j]
    simp only [Nat.add_zero, Array.length_toList, hv, Array.getElem?_toList]
theorem Zmx {e e' : AV} {cs : List AV} (h : Zd7 e cs = some e') : e'.cells = cs := by
  unfold Zd7 at h
  split at h
  · simp only [Option.map_eq_some_iff] at h
    obtain ⟨ds, hd, rfl⟩ := h
    exact (Zeo hd).symm
  · split at h
    · rename_i v
      cases hs : v.single with
      | false => rw [hs] at h; cases h
      | true =>
        rw [hs] at h
        simp only [cond_true, Option.some.injEq] at h
        subst h
        cases v <;> first | rfl | (rename_i x; cases x <;> first | rfl | simp [AV.single] at hs)
    · cases h
theorem Zwh (S : SRel C.P fa own st a w) {t : TypeId} {x y : Operand} {p : XV} {v : AV} {st1 : St} (hop : o.op = .store t x y) (hx : opd st x = some p) (hy : opA st y = some v)
    (he : Zch C t st p v = some st1) (hput : st1.put fa o.dst .un = some st') : ZeU C.P fa own st.heap st' a w o := by
  have hp := ZfO S hx 0
  have hv := ZbO S hy
  unfold Zch at he
  split at he
  · cases he
  · rename_i n hn
    cases hb : Nat.beq n v.cells.length && v.cellOk with
    | false => rw [hb] at he; cases he
    | true =>
      rw [hb] at he
      simp only [Bool.and_eq_true] at hb
      have hlen : n = v.cells.length := Nat.eq_of_beq_eq_true hb.1
      obtain ⟨g1, g2, g3⟩ := YaC hv hb.2
      have hvs : (a.eval y).cells.size = n := by rw [g1, hlen]
      simp only [cond_true] at he
      have fin : ∀ (b off : Nat) (c' : Array Value) (xo : Owner), a.eval x = .pointer (some ⟨b, off, none⟩) → (Instr.storeAt t (.pointer (some ⟨b, off, none⟩)) (a.eval y)).run C.P w = .ok () (w.setRow b c') →
          own b = some (xo, 0) → xo ≠ .ext → ExtA w own st.heap (w.setRow b c') own st1.heap → SRel C.P fa own st1 a (w.setRow b c') → ZeU C.P fa own st.heap st' a w o := by
        intro b off c' xo h1 h2 h3 h4 E S1
        refine Zh3 (w' := w.setRow b c') ?_ (S1.put (x := XV.un) (fun t _ => rfl) hput) (ZrC h3 h4) (by rw [ZbA hput]; exact E)
        simp only [execOp, hop, h1, Sem.run_bind, h2, Result.andThen_ok, Sem.run_pure]
      cases p with
      | sp s off =>
        simp only at he
        split at he
        · rename_i cs hs
          split at he
          · rename_i ds hds
            split at he
            · rename_i cs' hsp
              simp only [Option.some.injEq] at he
              subst he
              obtain ⟨b, hob, hxv⟩ := hp
              obtain ⟨b', c, T, fr, hob', hsv, hc, hnf, hsz, hcs⟩ := S.env s _ hs
              have hbb : b = b' := S.h.uniq b b' _ _ _ hob hob' (by simp)
              subst hbb
              obtain ⟨s1, s2, s3⟩ := Zha hsp
              have hvd := Zeo hds
              have hdl : ds.length = n := by rw [hlen, hvd, List.length_map]
              obtain ⟨c', r1, r2, r3⟩ := Zh2 hn hvs g2 hc hnf (b := b) (off := off) (by rw [hsz]; omega)
              have e := ZlI (h := st.heap) (h' := st.heap) hob hc r2 (Nat.le_refl _) (fun id y y' h1 h2 => by rw [h1] at h2; simp only [Option.some.injEq] at h2; subst h2; exact AObj.later_refl y)
              refine fin b off c' _ hxv r1 hob (by simp) e ?_
              have H : HRel C.P (w.setRow b c') own st.heap := by
                refine ⟨fun id y hy => ?_, S.h.uniq, fun k z hz => by rw [size_setRow]; exact S.h.lt k z hz, S.h.idlt⟩
                obtain ⟨k, hk, hr⟩ := S.h.obj id y hy
                exact ⟨k, hk, hr.mono e (ZcY hob _ (by simp) k 0 hk).2⟩
              refine ⟨H, S.nt, S.defers, fun u sv hu => ?_, S.tk, fun u sv hu => ?_, fun u z hu => ?_⟩
              · simp only at hu
                rw [ZaC] at hu
                cases hbu : Nat.beq s u with
                | true => rw [← Nat.eq_of_beq_eq_true hbu]; exact S.ek s _ hs
                | false => rw [hbu] at hu; exact S.ek u sv hu
              · simp only at hu
                rw [ZaC] at hu
                cases hbu : Nat.beq s u with
                | true =>
                  rw [hbu] at hu
                  simp only [cond_true, Option.some.injEq] at hu
                  subst hu
                  have := Nat.eq_of_beq_eq_true hbu
                  subst this
                  refine ⟨b, c', T, fr, hob, hsv, setRow_heap w b c c' T fr hc, fun j hj => hnf j (by omega), by rw [r2, hsz, s2], fun j d hd => ?_⟩
                  rw [s3 j] at hd
                  rw [r3 j]
                  by_cases hj : off ≤ j ∧ j < off + n
                  · rw [if_pos (by omega)] at hd
                    rw [if_pos hj]
                    have hlt : j - off < (a.eval y).cells.size := by omega
                    have hu := Array.getElem?_eq_getElem hlt
                    have hvc : v.cells[j - off]? = some (.d d) := by rw [hvd, List.getElem?_map, hd]; rfl
                    exact ⟨_, hu, g2 _ _ hu, ((g3 _ _ _ hu hvc).d_inv).mono e.ext⟩
                  · rw [if_neg (by omega)] at hd
                    rw [if_neg hj]
                    obtain ⟨u, h1, h2, h3⟩ := hcs j d hd
                    exact ⟨u, h1, h2, h3.mono e.ext⟩
                | false =>
                  rw [hbu] at hu
                  have hne := beq_ne.1 hbu
                  exact (S.env u sv hu).mono e (ZcY hob _ (by simp; exact Ne.symm hne)) (ZcY hob _ (by simp))
              · refine (S.tmp u z hu).mono e (fun _ _ _ _ hb => hb) (ZcY hob _ (by simp)) (fun k es hk es' hes => ?_)
                simp only at hes
                rw [ZaC] at hes
                cases hbu : Nat.beq s k with
                | true => rw [hbu] at hes; simp at hes
                | false => rw [hbu] at hes; exact ⟨hes, rfl⟩
            · cases he
          · cases he
        · cases he
      | ap id g i off =>
        simp only at he
        split at he
        · rename_i es hes
          obtain ⟨ap, ho⟩ := Ze8 hes
          split at he
          · rename_i e0 hei
            split at he
            · rename_i cs' hsp
              split at he
              · rename_i e' hpk
                have hset : Zp0 st.heap id (es.set i e') = st.heap.set id (.arr g ap (es.set i e')) := by simp only [Zp0, ho]
                rw [hset] at he
                simp only [Option.some.injEq] at he
                subst he
                obtain ⟨hid, _, _, hl⟩ := hp
                obtain ⟨b, c, T, fr, inf, hob, hc, hi, hxv⟩ := hl ap es ho
                obtain ⟨c2, T2, fr2, inf2, hc2, hi2, hnf, hap, hsz, hpos, hle, hcells⟩ := S.h.objAt ho hob
                rw [hc] at hc2
                simp only [Option.some.injEq, Obj.cells.injEq] at hc2
                obtain ⟨rfl, rfl, rfl⟩ := hc2
                rw [hi] at hi2
                simp only [Option.some.injEq] at hi2
                subst hi2
                obtain ⟨s1, s2, s3⟩ := Zha hsp
                have hm : e0 ∈ es := List.mem_of_getElem? hei
                have hlt : i < es.length := (List.getElem?_eq_some_iff.1 hei).1
                have hin : (i + 1) * inf.size ≤ es.length * inf.size := Nat.mul_le_mul_right _ (by omega)
                rw [Nat.succ_mul] at hin
                have hoff : off + n ≤ inf.size := by rw [hlen, ← hsz e0 hm]; exact s1
                obtain ⟨c', r1, r2, r3⟩ := Zh2 hn hvs g2 hc hnf (b := b) (off := i * inf.size + off) (by omega)
                have hpkc := Zmx hpk
                have hgs : ∀ k, (st.heap.set id (.arr g ap (es.set i e')))[k]? = if k = id then some (.arr g ap (es.set i e')) else st.heap[k]? := by
                  intro k
                  rw [List.getElem?_set]
                  by_cases hk : k = id
                  · subst hk; simp [hid]
                  · rw [if_neg (Ne.symm hk), if_neg hk]
                have e := ZlI (h := st.heap) (h' := st.heap.set id (.arr g ap (es.set i e'))) hob hc r2 (by simp) (fun k y y' h1 h2 => by
                  rw [hgs k] at h2
                  split at h2
                  · rename_i hk; subst hk; rw [ho] at h1; simp only [Option.some.injEq] at h1 h2; subst h1; subst h2; exact ⟨Nat.le_refl _, rfl⟩
                  · rw [h1] at h2; simp only [Option.some.injEq] at h2; subst h2; exact AObj.later_refl y)
                refine fin b _ c' _ hxv r1 hob (by simp) e ?_
                refine S.heapStep ?_ e (fun y hy => ZcY hob y (hy id))
                refine ⟨fun k y hy => ?_, S.h.uniq, fun k z hz => by rw [size_setRow]; exact S.h.lt k z hz, fun k id' f hk => by have := S.h.idlt k id' f hk; exact ⟨by simpa using this.1, this.2⟩⟩
                rw [hgs k] at hy
                split at hy
                · rename_i hk
                  subst hk
                  simp only [Option.some.injEq] at hy
                  subst hy
                  have hszs : ∀ x ∈ es.set i e', x.cells.length = inf.size := by
                    intro x hx
                    rcases List.mem_or_eq_of_mem_set hx with h | h
                    · exact hsz x h
                    · rw [h, hpkc, s2, hsz e0 hm]
                  refine ⟨b, hob, c', T, fr, inf, setRow_heap w b c c' T fr hc, hi, fun j hj => hnf j (by omega), (fun h => ⟨(hap h).1, fun hn => by rw [r2]; exact (hap h).2 (List.eq_nil_of_length_eq_zero (by have := congrArg List.length hn; simpa using this))⟩), hszs, hpos, by simpa [r2] using hle, fun j z hz => ?_⟩
                  have hjl : j < es.length * inf.size := by
                    have := (List.getElem?_eq_some_iff.1 hz).1
                    rw [Za5 hszs] at this
                    simpa using this
                  have hq : j / inf.size < es.length := Nat.div_lt_of_lt_mul (by rw [Nat.mul_comm]; exact hjl)
                  have hr' : j % inf.size < inf.size := Nat.mod_lt _ hpos
                  have hdec : j / inf.size * inf.size + j % inf.size = j := by rw [Nat.mul_comm]; exact Nat.div_add_mod _ _
                  rw [r3 j]
                  by_cases hqi : j / inf.size = i
                  · have hget : (es.set i e')[i]? = some e' := by simp [hlt]
                    have hdec' : i * inf.size + j % inf.size = j := by rw [← hqi]; exact hdec
                    have hf := flat_get hszs hget (j % inf.size) hr'
                    rw [hdec', hpkc, s3] at hf
                    rw [hz] at hf
                    by_cases hjo : off ≤ j % inf.size ∧ j % inf.size < off + v.cells.length
                    · rw [if_pos hjo] at hf
                      rw [if_pos (by omega)]
                      have hlt2 : j - (i * inf.size + off) < (a.eval y).cells.size := by omega
                      have hu := Array.getElem?_eq_getElem hlt2
                      refine ⟨_, hu, g2 _ _ hu, (g3 _ _ z hu ?_).mono e⟩
                      rw [show j - (i * inf.size + off) = j % inf.size - off by omega]
                      exact hf.symm
                    · rw [if_neg hjo] at hf
                      rw [if_neg (by omega)]
                      have hold := flat_get hsz hei (j % inf.size) hr'
                      rw [hdec', ← hf] at hold
                      obtain ⟨u, h1, h2, h3⟩ := hcells j z hold
                      exact ⟨u, h1, h2, h3.mono e⟩
                  · have hget : (es.set i e')[j / inf.size]? = es[j / inf.size]? := by rw [List.getElem?_set, if_neg (Ne.symm hqi)]
                    have hq2 := List.getElem?_eq_getElem hq
                    rw [hq2] at hget
                    have hf := flat_get hszs hget (j % inf.size) hr'
                    have hold := flat_get hsz hq2 (j % inf.size) hr'
                    rw [hdec] at hf hold
                    rw [← hf, hz] at hold
                    have hnot : ¬ (i * inf.size + off ≤ j ∧ j < i * inf.size + off + n) := by
                      rintro ⟨h1, h2⟩
                      apply hqi
                      have : i * inf.size ≤ j := by omega
                      have h3 : j < (i + 1) * inf.size := by rw [Nat.succ_mul]; omega
                      exact Nat.div_eq_of_lt_le (by rw [Nat.mul_comm] at this; rw [Nat.mul_comm]; exact this) h3
                    rw [if_neg hnot]
                    obtain ⟨u, h1, h2, h3⟩ := hcells j z hold
                    exact ⟨u, h1, h2, h3.mono e⟩
                · rename_i hk
                  obtain ⟨q, hq, hr⟩ := S.h.obj k y hy
                  exact ⟨q, hq, hr.mono e (ZcY hob (.obj k) (by simpa using hk) q 0 hq).2⟩
              · cases he
            · cases he
          · cases he
        · cases he
      | a pv =>
        cases pv with
        | ptr id off =>
          simp only at he
          split at he
          · rename_i cs ho
            split at he
            · rename_i cs' hsp
              simp only [Option.some.injEq] at he
              subst he
              obtain ⟨hid, hl, _⟩ := ARep.ptr_inv hp
              obtain ⟨b, hob, hxv⟩ := hl cs ho
              obtain ⟨c, T, fr, hc, hnf, hsz, hcs⟩ := S.h.objAt ho hob
              obtain ⟨s1, s2, s3⟩ := Zha hsp
              obtain ⟨c', r1, r2, r3⟩ := Zh2 hn hvs g2 hc hnf (b := b) (off := off) (by omega)
              have hgs : ∀ k, (st.heap.set id (.var cs'))[k]? = if k = id then some (.var cs') else st.heap[k]? := by
                intro k
                rw [List.getElem?_set]
                by_cases hk : k = id
                · subst hk; simp [hid]
                · rw [if_neg (Ne.symm hk), if_neg hk]
              have e := ZlI (h := st.heap) (h' := st.heap.set id (.var cs')) hob hc r2 (by simp) (fun k y y' h1 h2 => by
                rw [hgs k] at h2
                split at h2
                · rename_i hk; subst hk; rw [ho] at h1; simp only [Option.some.injEq] at h1 h2; subst h1; subst h2; trivial
                · rw [h1] at h2; simp only [Option.some.injEq] at h2; subst h2; exact AObj.later_refl y)
              refine fin b _ c' _ hxv r1 hob (by simp) e ?_
              refine S.heapStep ?_ e (fun y hy => ZcY hob y (hy id))
              refine ⟨fun k y hy => ?_, S.h.uniq, fun k z hz => by rw [size_setRow]; exact S.h.lt k z hz, fun k id' f hk => by have := S.h.idlt k id' f hk; exact ⟨by simpa using this.1, this.2⟩⟩
              rw [hgs k] at hy
              split at hy
              · rename_i hk
                subst hk
                simp only [Option.some.injEq] at hy
                subst hy
                refine ⟨b, hob, c', T, fr, setRow_heap w b c c' T fr hc, fun j hj => hnf j (by omega), by rw [r2, hsz, s2], fun j z hz => ?_⟩
                rw [s3 j] at hz
                rw [r3 j]
                by_cases hj : off ≤ j ∧ j < off + n
                · rw [if_pos (by omega)] at hz
                  rw [if_pos hj]
                  have hlt : j - off < (a.eval y).cells.size := by omega
                  have hu := Array.getElem?_eq_getElem hlt
                  exact ⟨_, hu, g2 _ _ hu, (g3 _ _ _ hu hz).mono e⟩
                · rw [if_neg (by omega)] at hz
                  rw [if_neg hj]
                  obtain ⟨u, h1, h2, h3⟩ := hcs j z hz
                  exact ⟨u, h1, h2, h3.mono e⟩
              · rename_i hk
                obtain ⟨q, hq, hr⟩ := S.h.obj k y hy
                exact ⟨q, hq, hr.mono e (ZcY hob (.obj k) (by simpa using hk) q 0 hq).2⟩
            · cases he
          · cases he
        | _ => simp at he
      | _ => simp at he
end
end Go.Abs
