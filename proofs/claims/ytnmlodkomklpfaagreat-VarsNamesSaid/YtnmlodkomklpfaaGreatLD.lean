/- A certified evaluator for the walked functions, and their contracts, for the laws of the variables. -/
import Derived.Test.YtnmlodkomklpfaaGreatLC
import Derived.Great.BuildSlice
import Derived.Great.FillDense
set_option linter.unusedVariables false
set_option linter.unusedSimpArgs false
namespace Go.Abs
structure Grow (w w' : World) : Prop where
  os : w'.os = w.os
  tape : w'.tape = w.tape
  output : w'.output = w.output
  size : w.heap.size ≤ w'.heap.size
  blk : ∀ b, b < w.heap.size → w'.heap[b]? = w.heap[b]?
theorem Grow.refl (w : World) : Grow w w := ⟨rfl, rfl, rfl, Nat.le_refl _, fun _ _ => rfl⟩
theorem Grow.alloc (w : World) (x : Obj) : Grow w (w.alloc x) := ⟨rfl, rfl, rfl, by simp, fun b hb => by
  show (w.heap.push x)[b]? = _
  rw [Array.getElem?_push, if_neg (by omega)]⟩
theorem Za4 {w : World} {b : Nat} {x : Obj} (h : w.heap[b]? = some x) : b < w.heap.size := (Array.getElem?_eq_some_iff.1 h).1
theorem Zdj {w : World} {b o : Nat} {v : Value} (h : w.cell? ⟨b, o, none⟩ = some v) : b < w.heap.size := by
  rcases Nat.lt_or_ge b w.heap.size with hb | hb
  · exact hb
  · simp [World.cell?, Array.getElem?_eq_none hb] at h
theorem Zcc {w w' : World} {b : Nat} (h : w'.heap[b]? = w.heap[b]?) (o : Nat) : w'.cell? ⟨b, o, none⟩ = w.cell? ⟨b, o, none⟩ := by simp [World.cell?, h]
theorem Grow.ext {w w' : World} (g : Grow w w') (own : Own) : Ext w own w' own :=
  ⟨fun b o v hc hp => ⟨by rw [Zcc (g.blk b (Zdj hc)), hc], hp⟩, fun b es c hc hp => ⟨by rw [g.blk b (Za4 hc), hc], hp⟩⟩
theorem Grow.extA {w w' : World} (g : Grow w w') (own : Own) (h : List AObj) : ExtA w own h w' own h :=
  ⟨g.ext own, Nat.le_refl _, fun id x x' h1 h2 => by rw [h1] at h2; simp only [Option.some.injEq] at h2; subst h2; exact AObj.later_refl x,
    fun b id x x' hb _ _ _ => ⟨hb, fun c T fr hc => ⟨c, by rw [g.blk b (Za4 hc), hc], rfl⟩⟩⟩
theorem Grow.keep {P : Program} {w w' : World} {own : Own} {h : List AObj} (g : Grow w w') (H : HRel P w own h) (x : Owner) : Keep w own w' own x :=
  fun b f hb => ⟨hb, g.blk b (H.lt b _ hb)⟩
theorem HRel.grow {P : Program} {w w' : World} {own : Own} {h : List AObj} (H : HRel P w own h) (g : Grow w w') : HRel P w' own h :=
  ⟨fun id x hx => let ⟨b, hb, hr⟩ := H.obj id x hx; ⟨b, hb, hr.mono (g.extA own h) (g.blk b (H.lt b _ hb))⟩, H.uniq,
    fun b x hb => Nat.lt_of_lt_of_le (H.lt b x hb) g.size, H.idlt⟩
theorem SRel.grow {P : Program} {fa : FA} {own : Own} {st : St} {a : Act} {w w' : World} (S : SRel P fa own st a w) (g : Grow w w') : SRel P fa own st a w' :=
  ⟨S.h.grow g, S.nt, S.defers, S.ek, S.tk, fun s sv hs => (S.env s sv hs).mono (g.extA own st.heap) (g.keep S.h _) (g.keep S.h _),
    fun t x ht => (S.tmp t x ht).mono (g.extA own st.heap) (fun _ _ _ _ hb => hb) (g.keep S.h _) (fun _ _ _ _ he => ⟨he, rfl⟩)⟩
theorem VRel.grow {P : Program} {own : Own} {st : St} {a : Act} {w w' : World} {v : Value} {x : XV} (H : HRel P w own st.heap) (h : VRel P w own st a v x) (g : Grow w w') : VRel P w' own st a v x :=
  fun t => (h t).mono (g.extA own st.heap) (fun _ _ _ _ hb => hb) (g.keep H _) (fun _ _ _ _ he => ⟨he, rfl⟩)
theorem Grow.frm {w w' : World} (g : Grow w w') (own : Own) : Frm w own w' own := ⟨g.os, g.tape, g.output, g.size, fun b hb _ => ⟨g.blk b hb, rfl⟩⟩
theorem Grow.trans {w w1 w2 : World} (h : Grow w w1) (k : Grow w1 w2) : Grow w w2 :=
  ⟨k.os.trans h.os, k.tape.trans h.tape, k.output.trans h.output, Nat.le_trans h.size k.size, fun b hb => (k.blk b (Nat.lt_of_lt_of_le hb h.size)).trans (h.blk b hb)⟩
section
variable {C : Ctx} {call : Zaa} {fa : FA} {own : Own} {st : St} {a : Act} {w : World} {o : Oper}
structure CellsRel (w : World) (own : Own) (cs : Array Value) (ds : List DV) : Prop where
  len : cs.size = ds.length
  one : ∀ (i : Nat) u, cs[i]? = some u → u.oneCell' = true
  rep : ∀ (i : Nat) u d, cs[i]? = some u → ds[i]? = some d → Rep w own u d
theorem Zvt {d : DV} (h : d.cellOk = true) : ∀ vs, d ≠ .tup vs := by
  rintro vs rfl; cases h
theorem CellsRel.of {v : Value} {d : DV} (h : Rep w own v d) (hk : d.cellOk = true) : CellsRel w own v.cells d.cells :=
  let ⟨x, y, z⟩ := h.cells (Zvt hk); ⟨x, y, z⟩
theorem Zhc {α : Type} {cs vs r : List α} {off : Nat} (h : Za1 cs off vs = some r) : off + vs.length ≤ cs.length ∧ r.length = cs.length ∧
    ∀ (j : Nat), r[j]? = if off ≤ j ∧ j < off + vs.length then vs[j - off]? else cs[j]? := by
  unfold Za1 at h
  cases hb : Nat.ble (off + vs.length) cs.length with
  | false => rw [hb] at h; cases h
  | true =>
    rw [hb] at h
    simp only [cond_true, Option.some.injEq] at h
    subst h
    have hle := Nat.le_of_ble_eq_true hb
    refine ⟨hle, by simp only [List.length_append, List.length_take, List.length_drop]; omega, fun j => ?_⟩
    have hlt : (cs.take off).length = off := by rw [List.length_take]; omega
    by_cases h1 : j < off
    · rw [List.append_assoc, List.getElem?_append_left (by omega), List.getElem?_take, if_pos h1, if_neg (by omega)]
    · by_cases h2 : j < off + vs.length
      · rw [List.append_assoc, List.getElem?_append_right (by omega), hlt, List.getElem?_append_left (by omega), if_pos (by omega)]
      · rw [List.getElem?_append_right (by simp only [List.length_append]; omega), if_neg (by omega), List.getElem?_drop]
        congr 1
        simp only [List.length_append, hlt]
        omega
theorem ZzV (f : Nat → Option (Nat × Nat)) : ∀ (ps : List (Nat × Value)) (vs : List (Nat × DV)) (cells : Array Value) (z r : List DV), ps.length = vs.length →
    (∀ (i : Nat) x v, ps[i]? = some x → vs[i]? = some v → x.1 = v.1 ∧ Rep w own x.2 v.2) → CellsRel w own cells z → Zca f z vs = some r →
    ∃ cs, Instr.fill f cells ps = some cs ∧ CellsRel w own cs r := by
  intro ps
  induction ps with
  | nil =>
    intro vs cells z r hl _ hc hf
    have : vs = [] := List.eq_nil_of_length_eq_zero (by simpa using hl.symm)
    subst this
    simp only [Zca, Option.some.injEq] at hf
    subst hf
    exact ⟨cells, rfl, hc⟩
  | cons p ps ih =>
    intro vs cells z r hl hp hc hf
    cases vs with
    | nil => simp at hl
    | cons v vs =>
      obtain ⟨i, x⟩ := p
      obtain ⟨k, d⟩ := v
      obtain ⟨rfl, hr⟩ := hp 0 _ _ rfl rfl
      simp only [Zca] at hf
      split at hf
      · rename_i off size hfi
        cases hb : Nat.beq d.cells.length size && d.cellOk with
        | false => rw [hb] at hf; cases hf
        | true =>
          rw [hb] at hf
          simp only [Bool.and_eq_true] at hb
          simp only [cond_true] at hf
          split at hf
          · rename_i cs' hs
            obtain ⟨g1, g2, g3⟩ := Zhc hs
            have cr := CellsRel.of hr hb.2
            have hsz : size = d.cells.length := (Nat.eq_of_beq_eq_true hb.1).symm
            subst hsz
            obtain ⟨s1, s2⟩ := Great.foldl_set off x.cells.toList 0 cells
            have hcond : ¬ ((x.cells.size ≠ d.cells.length || off + x.cells.size > cells.size) = true) := by
              rw [cr.len, hc.len]
              simp only [ne_eq, not_true_eq_false, decide_false, Bool.false_or, decide_eq_true_eq]
              omega
            have e : (x.cells.zipIdx.foldl (fun (cs : Array Value) (x : Value × Nat) => cs.setIfInBounds (off + x.2) x.1) cells) = (x.cells.toList.zipIdx 0).foldl (fun cs (x : Value × Nat) => cs.setIfInBounds (off + x.2) x.1) cells := by
              rw [← Array.foldl_toList, Array.toList_zipIdx]
            have key : ∀ (j : Nat), ((x.cells.toList.zipIdx 0).foldl (fun cs (x : Value × Nat) => cs.setIfInBounds (off + x.2) x.1) cells)[j]? =
                if off ≤ j ∧ j < off + d.cells.length then x.cells[j - off]? else cells[j]? := by
              intro j
              have hx : x.cells.size = d.cells.length := cr.len
              rw [s2 j]
              simp only [Nat.add_zero, Array.length_toList, hx, hc.len, Array.getElem?_toList]
              by_cases h1 : off ≤ j ∧ j < off + d.cells.length
              · rw [if_pos ⟨h1.1, h1.2, by omega⟩, if_pos h1]
              · rw [if_neg (by omega), if_neg h1]
            obtain ⟨cs, h1, h2⟩ := ih vs ((x.cells.toList.zipIdx 0).foldl (fun cs (x : Value × Nat) => cs.setIfInBounds (off + x.2) x.1) cells) cs' r (by simpa using hl)
              (fun j x v hx hv => hp (j + 1) x v (by simpa using hx) (by simpa using hv)) ⟨by rw [s1, hc.len, g2], fun j u hu => by
                rw [key j] at hu
                split at hu
                · exact cr.one _ _ hu
                · exact hc.one _ _ hu, fun j u y hu hy => by
                rw [key j] at hu
                rw [g3 j] at hy
                split at hu
                · rename_i h1; rw [if_pos h1] at hy; exact cr.rep _ _ _ hu hy
                · rename_i h1; rw [if_neg h1] at hy; exact hc.rep _ _ _ hu hy⟩ hf
            refine ⟨cs, ?_, h2⟩
            simp only [Instr.fill, hfi]
            rw [if_neg hcond, e]
            exact h1
          · cases hf
      · cases hf
def GoodW (P : Program) (own : Own) (st : St) (a : Act) (w : World) (o : Oper) (x : XV) : Prop :=
  ∃ v w', (execOp a.eval o).run P w = .ok (.value v) w' ∧ Grow w w' ∧ VRel P w' own st a v x
theorem Good.grown {P : Program} {x : XV} (h : Good P own st a w o x) : GoodW P own st a w o x := let ⟨v, h1, h2⟩ := h; ⟨v, w, h1, .refl w, h2⟩
theorem ZtZ (S : SRel C.P fa own st a w) {t : TypeId} {ps : Array (Nat × Operand)} {d : DV} (hop : o.op = .build t ps)
    (he : ZaT C t st ps.toList = some d) : Good C.P own st a w o (.a (.d d)) := by
  unfold ZaT at he
  split at he
  · rename_i z f hz hf
    split at he
    · rename_i vs hvs
      split at he
      · rename_i cs hcs
        simp only [Option.some.injEq] at he
        subst he
        obtain ⟨zv, hzv, ⟨it, hit, hitz⟩, hzr⟩ := Zin hz
        obtain ⟨zc, rfl, hl, h1, h2⟩ := (hzr w own).agg_inv
        obtain ⟨hpl, hpr⟩ := ZkT S hvs
        obtain ⟨r, hr, cr⟩ := ZzV f (ps.toList.map fun p => (p.1, a.eval p.2)) vs zc z cs (by simpa using hpl) (fun i x v hx hv => by
          rw [List.getElem?_map, Option.map_eq_some_iff] at hx
          obtain ⟨p, hp, rfl⟩ := hx
          exact hpr i p v hp hv) ⟨hl, h1, h2⟩ hcs
        have hb : C.P.built t (ps.toList.map fun p => (p.1, a.eval p.2)) = some r := by
          unfold Program.built
          unfold Ctx.places at hf
          split at hf
          · rename_i fs hu
            split at hf
            · rename_i l hl'
              simp only [Option.some.injEq] at hf
              subst hf
              simp only [hit, hu, hitz, hl']
              simpa [Value.cells] using hr
            · cases hf
          · rename_i n e hu
            split at hf
            · rename_i ie hie
              simp only [Option.some.injEq] at hf
              subst hf
              simp only [hit, hu, hitz, hie]
              simpa [Value.cells] using hr
            · cases hf
          · cases hf
        refine ZeR (v := .agg r) ?_ (.agg r cs cr.len cr.one cr.rep)
        have hrun := run_build (P := C.P) w t (ps.map fun p => (p.1, a.eval p.2)) r (by simpa using hb)
        simp only [ZhL, execOp, hop, Sem.run_bind]
        have e : (ps.map fun x => match x with | (i, x) => (i, a.eval x)) = ps.map fun p => (p.1, a.eval p.2) := rfl
        rw [e, hrun]
        rfl
      · cases he
    · cases he
  · cases he
theorem ZqG {sz : Nat} : ∀ {vs : List (Nat × DV)} {k : Nat} {es : List DV}, ZaP sz k vs = some es → es.length = vs.length ∧ (∀ e ∈ es, e.cells.length = sz ∧ e.cellOk = true) ∧
    ∀ (i : Nat) v, vs[i]? = some v → v.1 = k + i ∧ es[i]? = some v.2 := by
  intro vs
  induction vs with
  | nil => intro k es h; simp only [ZaP, Option.some.injEq] at h; subst h; simp
  | cons v vs ih =>
    intro k es h
    obtain ⟨i, d⟩ := v
    simp only [ZaP] at h
    cases hb : Nat.beq i k && Nat.beq d.cells.length sz && d.cellOk with
    | false => rw [hb] at h; cases h
    | true =>
      rw [hb] at h
      simp only [Bool.and_eq_true] at hb
      obtain ⟨⟨b1, b2⟩, b3⟩ := hb
      simp only [cond_true] at h
      split at h
      · rename_i l hl
        simp only [Option.some.injEq] at h
        subst h
        obtain ⟨h1, h2, h3⟩ := ih hl
        refine ⟨by simp [h1], ?_, ?_⟩
        · intro e he
          simp only [List.mem_cons] at he
          rcases he with rfl | he
          · exact ⟨Nat.eq_of_beq_eq_true b2, b3⟩
          · exact h2 e he
        · intro j v hv
          cases j with
          | zero => simp at hv; subst hv; exact ⟨by simpa using Nat.eq_of_beq_eq_true b1, rfl⟩
          | succ j =>
            simp at hv
            obtain ⟨h4, h5⟩ := h3 j v hv
            exact ⟨by rw [h4]; omega, by simpa using h5⟩
      · cases h
theorem ZrX (S : SRel C.P fa own st a w) {t : TypeId} {n : Nat} {ps : Array (Nat × Operand)} {es : List DV} (hop : o.op = .buildSlice t n ps)
    (he : Zae C t n st ps.toList = some es) : ∃ (e : TypeId) (inf : TypeInfo) (c : Array Value), C.P.underlying t = some (.slice e) ∧ C.P.info? e = some inf ∧ 0 < inf.size ∧ es.length = n ∧ 0 < n ∧
      n ≤ 2 ^ 24 ∧ c.size = n * inf.size ∧ (∀ e ∈ es, e.cells.length = inf.size) ∧ (∀ (i : Nat) u, c[i]? = some u → u.oneCell' = true) ∧
      (∀ (i : Nat) u d, c[i]? = some u → (es.flatMap DV.cells)[i]? = some d → Rep w own u d) ∧
      (execOp a.eval o).run C.P w = .ok (.value (.slice (some ⟨w.heap.size, 0, none⟩) n n)) (w.alloc (.cells c e)) := by
  unfold Zae at he
  split at he
  · rename_i sz hsz
    obtain ⟨e, inf, hu, hinf, rfl⟩ := Zec hsz
    split at he
    · rename_i vs hvs
      split at he
      · rename_i l hl
        cases hb : Nat.beq l.length n && Nat.ble (n * inf.size) (2 ^ 24) && Nat.blt 0 (n * inf.size) && C.hasZero t with
        | false => rw [hb] at he; cases he
        | true =>
          rw [hb] at he
          simp only [cond_true, Option.some.injEq] at he
          subst he
          simp only [Bool.and_eq_true] at hb
          obtain ⟨⟨⟨b1, b2⟩, b3⟩, b4⟩ := hb
          have hn : l.length = n := Nat.eq_of_beq_eq_true b1
          have hsm : n * inf.size ≤ 2 ^ 24 := Nat.le_of_ble_eq_true b2
          have hpos : 0 < n * inf.size := by simpa [Nat.blt_eq] using b3
          have hn0 : 0 < n := Nat.pos_of_mul_pos_right hpos
          have hs0 : 0 < inf.size := Nat.pos_of_mul_pos_left hpos
          obtain ⟨z, hz⟩ : ∃ z, inf.zero = some z := by
            unfold Ctx.hasZero at b4
            simp only [hu, hinf] at b4
            exact Option.isSome_iff_exists.1 b4
          obtain ⟨hpl, hpr⟩ := ZkT S hvs
          obtain ⟨e1, e2, e3⟩ := ZqG hl
          let us : List Value := ps.toList.map fun p => a.eval p.2
          have hus : us.length = n := by simp only [us, List.length_map, hpl, ← e1, hn]
          have hcell : ∀ (i : Nat) u d, us[i]? = some u → l[i]? = some d → CellsRel w own u.cells d.cells := by
            intro i u d hu' hd
            simp only [us, List.getElem?_map, Option.map_eq_some_iff] at hu'
            obtain ⟨p, hp, rfl⟩ := hu'
            have hi : i < vs.length := by rw [← hpl]; exact (List.getElem?_eq_some_iff.1 hp).1
            obtain ⟨g1, g2⟩ := e3 i vs[i] (List.getElem?_eq_getElem hi)
            rw [hd] at g2
            simp only [Option.some.injEq] at g2
            subst g2
            exact .of (hpr i p vs[i] hp (List.getElem?_eq_getElem hi)).2 (e2 _ (List.mem_of_getElem? hd)).2
          have h1 : ∀ v ∈ us, v.cells.size = inf.size := by
            intro v hv
            obtain ⟨i, hi, rfl⟩ := List.mem_iff_getElem.1 hv
            have hil : i < l.length := by omega
            rw [(hcell i _ l[i] (List.getElem?_eq_getElem hi) (List.getElem?_eq_getElem hil)).len]
            exact (e2 _ (List.getElem_mem hil)).1
          have hzip : (us.zipIdx 0).map (fun x => (x.2, x.1)) = (ps.map fun p => (p.1, a.eval p.2)).toList := by
            apply List.ext_getElem?
            intro i
            rw [Array.toList_map, List.getElem?_map, List.getElem?_map, List.getElem?_zipIdx]
            simp only [us, List.getElem?_map]
            cases hp : ps.toList[i]? with
            | none => simp [hp]
            | some p =>
              have hi : i < vs.length := by rw [← hpl]; exact (List.getElem?_eq_some_iff.1 hp).1
              have := (e3 i vs[i] (List.getElem?_eq_getElem hi)).1
              rw [← (hpr i p vs[i] hp (List.getElem?_eq_getElem hi)).1] at this
              simp [this]
          let c0 : Array Value := (Array.range (n * inf.size)).map (z.cells[· % z.cells.size]!)
          have hfill := Great.fill_whole hs0 us c0 h1 (by simp [c0, hus])
          refine ⟨e, inf, (us.flatMap fun v => v.cells.toList).toArray, hu, hinf, hs0, hn, hn0, ?_, ?_, fun e he => (e2 e he).1, ?_, ?_, ?_⟩
          · exact Nat.le_trans (Nat.le_mul_of_pos_right n hs0) hsm
          · have : (us.flatMap fun v => v.cells.toList).length = us.length * inf.size := Zbr (fun v hv => by simpa using h1 v hv)
            simpa [hus] using this
          · intro i u hu'
            have hu'' : u ∈ us.flatMap fun v => v.cells.toList := List.mem_of_getElem? (by simpa using hu')
            obtain ⟨v, hv, huv⟩ := List.mem_flatMap.1 hu''
            obtain ⟨j, hj, rfl⟩ := List.mem_iff_getElem.1 hv
            have hil : j < l.length := by omega
            obtain ⟨q, hq, hqe⟩ := List.mem_iff_getElem.1 huv
            exact (hcell j _ l[j] (List.getElem?_eq_getElem hj) (List.getElem?_eq_getElem hil)).one q u (by rw [← hqe, ← Array.getElem?_toList]; exact List.getElem?_eq_getElem hq)
          · intro i u d hu' hd
            have hilt : i < n * inf.size := by
              have := (List.getElem?_eq_some_iff.1 hd).1
              rwa [Zbr (fun e he => (e2 e he).1), hn] at this
            have hq : i / inf.size < n := Nat.div_lt_of_lt_mul (by rw [Nat.mul_comm]; exact hilt)
            have hm : i % inf.size < inf.size := Nat.mod_lt _ hs0
            have hdec : i = i / inf.size * inf.size + i % inf.size := by rw [Nat.mul_comm]; exact (Nat.div_add_mod _ _).symm
            have hil : i / inf.size < l.length := by omega
            have hiu : i / inf.size < us.length := by omega
            have g1 := flat_get (f := DV.cells) (fun e he => (e2 e he).1) (List.getElem?_eq_getElem hil) _ hm
            have g2 := flat_get (f := fun v : Value => v.cells.toList) (fun v hv => by simpa using h1 v hv) (List.getElem?_eq_getElem hiu) _ hm
            rw [← hdec] at g1 g2
            rw [g1] at hd
            have hu2 : us[i / inf.size].cells[i % inf.size]? = some u := by
              rw [← Array.getElem?_toList, ← g2]; simpa using hu'
            exact (hcell _ _ _ (List.getElem?_eq_getElem hiu) (List.getElem?_eq_getElem hil)).rep _ _ _ hu2 hd
          · have hrun := Go.run_buildSlice (P := C.P) w t e n (ps.map fun p => (p.1, a.eval p.2)) _ inf z hu hinf hz (by omega) (by omega) (by rw [← hzip]; exact hfill)
            simp only [execOp, hop, Sem.run_bind]
            have e' : (ps.map fun x => match x with | (i, x) => (i, a.eval x)) = ps.map fun p => (p.1, a.eval p.2) := rfl
            rw [e', hrun]
            rfl
      · cases he
    · cases he
  · cases he
theorem Zq9 {t : TypeId} {ps : Array (Nat × Operand)} {sz : Nat} (hop : o.op = .buildSlice t 0 ps) (hps : ps.toList = []) (hsz : C.elemSize t = some sz) : GoodW C.P own st a w o (.own []) := by
  obtain ⟨e, i, hu, hi, rfl⟩ := Zec hsz
  have hrun : (execOp a.eval o).run C.P w = .ok (.value (.slice (some ⟨w.heap.size, 0, none⟩) 0 0)) (w.alloc (.cells #[] e)) := by
    obtain rfl : ps = #[] := Array.ext' (by simpa using hps)
    simp [execOp, hop, Instr.buildSlice, run_underlying hu, sizeOf, typeInfo, hi, newRow, Instr.fill]
    rw [show Array.map (fun _ => (default : Value)) (Array.range 0) = #[] from Array.eq_empty_of_size_eq_zero (by simp)]
  exact ⟨_, _, hrun, Grow.alloc w (.cells #[] e), fun _ => .inl ⟨rfl, _, rfl⟩⟩
theorem Zyk (S : SRel C.P fa own st a w) {t : TypeId} {n : Nat} {ps : Array (Nat × Operand)} {es : List DV} (hop : o.op = .buildSlice t n ps)
    (he : Zae C t n st ps.toList = some es) : GoodW C.P own st a w o (.a (.d (.slc es))) := by
  obtain ⟨e, inf, c, hu, hinf, hs0, hn, hn0, _, hcs, hsz, h1, h2, hrun⟩ := ZrX S hop he
  have g := Grow.alloc w (.cells c e)
  refine ⟨_, _, hrun, g, fun _ => .d _ _ ?_⟩
  have hfree : own w.heap.size = none := by
    cases h : own w.heap.size with
    | none => rfl
    | some x => exact absurd (S.h.lt _ _ h) (Nat.lt_irrefl _)
  have hblk : (w.alloc (.cells c e)).heap[w.heap.size]? = some (.cells c e (0, 0)) := by
    show (w.heap.push _)[_]? = _
    simp
  rw [← hn]
  have hc : ∀ i, i < es.length * inf.size → ∃ u, c[i]? = some u := fun i hi => ⟨c[i]'(by rw [hcs, ← hn]; exact hi), Array.getElem?_eq_getElem _⟩
  refine .slc w.heap.size 0 es.length inf.size es (fun i => c[i]?.getD undef) (Nat.le_refl _) hsz (fun i hi => ?_) (fun i hi x f hx => by rw [hfree] at hx; cases hx) (fun i hi => ?_) (fun i d hd => ?_)
  · obtain ⟨u, hu⟩ := hc i hi
    rw [Nat.zero_add, cell_of_row _ _ i c e (0, 0) hblk, hu]
    rfl
  · obtain ⟨u, hu⟩ := hc i hi
    rw [hu]; exact h1 i u hu
  · have hi : i < es.length * inf.size := by
      have := (List.getElem?_eq_some_iff.1 hd).1
      rwa [Zbr hsz] at this
    obtain ⟨u, hu⟩ := hc i hi
    rw [hu]
    exact (h2 i u d hu hd).mono (g.ext own)
theorem Zno (S : SRel C.P fa own st a w) {f : FuncId} {first captured : Array Operand} {vs : List AV} (hop : o.op = .makeFunc (.func f) first captured)
    (h1 : first.toList = []) (h2 : ZaL st captured.toList = some vs) : Good C.P own st a w o (.a (ZuO f vs)) := by
  have hf : first = #[] := by rw [← Array.toList_inj, h1]
  obtain ⟨hl, hr⟩ := ZmA S h2
  refine ⟨.func (.func f) #[] (captured.map a.eval), by simp [ZhL, execOp, hop, hf, Instr.makeFunc], fun _ => ?_⟩
  unfold ZuO
  split
  · rename_i ds hd
    have := ZeF hd
    subst this
    refine .d _ _ (.fn f _ ds (by simpa using hl) fun i v x hv hx => ?_)
    rw [Array.getElem?_map, Option.map_eq_some_iff] at hv
    obtain ⟨y, hy, rfl⟩ := hv
    exact (hr i y (.d x) (by simpa using hy) (by rw [List.getElem?_map, hx]; rfl)).d_inv
  · refine .fn f _ vs (by simpa using hl) fun i v x hv hx => ?_
    rw [Array.getElem?_map, Option.map_eq_some_iff] at hv
    obtain ⟨y, hy, rfl⟩ := hv
    exact hr i y x (by simpa using hy) hx
end
end Go.Abs
