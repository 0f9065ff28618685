/- A certified evaluator for the walked functions, and their contracts, for the laws of the variables. -/
import Derived.Test.YtnmlodkomklpfaaGreatLE
set_option linter.unusedVariables false
set_option linter.unusedSimpArgs false
namespace Go.Abs
section
variable {C : Ctx} {call : Zaa} {fa : FA} {own own' own1 : Own} {st st' st1 st2 : St} {a : Act} {w w' w1 : World} {o : Oper}
theorem Zb9 {ops : Array Oper} {d : Nat} {v : XV} (h : d ∉ o.looksAt ops) : Zaw ops.toList o { st with tmp := ins st.tmp d v } = Zaw ops.toList o st := by
  unfold Zaw
  cases hg : o.guard with
  | none => rfl
  | some gw =>
    obtain ⟨g, want⟩ := gw
    simp only
    cases ht : (ops.toList[g]?).bind (·.dst) with
    | none => rfl
    | some t =>
      have hne : d ≠ t := fun e => h (by
        subst e
        have ht' : (ops[g]?).bind (·.dst) = some d := by simpa using ht
        simp [Oper.looksAt, hg, ht'])
      simp only [Za2, beq_ne.2 hne, cond_false]
theorem Zfp {ops : Array Oper} {d : Nat} {v : XV} (h : d ∉ o.looksAt ops) : ZaQ C call fa o { st with tmp := ins st.tmp d v } = ZaQ C call fa o st :=
  ZmR ⟨rfl, rfl, fun x hx => ZuV st v fun e => h (by
    subst e
    exact List.mem_append_left _ (List.mem_filterMap.2 ⟨.tmp d, hx, rfl⟩))⟩
theorem ZgZ {all : List Oper} (hk : Zdq fa o = true) (h : Zau C call fa all true o st = some st1) : ∃ t x, o.dst = some t ∧ st1 = { st with tmp := ins st.tmp t x } ∧ has fa.keep t = false ∧ Nat.blt t fa.nt = true ∧
    ((Zaw all o st = some true ∧ ZaQ C call fa o st = some x) ∨ (Zaw all o st = some false ∧ x = .un)) := by
  unfold Zdq at hk
  simp only [Bool.and_eq_true] at hk
  obtain ⟨hk, _⟩ := hk
  have put : ∀ {t x}, o.dst = some t → has fa.keep t = false → st.put fa o.dst x = some st1 → st1 = { st with tmp := ins st.tmp t x } ∧ Nat.blt t fa.nt = true := by
    intro t x hd hkt hp
    rw [hd] at hp
    simp only [St.put] at hp
    cases hb : Nat.blt t fa.nt with
    | false => rw [hb] at hp; cases hp
    | true =>
      rw [hb, hkt] at hp
      simp only [cond_true, cond_false, Option.some.injEq] at hp
      exact ⟨hp.symm, rfl⟩
  split at hk
  · rename_i t hd
    have hkt : has fa.keep t = false := by simpa using hk
    unfold Zau at h
    split at h
    · rename_i hw
      simp only [cond_true] at h
      split at h
      · rename_i x hx
        obtain ⟨h1, h2⟩ := put hd hkt h
        exact ⟨t, x, hd, h1, hkt, h2, .inl ⟨hw, hx⟩⟩
      · cases h
    · rename_i hw
      obtain ⟨h1, h2⟩ := put hd hkt h
      exact ⟨t, .un, hd, h1, hkt, h2, .inr ⟨hw, rfl⟩⟩
    · cases h
  · cases hk
theorem ZcY {all : List Oper} {t : Nat} {x : XV} (hd : o.dst = some t) (hkt : has fa.keep t = false) (hb : Nat.blt t fa.nt = true)
    (h : (Zaw all o st = some true ∧ ZaQ C call fa o st = some x) ∨ (Zaw all o st = some false ∧ x = .un)) : Zau C call fa all true o st = some { st with tmp := ins st.tmp t x } := by
  unfold Zau
  rcases h with ⟨h1, h2⟩ | ⟨h1, rfl⟩
  · rw [h1]; simp only [cond_true, h2]; rw [hd]; simp only [St.put, hb, hkt, cond_true, cond_false]
  · rw [h1]; simp only; rw [hd]; simp only [St.put, hb, hkt, cond_true, cond_false]
theorem Zuv {ops : Array Oper} {oi oj : Oper} (hi : Zdq fa oi = true) (hj : Zdq fa oj = true) (hap : oi.apart ops oj = true)
    (h1 : Zau C call fa ops.toList true oi st = some st1) (h2 : Zau C call fa ops.toList true oj st1 = some st2) :
    ∃ st1', Zau C call fa ops.toList true oj st = some st1' ∧ Zau C call fa ops.toList true oi st1' = some st2 := by
  obtain ⟨e1, e2, e3⟩ := Oper.apart_spec hap
  obtain ⟨t, x, d1, rfl, k1, b1, c1⟩ := ZgZ hi h1
  obtain ⟨s, y, d2, rfl, k2, b2, c2⟩ := ZgZ hj h2
  rw [Zb9 (e1 t d1), Zfp (e1 t d1)] at c2
  refine ⟨_, ZcY d2 k2 b2 c2, ?_⟩
  have hts : t ≠ s := fun e => e2 t d1 (by rw [d2, e])
  have := ZcY (C := C) (call := call) (st := { st with tmp := ins st.tmp s y }) (all := ops.toList) (x := x) d1 k1 b1 (by rw [Zb9 (e3 s d2), Zfp (e3 s d2)]; exact c1)
  rw [this]
  simp only [Option.some.injEq, St.mk.injEq, true_and, and_true]
  exact ZfH _ _ _ (Ne.symm hts)
theorem Zzh {u : Nat} {es : List DV} (hu : Zab st.tmp u = some (.own es)) (x : Operand) : opx { st with tmp := ins st.tmp u (.a (.d (.slc es))) } x = opx st x := by
  cases x with
  | tmp t =>
    simp only [opx, Za2]
    cases hb : Nat.beq u t with
    | true =>
      have := Nat.eq_of_beq_eq_true hb
      subst this
      simp only [cond_true, hu, XV.copy]
    | false => simp only [cond_false]
  | _ => rfl
theorem Zl0 {ops : List Oper} {u : Nat} {es : List DV} (hu : Zab st.tmp u = some (.own es)) : Zaw ops o { st with tmp := ins st.tmp u (.a (.d (.slc es))) } = Zaw ops o st := by
  unfold Zaw
  cases hg : o.guard with
  | none => rfl
  | some gw =>
    obtain ⟨g, want⟩ := gw
    simp only
    cases ht : (ops[g]?).bind (·.dst) with
    | none => rfl
    | some t =>
      simp only [Za2]
      cases hb : Nat.beq u t with
      | true =>
        have := Nat.eq_of_beq_eq_true hb
        subst this
        simp only [cond_true, hu]
      | false => simp only [cond_false]
def YcO (C : Ctx) (fa : FA) (st : St) (d t : Nat) (x : Operand) (es : List DV) : Option (List DV) := match C.elemSize t, opD st x with
  | some sz, some (.slc new) => bif Zao sz new && Zao sz (es.take 1) && ZbL C t (es.length + new.length) && C.elemOk t sz && Nat.blt d fa.nt then some (es ++ new) else none
  | _, _ => none
theorem ZsH (hk : Za5 fa o = true) : ∃ c d u x, o.op = .call c ∧ c.callee = .builtin .append ∧ c.args.toList = [.tmp u, x] ∧ o.dst = some d ∧ has fa.keep d = false ∧ has fa.heapy d = false ∧ u ≠ d := by
  unfold Za5 at hk
  split at hk
  · rename_i c d hop hd
    split at hk
    · rename_i u x hc ha
      simp only [Bool.and_eq_true, Bool.not_eq_true'] at hk
      exact ⟨c, d, u, x, hop, hc, ha, hd, hk.1.1.1.2, hk.1.1.2, fun e => by subst e; have := hk.2; simp at this⟩
    · cases hk
  · cases hk
theorem Zi7 (hk : Za5 fa o = true) {c : Call} {d u : Nat} {x : Operand} (hop : o.op = .call c) (hc : c.callee = .builtin .append) (ha : c.args.toList = [.tmp u, x]) (hd : o.dst = some d) (h1 : has fa.keep d = false) (h2 : has fa.heapy d = false) (all : List Oper) (st st1 : St) :
    Zau C call fa all false o st = some st1 ↔ (Zaw all o st = some false ∧ Nat.blt d fa.nt = true ∧ st1 = { st with tmp := ins st.tmp d .un }) ∨
      (Zaw all o st = some true ∧ ∃ t es zs, c.argTypes.toList = [t, t] ∧ Zab st.tmp u = some (.own es) ∧ YcO C fa st d t x es = some zs ∧ st1 = { st with tmp := ins (ins st.tmp u (.a (.d (.slc es)))) d (.own zs) }) := by
  have hv : ZaQ C call fa o st = none := by
    simp only [ZaQ, hop, hc, Zak, oD]
  unfold Zau
  cases hw : Zaw all o st with
  | none => simp
  | some b =>
    cases b with
    | false =>
      simp only [hd, St.put, h1, cond_false]
      cases hb : Nat.blt d fa.nt with
      | false => simp
      | true => simp only [cond_true, Option.some.injEq]; constructor
                · intro h; exact .inl ⟨trivial, trivial, h.symm⟩
                · rintro (⟨_, _, h⟩ | ⟨h, _⟩)
                  · exact h.symm
                  · simp at h
    | true =>
      simp only [cond_false, Zeh, hv, Zbs, hop, hc]
      constructor
      · intro h
        right
        refine ⟨trivial, ?_⟩
        split at h
        · rename_i s x' t t' _ ha' ht'
          rw [ha] at ha'
          simp only [List.cons.injEq, and_true] at ha'
          obtain ⟨rfl, rfl⟩ := ha'
          cases hg : Nat.beq t t' && (!Za5 fa o || ZrP st (.tmp u)) with
          | false => rw [hg] at h; cases h
          | true =>
            rw [hg] at h
            simp only [cond_true] at h
            simp only [hk, Bool.not_true, Bool.false_or, Bool.and_eq_true] at hg
            have e := Nat.eq_of_beq_eq_true hg.1
            subst e
            have hg2 := hg.2
            simp only [ZrP] at hg2
            split at hg2
            · rename_i es hu
              have hopd : opd st (.tmp u) = some (.a (.d (.slc es))) := by simp only [opd, opx, hu, XV.copy, XV.flat]
              have hown : Zbx st (.tmp u) = some es := by simp only [Zbx, hu]
              have hlose : st.lose (.tmp u) = { st with tmp := ins st.tmp u (.a (.d (.slc es))) } := by simp only [St.lose, hu]
              unfold Zay at h
              cases hs : C.elemSize t with
              | none => rw [hs] at h; simp at h
              | some sz =>
                cases hx : opD st x with
                | none => rw [hs, hx] at h; simp at h
                | some xv =>
                  cases xv <;> (try (rw [hs, hx] at h; simp at h; done))
                  rename_i new
                  rw [hs, hx] at h
                  simp only [hopd, hown, hlose, ZaG, hd, h2, cond_false, St.putOwn, h1] at h
                  refine ⟨t, es, es ++ new, ht', hu, ?_, ?_⟩
                  all_goals
                    cases hcnd : Zao sz new && Zao sz (es.take 1) && ZbL C t (es.length + new.length) && C.elemOk t sz with
                    | false => rw [hcnd] at h; cases h
                    | true =>
                      rw [hcnd] at h
                      simp only [cond_true] at h
                      cases hb : Nat.blt d fa.nt with
                      | false => rw [hb] at h; cases h
                      | true =>
                        rw [hb] at h
                        first
                          | (simp only [YcO, hs, hx, hcnd, hb, Bool.and_self, cond_true]; done)
                          | (simp only [cond_true, Option.some.injEq] at h; exact h.symm)
            · cases hg2
        · rename_i hbad _ _; cases hbad
        · cases h
      · rintro (⟨h, _⟩ | ⟨_, t, es, zs, ht, hu, hz, rfl⟩)
        · cases h
        · have hopd : opd st (.tmp u) = some (.a (.d (.slc es))) := by simp only [opd, opx, hu, XV.copy, XV.flat]
          have hown : Zbx st (.tmp u) = some es := by simp only [Zbx, hu]
          have hlose : st.lose (.tmp u) = { st with tmp := ins st.tmp u (.a (.d (.slc es))) } := by simp only [St.lose, hu]
          unfold YcO at hz
          split at hz
          · rename_i sz new hs hx
            cases hcnd : Zao sz new && Zao sz (es.take 1) && ZbL C t (es.length + new.length) && C.elemOk t sz && Nat.blt d fa.nt with
            | false => rw [hcnd] at hz; cases hz
            | true =>
              rw [hcnd] at hz
              simp only [cond_true, Option.some.injEq] at hz
              subst hz
              rw [Bool.and_eq_true] at hcnd
              simp only [ha, ht, Nat.beq_refl, hk, Bool.not_true, Bool.false_or, ZrP, hu, Bool.and_self, cond_true, Zay, hs, hx, hopd, hown, hlose, ZaG, hd, h2, cond_false, St.putOwn, h1, hcnd.1, hcnd.2]
          · cases hz
theorem ZlY {ops : Array Oper} {u : Nat} (h : Operand.tmp u ∈ o.op.operands) : u ∈ o.looksAt ops := List.mem_append_left _ (List.mem_filterMap.2 ⟨.tmp u, by simpa using h, rfl⟩)
theorem Ztx {u : Nat} {es : List DV} (hu : Zab st.tmp u = some (.own es)) : ZaQ C call fa o { st with tmp := ins st.tmp u (.a (.d (.slc es))) } = ZaQ C call fa o st := ZmR ⟨rfl, rfl, fun x _ => Zzh hu x⟩
theorem Zxz {c : Call} {u : Nat} {x : Operand} (hop : o.op = .call c) (ha : c.args.toList = [.tmp u, x]) : .tmp u ∈ o.op.operands ∧ x ∈ o.op.operands := by
  have h : ∀ y, y ∈ c.args.toList → y ∈ o.op.operands := fun y hy => by
    rw [hop]
    simp only [Op.operands, Call.operands]
    cases c.callee <;> simp <;> simp at hy <;> simp [hy]
  exact ⟨h _ (by rw [ha]; simp), h _ (by rw [ha]; simp)⟩
theorem Zsw {ops : Array Oper} {d t s : Nat} {x : Operand} {y : XV} {es : List DV} (hx : x ∈ o.op.operands) (hs : s ∉ o.looksAt ops) : YcO C fa { st with tmp := ins st.tmp s y } d t x es = YcO C fa st d t x es := by
  have : opx { st with tmp := ins st.tmp s y } x = opx st x := ZuV st y fun e => hs (by subst e; exact ZlY hx)
  unfold YcO
  simp only [opD, opd, this]
theorem Zwy {ops : Array Oper} {oi oj : Oper} (hi : Za5 fa oi = true) (hj : Zdq fa oj = true) (hap : oi.apart ops oj = true)
    (h1 : Zau C call fa ops.toList false oi st = some st1) (h2 : Zau C call fa ops.toList true oj st1 = some st2) :
    ∃ st1', Zau C call fa ops.toList true oj st = some st1' ∧ Zau C call fa ops.toList false oi st1' = some st2 := by
  obtain ⟨e1, e2, e3⟩ := Oper.apart_spec hap
  obtain ⟨c, d, u, x, hop, hc, ha, hd, k1, k2, hne⟩ := ZsH hi
  obtain ⟨m1, m2⟩ := Zxz hop ha
  obtain ⟨s, y, d2, rfl, ks, bs, c2⟩ := ZgZ hj h2
  have hds : d ≠ s := fun e => e2 d hd (by rw [d2, e])
  have hus : u ≠ s := fun e => e3 s d2 (e ▸ ZlY m1)
  rcases (Zi7 hi hop hc ha hd k1 k2 _ _ _).1 h1 with ⟨w1, b1, rfl⟩ | ⟨w1, t, es, zs, ht, hu, hz, rfl⟩
  · rw [Zb9 (e1 d hd), Zfp (e1 d hd)] at c2
    refine ⟨_, ZcY d2 ks bs c2, (Zi7 hi hop hc ha hd k1 k2 _ _ _).2 (.inl ⟨by rw [Zb9 (e3 s d2)]; exact w1, b1, ?_⟩)⟩
    simp only [St.mk.injEq, true_and, and_true]
    exact ZfH _ _ _ hds
  · rw [Zb9 (st := { st with tmp := ins st.tmp u (.a (.d (.slc es))) }) (e1 d hd), Zfp (st := { st with tmp := ins st.tmp u (.a (.d (.slc es))) }) (e1 d hd), Zl0 hu, Ztx hu] at c2
    refine ⟨_, ZcY d2 ks bs c2, (Zi7 hi hop hc ha hd k1 k2 _ _ _).2 (.inr ⟨by rw [Zb9 (e3 s d2)]; exact w1, t, es, zs, ht, ?_, by rw [Zsw m2 (e3 s d2)]; exact hz, ?_⟩)⟩
    · simp only [Za2, beq_ne.2 (Ne.symm hus), cond_false, hu]
    · simp only [St.mk.injEq, true_and, and_true]
      rw [ZfH _ _ _ hds, ZfH _ _ _ hus]
theorem Zxq {ops : Array Oper} {oi oj : Oper} (hi : Zdq fa oi = true) (hj : Za5 fa oj = true) (hap : oi.apart ops oj = true)
    (h1 : Zau C call fa ops.toList true oi st = some st1) (h2 : Zau C call fa ops.toList false oj st1 = some st2) :
    ∃ st1', Zau C call fa ops.toList false oj st = some st1' ∧ Zau C call fa ops.toList true oi st1' = some st2 := by
  obtain ⟨e1, e2, e3⟩ := Oper.apart_spec hap
  obtain ⟨c, d, u, x, hop, hc, ha, hd, k1, k2, hne⟩ := ZsH hj
  obtain ⟨m1, m2⟩ := Zxz hop ha
  obtain ⟨s, y, d2, rfl, ks, bs, c2⟩ := ZgZ hi h1
  have hds : s ≠ d := fun e => e2 s d2 (by rw [hd, e])
  have hus : s ≠ u := fun e => e1 s d2 (e ▸ ZlY m1)
  rcases (Zi7 hj hop hc ha hd k1 k2 _ _ _).1 h2 with ⟨w1, b1, rfl⟩ | ⟨w1, t, es, zs, ht, hu, hz, rfl⟩
  · rw [Zb9 (e1 s d2)] at w1
    refine ⟨_, (Zi7 hj hop hc ha hd k1 k2 _ _ _).2 (.inl ⟨w1, b1, rfl⟩), ?_⟩
    have := ZcY (C := C) (call := call) (st := { st with tmp := ins st.tmp d .un }) (all := ops.toList) (x := y) d2 ks bs (by rw [Zb9 (e3 d hd), Zfp (e3 d hd)]; exact c2)
    rw [this]
    simp only [Option.some.injEq, St.mk.injEq, true_and, and_true]
    exact ZfH _ _ _ (Ne.symm hds)
  · simp only [Za2, beq_ne.2 hus, cond_false] at hu
    rw [Zb9 (e1 s d2)] at w1
    rw [Zsw m2 (e1 s d2)] at hz
    refine ⟨_, (Zi7 hj hop hc ha hd k1 k2 _ _ _).2 (.inr ⟨w1, t, es, zs, ht, hu, hz, rfl⟩), ?_⟩
    have := ZcY (C := C) (call := call) (st := { st with tmp := ins (ins st.tmp u (.a (.d (.slc es)))) d (.own zs) }) (all := ops.toList) (x := y) d2 ks bs (by
      rw [Zb9 (st := { st with tmp := ins st.tmp u (.a (.d (.slc es))) }) (e3 d hd), Zfp (st := { st with tmp := ins st.tmp u (.a (.d (.slc es))) }) (e3 d hd), Zl0 hu, Ztx hu]; exact c2)
    rw [this]
    simp only [Option.some.injEq, St.mk.injEq, true_and, and_true]
    rw [ZfH _ _ _ (Ne.symm hds), ZfH _ _ _ (Ne.symm hus)]
def ZcZ (listed : Array Bool) (i : Nat) : Prop := listed.getD i false = true
def Zle (ops : Array Oper) (listed : Array Bool) : Prop := ∀ m, ZcZ listed m → ∀ p ∈ Zub ops.toList m, ZcZ listed p
theorem Zl5 {ops : Array Oper} {listed : Array Bool} {j : Nat} (h : j ∈ Region.ready .any ops listed) : ∀ p ∈ Zub ops.toList j, ZcZ listed p := by
  obtain ⟨_, o, ho, hall⟩ := mem_ready.1 h
  intro p hp
  unfold Zub at hp
  rw [show ops.toList[j]? = some o by simpa using ho] at hp
  simp only [List.mem_map, List.mem_filter] at hp
  obtain ⟨e, ⟨he, hb⟩, rfl⟩ := hp
  exact hall e (by simpa using he) hb
theorem ZmD {ops : Array Oper} {listed : Array Bool} (hc : Zle ops listed) {j : Nat} (h : j ∈ Region.ready .any ops listed) : Zle ops (listed.setIfInBounds j true) := by
  intro m hm p hp
  by_cases hmj : j = m
  · subst hmj; exact getD_set_true (Zl5 h p hp)
  · unfold ZcZ at hm
    rw [getD_set_ne false hmj] at hm
    exact getD_set_true (hc m hm p hp)
theorem ZiL {ops : Array Oper} {listed : Array Bool} (hc : Zle ops listed) : ∀ (n : Nat) (l : List Nat), (∀ x ∈ l, ZcZ listed x) → ∀ x ∈ Zu6 ops.toList n l, ZcZ listed x
  | 0, l, h, x, hx => h x hx
  | n + 1, l, h, x, hx => by
    refine ZiL hc n _ (fun y hy => ?_) x hx
    have Zzi : ∀ (ps acc : List Nat), (∀ p ∈ ps, ZcZ listed p) → (∀ p ∈ acc, ZcZ listed p) → ∀ y ∈ ps.foldl (fun acc k => bif has acc k then acc else k :: acc) acc, ZcZ listed y := by
      intro ps
      induction ps with
      | nil => intro acc _ h2; exact h2
      | cons p ps ih =>
        intro acc h1 h2
        simp only [List.foldl_cons]
        refine ih _ (fun q hq => h1 q (List.mem_cons_of_mem _ hq)) (fun q hq => ?_)
        cases hh : has acc p with
        | true => rw [hh] at hq; exact h2 q hq
        | false =>
          rw [hh] at hq
          simp only [cond_false, List.mem_cons] at hq
          rcases hq with rfl | hq
          · exact h1 q (by simp)
          · exact h2 q hq
    have outer : ∀ (m acc : List Nat), (∀ p ∈ m, ZcZ listed p) → (∀ p ∈ acc, ZcZ listed p) →
        ∀ y ∈ m.foldl (fun acc i => (Zub ops.toList i).foldl (fun acc k => bif has acc k then acc else k :: acc) acc) acc, ZcZ listed y := by
      intro m
      induction m with
      | nil => intro acc _ h2; exact h2
      | cons p m ih =>
        intro acc h1 h2
        simp only [List.foldl_cons]
        exact ih _ (fun q hq => h1 q (List.mem_cons_of_mem _ hq)) (Zzi _ _ (hc p (h1 p (by simp))) h2)
    exact outer l l h h y hy
theorem ZfJ {ops : Array Oper} {listed : Array Bool} (hc : Zle ops listed) {j : Nat} (h : j ∈ Region.ready .any ops listed) : ∀ x, has (Zoq ops.toList j) x = true → ZcZ listed x :=
  fun x hx => ZiL hc _ _ (Zl5 h) x (has_iff.1 hx)
theorem Zfn {ops : Array Oper} {listed : Array Bool} {j : Nat} (h : j ∈ Region.ready .any ops listed) : ¬ ZcZ listed j := by
  intro hl
  have h0 := (mem_ready.1 h).1
  unfold ZcZ at hl
  rcases Nat.lt_or_ge j listed.size with h' | h'
  · simp [h'] at h0 hl; rw [h0] at hl; cases hl
  · simp [Array.getElem?_eq_none h'] at hl
theorem ZmZ {ops : Array Oper} {listed : Array Bool} (hc : Zle ops listed) {i j : Nat} (hi : i ∈ Region.ready .any ops listed) (hj : j ∈ Region.ready .any ops listed) (hne : i ≠ j)
    (hlt : ∀ k, k ∈ Region.ready .any ops listed → k < ops.size) : ZnW ops.toList ((List.range ops.toList.length).map (Zoq ops.toList)) i = false := by
  cases hs : ZnW ops.toList ((List.range ops.toList.length).map (Zoq ops.toList)) i with
  | false => rfl
  | true =>
    unfold ZnW at hs
    rw [List.all_eq_true] at hs
    have hjl : j < ops.toList.length := by have := hlt j hj; simpa using this
    have hil : i < ops.toList.length := by have := hlt i hi; simpa using this
    have h1 := hs j (List.mem_range.2 hjl)
    have hji : Nat.beq j i = false := beq_ne.2 (Ne.symm hne)
    rw [hji, Bool.false_or] at h1
    have anc : ∀ k, k < ops.toList.length → ((List.range ops.toList.length).map (Zoq ops.toList)).getD k [] = Zoq ops.toList k := by
      intro k hk
      rw [List.getD_eq_getElem?_getD, List.getElem?_map, List.getElem?_range hk]
      rfl
    cases hb : Nat.blt j i with
    | true =>
      rw [hb, cond_true, anc i hil] at h1
      exact absurd (ZfJ hc hi j h1) (Zfn hj)
    | false =>
      rw [hb, cond_false, anc j hjl] at h1
      exact absurd (ZfJ hc hj i h1) (Zfn hi)
theorem ZtV {ops : Array Oper} {q : Nat → Bool} {i : Nat} {oi : Oper} (hi : ops[i]? = some oi)
    (hq : ∀ j, j < ops.size → ZnW ops.toList ((List.range ops.toList.length).map (Zoq ops.toList)) j = false → ∀ oj, ops[j]? = some oj → (q j = true ∧ Zdq fa oj = true) ∨ (q j = false ∧ Za5 fa oj = true))
    (hoo : ∀ i j oi oj, i ≠ j → ops[i]? = some oi → ops[j]? = some oj → has (Zoq ops.toList j) i = false → has (Zoq ops.toList i) j = false → ¬ (Za5 fa oi = true ∧ Za5 fa oj = true)) :
    ∀ (fuel : Nat) (listed : Array Bool) (st st1 st' : St), Zle ops listed →
      (∀ j oj, ops[j]? = some oj → j ≠ i → listed.getD j true = false → (∀ e ∈ oj.after, Region.binds .any e = true → e.on ≠ i) → oi.apart ops oj = true) →
      i ∈ Region.ready .any ops listed → Zau C call fa ops.toList (q i) oi st = some st1 →
      Ydc C call fa ops q fuel (listed.setIfInBounds i true) st1 st' → Ydc C call fa ops q (fuel + 1) listed st st' := by
  have rlt : ∀ listed k, k ∈ Region.ready .any ops listed → k < ops.size := fun listed k hk => by
    obtain ⟨_, o, ho, _⟩ := mem_ready.1 hk
    exact (Array.getElem?_eq_some_iff.1 ho).1
  intro fuel
  induction fuel with
  | zero =>
    intro listed st st1 st' _ _ hr hy H
    refine ⟨fun h => (by rw [h] at hr; cases hr), fun j hj => ?_⟩
    by_cases hji : j = i
    · subst hji; exact ⟨oi, st1, hi, hy, H⟩
    · have := ready_mono hj hji
      rw [H.1] at this
      cases this
  | succ fuel ih =>
    intro listed st st1 st' hc hfree hr hy H
    refine ⟨fun h => (by rw [h] at hr; cases hr), fun j hj => ?_⟩
    by_cases hji : j = i
    · subst hji; exact ⟨oi, st1, hi, hy, H⟩
    · obtain ⟨oj, st2, hoj, h2, h3⟩ := H.2 j (ready_mono hj hji)
      obtain ⟨hjun, oj', hoj', hall⟩ := mem_ready.1 hj
      rw [hoj] at hoj'
      simp only [Option.some.injEq] at hoj'
      subst hoj'
      have hnot : ∀ e ∈ oj.after, Region.binds .any e = true → e.on ≠ i := fun e he hb heq => by
        have h1 := hall e he hb
        rw [heq] at h1
        exact Zfn hr h1
      have qi := hq i (rlt _ i hr) (ZmZ hc hr hj (Ne.symm hji) (rlt listed)) oi hi
      have qj := hq j (rlt _ j hj) (ZmZ hc hj hr hji (rlt listed)) oj hoj
      have hno : ¬ (Za5 fa oi = true ∧ Za5 fa oj = true) := by
        refine hoo i j oi oj (Ne.symm hji) hi hoj ?_ ?_
        · cases h : has (Zoq ops.toList j) i with
          | false => rfl
          | true => exact absurd (ZfJ hc hj i h) (Zfn hr)
        · cases h : has (Zoq ops.toList i) j with
          | false => rfl
          | true => exact absurd (ZfJ hc hr j h) (Zfn hj)
      have hap := hfree j oj hoj hji hjun hnot
      obtain ⟨st1', g1, g2⟩ : ∃ st1', Zau C call fa ops.toList (q j) oj st = some st1' ∧ Zau C call fa ops.toList (q i) oi st1' = some st2 := by
        rcases qi with ⟨qi1, qi2⟩ | ⟨qi1, qi2⟩ <;> rcases qj with ⟨qj1, qj2⟩ | ⟨qj1, qj2⟩ <;> rw [qi1] at hy ⊢ <;> rw [qj1] at h2 ⊢
        · exact Zuv qi2 qj2 hap hy h2
        · exact Zxq qi2 qj2 hap hy h2
        · exact Zwy qi2 qj2 hap hy h2
        · exact absurd ⟨qi2, qj2⟩ hno
      refine ⟨oj, st1', hoj, g1, ih (listed.setIfInBounds j true) st1' st2 st' (ZmD hc hj) (fun k ok hk hki hun hno => ?_) (ready_mono hr (Ne.symm hji)) g2 ?_⟩
      · refine hfree k ok hk hki ?_ hno
        by_cases hjk : j = k
        · subst hjk; exact hjun
        · rw [getD_set_ne true hjk] at hun; exact hun
      · rw [Array.setIfInBounds_comm _ _ hji]
        exact h3
theorem Zsf {ops : Array Oper} {q : Nat → Bool}
    (hq : ∀ j, j < ops.size → ZnW ops.toList ((List.range ops.toList.length).map (Zoq ops.toList)) j = false → ∀ oj, ops[j]? = some oj → (q j = true ∧ Zdq fa oj = true) ∨ (q j = false ∧ Za5 fa oj = true))
    (hoo : ∀ i j oi oj, i ≠ j → ops[i]? = some oi → ops[j]? = some oj → has (Zoq ops.toList j) i = false → has (Zoq ops.toList i) j = false → ¬ (Za5 fa oi = true ∧ Za5 fa oj = true)) :
    ∀ (l : List Oper) (qs : List Bool) (k : Nat) (listed : Array Bool) (st st' : St), (∀ j, l[j]? = ops[k + j]?) → (∀ j b, qs[j]? = some b → q (k + j) = b) → Zle ops listed →
    Region.lexFrom .any ops l.length k listed = true → Zfm C call fa ops.toList qs l st = some st' → Ydc C call fa ops q l.length listed st st'
  | [], qs, k, listed, st, st', _, _, _, hB, h => by
    refine ⟨by simpa [Region.lexFrom] using hB, ?_⟩
    cases qs <;> simpa [Zfm] using h
  | o :: l, [], k, listed, st, st', _, _, _, _, h => by simp [Zfm] at h
  | o :: l, b :: qs, k, listed, st, st', hl, hqs, hc, hB, h => by
    have h0 : ops[k]? = some o := by simpa using (hl 0).symm
    have hqb : q k = b := by simpa using hqs 0 b rfl
    simp only [List.length_cons, Region.lexFrom, Bool.and_eq_true] at hB
    obtain ⟨⟨hr, hf⟩, hB'⟩ := hB
    have hr' : k ∈ Region.ready .any ops listed := by simpa using hr
    simp only [Zfm] at h
    split at h
    · rename_i st1 h1
      refine ZtV h0 hq hoo l.length listed st st1 st' hc (Region.free_spec h0 hf) hr' (by rw [hqb]; exact h1) ?_
      exact Zsf hq hoo l qs (k + 1) _ st1 st' (fun j => by have := hl (j + 1); simpa [Nat.add_assoc, Nat.add_comm 1 j] using this)
        (fun j b' hb' => by have := hqs (j + 1) b' (by simpa using hb'); rw [← this]; congr 1; omega) (ZmD hc hr') hB' h
    · cases h
theorem SRel.dropTmp (S : SRel C.P fa own st a w) : SRel C.P fa own { st with tmp := [] } a w :=
  ⟨S.h, S.nt, S.defers, S.ek, fun t x h => by simp [Zab] at h, S.env, fun t x h => by simp [Zab] at h⟩
theorem ZiG (hn : Zbj C.P) (hm : C.P.follows .mixedOrders = true) (hK : Zba C.P call) (S : SRel C.P fa own st a w) {id : Nat} {ops : Array Oper} {draw : Bool} {Q : Exit → Act → World → Prop}
    (he : Zc8 C call fa draw ops.toList st = some st') (hQ' : Yd2 C.P fa own st.heap st' w (Q .normal)) : (Code.region id ops draw).wp C.P Q a w := by
  unfold Zc8 at he
  cases draw with
  | false =>
    simp only [cond_false] at he
    exact wp_region_list (by
      have := Zdd hn hK (Q := Q) ops.toList st own a w he S hQ'
      simpa using this)
  | true =>
    simp only [cond_true] at he
    cases hd : Zpe fa ops.toList with
    | false => rw [hd] at he; cases he
    | true =>
      rw [hd] at he
      simp only [cond_true] at he
      unfold Zpe at hd
      simp only [Bool.and_eq_true] at hd
      obtain ⟨⟨d1, d2⟩, d3⟩ := hd
      have d1' : Region.lexB .any ops = true := by simpa using d1
      simp only [Region.lexB, Bool.and_eq_true] at d1'
      have S' : SRel C.P fa own st a { w with drawn := w.drawn + 1 } := S.grow ⟨rfl, rfl, rfl, Nat.le_refl _, fun _ _ => rfl⟩
      refine wp_region_any hm ?_
      refine ZmG hn hK ops.size _ st own a _ (q := fun j => (Zdx fa ops.toList).getD j true) ?_ S' (fun a' w' own' S2 F E => hQ' a' w' own' S2 ⟨F.os, F.tape, F.output, F.size, F.blk⟩ ⟨⟨E.ext.cell, E.ext.map⟩, E.len, E.kind, E.blk⟩)
      have hql : ∀ j, j < ops.toList.length → (Zdx fa ops.toList)[j]? = some (!ZnW ops.toList ((List.range ops.toList.length).map (Zoq ops.toList)) j && !YcX fa ops.toList j) := by
        intro j hj
        unfold Zdx
        simp only [List.getElem?_map, List.getElem?_range hj]
        rfl
      have := Zsf (C := C) (call := call) (fa := fa) (ops := ops) (q := fun j => (Zdx fa ops.toList).getD j true) (fun j hj hs => by
        have hjl : j < ops.toList.length := by simpa using hj
        intro oj hoj
        have hoj' : ops.toList[j]? = some oj := by simpa using hoj
        have hob : YcX fa ops.toList j = Za5 fa oj := by simp only [YcX, hoj']
        rw [List.getD_eq_getElem?_getD, hql j hjl, hs, hob]
        rw [List.all_eq_true] at d2
        have := d2 j (List.mem_range.2 hjl)
        rw [hs, Bool.false_or, hoj'] at this
        simp only [Bool.or_eq_true] at this
        cases hk : Za5 fa oj with
        | true => exact .inr ⟨rfl, rfl⟩
        | false => exact .inl ⟨rfl, this.resolve_right (by rw [hk]; decide)⟩) (fun i j oi oj hij hoi hoj h1 h2 => by
        have hil : i < ops.toList.length := by simpa using (Array.getElem?_eq_some_iff.1 hoi).1
        have hjl : j < ops.toList.length := by simpa using (Array.getElem?_eq_some_iff.1 hoj).1
        rw [List.all_eq_true] at d3
        have := d3 i (List.mem_range.2 hil)
        rw [List.all_eq_true] at this
        have := this j (List.mem_range.2 hjl)
        have anc : ∀ k, k < ops.toList.length → ((List.range ops.toList.length).map (Zoq ops.toList)).getD k [] = Zoq ops.toList k := by
          intro k hk
          rw [List.getD_eq_getElem?_getD, List.getElem?_map, List.getElem?_range hk]
          rfl
        unfold YdG at this
        rw [anc i hil, anc j hjl, h1, h2, beq_ne.2 hij, show ops.toList[i]? = some oi by simpa using hoi, show ops.toList[j]? = some oj by simpa using hoj] at this
        rintro ⟨g1, g2⟩
        simp [g1, g2] at this) ops.toList (Zdx fa ops.toList) 0 (Array.replicate ops.size false) st st' (by simp) (fun j b hb => by rw [Nat.zero_add, List.getD_eq_getElem?_getD, hb]; rfl) (fun m hm => by
          unfold ZcZ at hm
          rcases Nat.lt_or_ge m (Array.replicate ops.size false).size with h' | h'
          · simp at h'; simp [h'] at hm
          · simp at h'; simp [h'] at hm) (by simpa using d1'.2) he
      simpa using this
theorem ZpP (hn : Zbj C.P) (hm : C.P.follows .mixedOrders = true) (hK : Zba C.P call) (S : SRel C.P fa own st a w) {id : Nat} {ops : Array Oper} {draw : Bool} {Q : Exit → Act → World → Prop}
    (he : Zc8 C call fa draw ops.toList st = some st') (hQ : Yd2 C.P fa own st.heap { st' with tmp := [] } w (Q .normal)) : (Code.region id ops draw).wp C.P Q a w :=
  ZiG hn hm hK S he fun a' w' own' S' F E => hQ a' w' own' S'.dropTmp F E
end
end Go.Abs
namespace Go.Abs
def Out.st : Out → St
  | .norm st => st
  | .exit _ st => st
  | .goto _ st => st
  | .ret st => st
def Out.ex : Out → Exit
  | .norm _ => .normal
  | .exit id _ => .exit id
  | .goto l _ => .goto l
  | .ret _ => .ret
def OutRel (P : Program) (fa : FA) (own : Own) (h : List AObj) (w : World) (out : Out) : Exit → Act → World → Prop :=
  fun e a' w' => e = out.ex ∧ ∃ own', SRel P fa own' out.st a' w' ∧ Frm w own w' own' ∧ ExtA w own h w' own' out.st.heap
section
variable {C : Ctx} {call : Zaa} {fa : FA} {own own' own1 : Own} {st st' st1 st2 : St} {a a1 : Act} {w w' w1 : World} {h : List AObj} {out : Out}
theorem OutRel.after {P : Program} (F : Frm w own w1 own1) (E : ExtA w own h w1 own1 st1.heap) {e : Exit} {a' : Act} (r : OutRel P fa own1 st1.heap w1 out e a' w') : OutRel P fa own h w out e a' w' := by
  obtain ⟨h1, own', h2, h3, h4⟩ := r
  exact ⟨h1, own', h2, F.trans h3, E.trans h4⟩
theorem ZjH (e0 : List (Nat × SV)) : ∀ (env : List (Nat × SV)) (s : Nat) (sv : SV), Zab (ZaI e0 env) s = some sv → Zab env s = some sv := by
  intro env
  have key : ∀ (env : List (Nat × SV)) (s : Nat), Zab (ZaI e0 env) s = match Zab e0 s with
      | some _ => Zab env s
      | none => none := by
    intro env s
    induction env with
    | nil => simp only [ZaI, Zab]; split <;> rfl
    | cons e env ih =>
      obtain ⟨k, v⟩ := e
      simp only [ZaI]
      cases hk : Zab e0 k with
      | some u =>
        simp only [Zab]
        cases hb : Nat.beq k s with
        | true =>
          have := Nat.eq_of_beq_eq_true hb
          subst this
          rw [hk]; rfl
        | false => exact ih
      | none =>
        simp only [ih, Zab]
        cases hb : Nat.beq k s with
        | true =>
          have := Nat.eq_of_beq_eq_true hb
          subst this
          rw [hk]
        | false => rfl
  intro s sv hs
  rw [key env s] at hs
  split at hs
  · exact hs
  · cases hs
theorem SRel.trim (S : SRel C.P fa own st a w) (e0 : List (Nat × SV)) : SRel C.P fa own (st.trim e0) a w :=
  ⟨S.h, S.nt, S.defers, fun s sv hs => S.ek s sv (ZjH e0 _ s sv hs), S.tk, fun s sv hs => S.env s sv (ZjH e0 _ s sv hs), fun t x ht =>
    (S.tmp t x ht).mono ((Grow.refl w).extA own st.heap) (fun _ _ _ _ hb => hb) ((Grow.refl w).keep S.h _) (fun s es _ es' hes => ⟨ZjH e0 _ s _ hes, rfl⟩)⟩
theorem ZgJ {P : Program} {Q : Exit → Act → World → Prop} {c : Code} (I : Nat → Act → World → Prop) (n : Nat) (h0 : I n a w)
    (round : ∀ n a w, I n a w → c.wp P (Exit.then (fun a' w' => ∃ m, m < n ∧ I m a' w') Q) a w) : (Code.loop c).wp P Q a w := by
  have least : ∀ a w, (∃ n, I n a w) → ∃ n, I n a w ∧ ∀ m, I m a w → n ≤ m := by
    intro a w ⟨n, hn⟩
    induction n using Nat.strongRecOn with
    | _ n ih =>
      by_cases hm : ∃ m, m < n ∧ I m a w
      · obtain ⟨m, h1, h2⟩ := hm; exact ih m h1 h2
      · exact ⟨n, hn, fun m h => Nat.le_of_not_lt fun hlt => hm ⟨m, hlt, h⟩⟩
  classical
  let μ : Act → World → Nat := fun a w => if h : ∃ n, I n a w then Classical.choose (least a w h) else 0
  have hμ : ∀ a w (h : ∃ n, I n a w), I (μ a w) a w ∧ ∀ m, I m a w → μ a w ≤ m := by
    intro a w h
    have : μ a w = Classical.choose (least a w h) := dif_pos h
    rw [this]
    exact Classical.choose_spec (least a w h)
  refine wp_loop (fun a w => ∃ n, I n a w) μ ⟨n, h0⟩ fun a w h => ?_
  refine wp_mono (round _ a w (hμ a w h).1) fun e a' w' q => ?_
  cases e <;> try exact q
  obtain ⟨m, hm, hI⟩ := q
  exact ⟨⟨m, hI⟩, Nat.lt_of_le_of_lt ((hμ a' w' ⟨m, hI⟩).2 m hI) hm⟩
theorem Zum {c : Code} {f : St → Option Out} {e0 : List (Nat × SV)} (hf : ∀ st out own a w, f st = some out → SRel C.P fa own st a w → c.wp C.P (OutRel C.P fa own st.heap w out) a w)
    {n : Nat} (he : iter f e0 n st = some out) (S : SRel C.P fa own st a w) : (Code.loop c).wp C.P (OutRel C.P fa own st.heap w out) a w := by
  refine ZgJ (fun n a' w' => ∃ st1 own1, iter f e0 n st1 = some out ∧ SRel C.P fa own1 st1 a' w' ∧ Frm w own w' own1 ∧ ExtA w own st.heap w' own1 st1.heap) n ⟨st, own, he, S, .refl w own, (Grow.refl w).extA own _⟩ ?_
  rintro n a' w' ⟨st1, own1, h1, S1, F1, E1⟩
  cases n with
  | zero => simp [iter] at h1
  | succ n =>
    simp only [iter] at h1
    split at h1
    · rename_i st2 h2
      refine wp_mono (hf st1 _ own1 a' w' h2 S1) fun e a2 w2 r => ?_
      obtain ⟨rfl, own2, S2, F2, E2⟩ := r
      exact ⟨n, Nat.lt_succ_self n, st2.trim e0, own2, h1, S2.trim e0, F1.trans F2, E1.trans E2⟩
    · rename_i hne
      refine wp_mono (hf st1 out own1 a' w' h1 S1) fun e a2 w2 r => ?_
      have r' := OutRel.after F1 E1 r
      have hex : ∀ st, out ≠ .norm st := fun st hst => hne st (by rw [h1, hst])
      obtain ⟨he, _⟩ := r
      cases out with
      | norm st => exact absurd rfl (hex st)
      | exit id st => subst he; exact r'
      | goto l st => subst he; exact r'
      | ret st => subst he; exact r'
theorem ZgP (hn : Zbj C.P) (hm : C.P.follows .mixedOrders = true) (hK : Zba C.P call) (n : Nat) : ∀ (c : Code) (st : St) (out : Out) (own : Own) (a : Act) (w : World), evC C call fa n c st = some out → SRel C.P fa own st a w →
    c.wp C.P (OutRel C.P fa own st.heap w out) a w := by
  intro c
  induction c with
  | skip =>
    intro st out own a w he S
    simp only [evC, Option.some.injEq] at he
    subst he
    exact wp_skip ⟨rfl, own, S, .refl w own, (Grow.refl w).extA own _⟩
  | label l =>
    intro st out own a w he S
    simp only [evC, Option.some.injEq] at he
    subst he
    exact wp_label ⟨rfl, own, S, .refl w own, (Grow.refl w).extA own _⟩
  | region id ops draw =>
    intro st out own a w he S
    simp only [evC] at he
    split at he
    · rename_i st' h1
      simp only [Option.some.injEq] at he
      subst he
      exact ZpP hn hm hK S h1 fun a' w' own' S' F E => ⟨rfl, own', S', F, E⟩
    · cases he
  | seq x y ihx ihy =>
    intro st out own a w he S
    simp only [evC] at he
    split at he
    · rename_i st1 h1
      refine wp_seq (wp_mono (ihx st _ own a w h1 S) fun e a1 w1 r => ?_)
      obtain ⟨rfl, own1, S1, F1, E1⟩ := r
      exact wp_mono (ihy st1 out own1 a1 w1 he S1) fun e a2 w2 r => r.after F1 E1
    · rename_i hne
      refine wp_seq (wp_mono (ihx st out own a w he S) fun e a1 w1 r => ?_)
      have hex : ∀ st, out ≠ .norm st := fun st hst => hne st (by rw [he, hst])
      have r' := r
      obtain ⟨h1, _⟩ := r
      cases out with
      | norm st => exact absurd rfl (hex st)
      | exit id st => subst h1; exact r'
      | goto l st => subst h1; exact r'
      | ret st => subst h1; exact r'
  | cond c x y ihx ihy =>
    intro st out own a w he S
    simp only [evC] at he
    split at he
    · rename_i t ht
      have hc : a.eval c = .bool t := (Zbv S ht).bool_inv
      refine wp_cond hc ?_
      cases t with
      | true => exact ihx st out own a w he S
      | false => exact ihy st out own a w he S
    · cases he
  | block id c ih =>
    intro st out own a w he S
    simp only [evC] at he
    refine wp_block ?_
    split at he
    · rename_i k st1 h1
      refine wp_mono (ih st _ own a w h1 S) fun e a1 w1 r => ?_
      obtain ⟨rfl, own1, S1, F1, E1⟩ := r
      cases hb : Nat.beq k id with
      | true =>
        rw [hb] at he
        simp only [cond_true, Option.some.injEq] at he
        subst he
        have := Nat.eq_of_beq_eq_true hb
        subst this
        simp only [Out.ex, Exit.inBlock, if_true]
        exact ⟨rfl, own1, S1.trim _, F1, E1⟩
      | false =>
        rw [hb] at he
        simp only [cond_false, Option.some.injEq] at he
        subst he
        simp only [Out.ex, Exit.inBlock, if_neg (beq_ne.1 hb)]
        exact ⟨rfl, own1, S1, F1, E1⟩
    · rename_i st1 h1
      simp only [Option.some.injEq] at he
      subst he
      refine wp_mono (ih st _ own a w h1 S) fun e a1 w1 r => ?_
      obtain ⟨rfl, own1, S1, F1, E1⟩ := r
      exact ⟨rfl, own1, S1.trim _, F1, E1⟩
    · rename_i hne1 hne2
      refine wp_mono (ih st out own a w he S) fun e a1 w1 r => ?_
      have r' := r
      obtain ⟨h1, _⟩ := r
      cases out with
      | norm st2 => exact absurd he (hne2 st2)
      | exit k st2 => exact absurd he (hne1 k st2)
      | goto l st2 => subst h1; exact r'
      | ret st2 => subst h1; exact r'
  | loop c ih =>
    intro st out own a w he S
    simp only [evC] at he
    exact Zum (fun st out own a w h S => ih st out own a w h S) he S
  | exit id =>
    intro st out own a w he S
    simp only [evC, Option.some.injEq] at he
    subst he
    exact wp_exit ⟨rfl, own, S, .refl w own, (Grow.refl w).extA own _⟩
  | ret =>
    intro st out own a w he S
    simp only [evC, Option.some.injEq] at he
    subst he
    exact wp_ret ⟨rfl, own, S, .refl w own, (Grow.refl w).extA own _⟩
  | goto l =>
    intro st out own a w he S
    simp only [evC, Option.some.injEq] at he
    subst he
    exact wp_goto ⟨rfl, own, S, .refl w own, (Grow.refl w).extA own _⟩
  | rangeFunc f ps x y _ _ => intro st out own a w he S; simp [evC] at he
  | scope c _ => intro st out own a w he S; simp [evC] at he
  | refuse s => intro st out own a w he S; simp [evC] at he
theorem Zry (S : SRel C.P fa own st a w) : ∀ {rs : List ResultVar} {vs : List AV}, Zbp C st rs = some vs → ∃ us : List Value, us.length = vs.length ∧
    (∀ g : ResultVar → Sem Value, (∀ t, g (.tmp t) = pure (a.tmps.getD t undef)) → (∀ s t, g (.cell s t) = asAddr (a.tmps.getD s undef) >>= loadVar t) → (rs.mapM g).run C.P w = .ok us w) ∧
    ∀ (i : Nat) u v, us[i]? = some u → vs[i]? = some v → ARep C.P w own st.heap u v := by
  intro rs
  induction rs with
  | nil =>
    intro vs he
    simp only [Zbp, Option.some.injEq] at he
    subst he
    exact ⟨[], rfl, fun g _ _ => by simp, fun i u v h => by simp at h⟩
  | cons r rs ih =>
    intro vs he
    cases r with
    | tmp t =>
      simp only [Zbp] at he
      split at he
      · rename_i v hv
        simp only [Option.map_eq_some_iff] at he
        obtain ⟨vs', h1, rfl⟩ := he
        obtain ⟨us, g1, g2, g3⟩ := ih h1
        have hr := Zb8 S hv
        rw [Zkw] at hr
        refine ⟨a.tmps.getD t undef :: us, by simp [g1], fun g k1 k2 => ?_, fun i u v' hu hv' => ?_⟩
        · rw [List.mapM_cons, k1]
          simp only [Sem.run_bind, Sem.run_pure, Result.andThen_ok, g2 g k1 k2]
        · cases i with
          | zero => simp only [List.getElem?_cons_zero, Option.some.injEq] at hu hv'; subst hu; subst hv'; exact hr
          | succ i => simp only [List.getElem?_cons_succ] at hu hv'; exact g3 i u v' hu hv'
      · cases he
    | cell s t =>
      simp only [Zbp] at he
      split at he
      · rename_i p hp
        split at he
        · rename_i v hv
          simp only [Option.map_eq_some_iff] at he
          obtain ⟨vs', h1, rfl⟩ := he
          obtain ⟨us, g1, g2, g3⟩ := ih h1
          obtain ⟨b, off, u0, e1, e2, e3⟩ := ZqM S hp hv
          rw [Zkw] at e1
          refine ⟨u0 :: us, by simp [g1], fun g k1 k2 => ?_, fun i u v' hu hv' => ?_⟩
          · have ha : (asAddr (.pointer (some ⟨b, off, none⟩))).run C.P w = .ok ⟨b, off, none⟩ w := by simp [asAddr]
            rw [List.mapM_cons, k2]
            simp only [Sem.run_bind, Sem.run_pure, e1, ha, Result.andThen_ok, e2, g2 g k1 k2]
          · cases i with
            | zero => simp only [List.getElem?_cons_zero, Option.some.injEq] at hu hv'; subst hu; subst hv'; exact e3
            | succ i => simp only [List.getElem?_cons_succ] at hu hv'; exact g3 i u v' hu hv'
        · cases he
      · cases he
theorem ZlJ {fn : Func} (S : SRel C.P fa own st a w) {vs : List AV} (he : Zbp C st fn.results.toList = some vs) : ∃ v, (results fn a.tmps).run C.P w = .ok v w ∧ ARep C.P w own st.heap v (ZaW vs) := by
  obtain ⟨us, h1, h2, h3⟩ := Zry S he
  have hrun : (results fn a.tmps).run C.P w = .ok (if h : us.toArray.size = 1 then us.toArray[0] else .tuple us.toArray) w := by
    unfold results
    rw [Sem.run_bind, ← Array.toArray_toList (xs := fn.results), List.mapM_toArray, Sem.run_map]
    rw [h2 _ (fun _ => rfl) (fun _ _ => rfl)]
    simp only [Result.andThen_ok, Sem.run_pure]
  refine ⟨_, hrun, ?_⟩
  by_cases hl : us.length = 1
  · obtain ⟨u, rfl⟩ := List.length_eq_one_iff.1 hl
    obtain ⟨v, rfl⟩ : ∃ v, vs = [v] := List.length_eq_one_iff.1 (by rw [← h1]; rfl)
    exact h3 0 u v rfl rfl
  · have hs : ¬ us.toArray.size = 1 := by simpa using hl
    rw [dif_neg hs]
    have : ZaW vs = ZbF vs := by
      unfold ZaW
      split
      · rename_i v; simp at h1; exact absurd h1 hl
      · rfl
    rw [this]
    exact Zo4 (C := C) h1 h3
theorem ZiE {l : List Nat} : ∀ {n : Nat}, Zer l n = true → ∀ i, i < n → has l i = true := by
  intro n
  induction n with
  | zero => intro _ i hi; omega
  | succ n ih =>
    intro h i hi
    simp only [Zer, Bool.and_eq_true] at h
    rcases Nat.lt_succ_iff_lt_or_eq.1 hi with h1 | rfl
    · exact ih h.2 i h1
    · exact h.1
theorem Zhk : ∀ (vs : List AV) (k s : Nat) (sv : SV), Zab (Zgo k vs) s = some sv → ∃ v, sv = .val v ∧ k ≤ s ∧ vs[s - k]? = some v := by
  intro vs
  induction vs with
  | nil => intro k s sv h; simp [Zgo, Zab] at h
  | cons v vs ih =>
    intro k s sv h
    simp only [Zgo, Zab] at h
    cases hb : Nat.beq k s with
    | true =>
      rw [hb] at h
      simp only [cond_true, Option.some.injEq] at h
      have := Nat.eq_of_beq_eq_true hb
      subst this
      exact ⟨v, h.symm, Nat.le_refl _, by simp⟩
    | false =>
      rw [hb] at h
      obtain ⟨u, h1, h2, h3⟩ := ih (k + 1) s sv h
      refine ⟨u, h1, by omega, ?_⟩
      rw [show s - k = (s - (k + 1)) + 1 by omega, List.getElem?_cons_succ]
      exact h3
theorem ZzI (hn : Zbj C.P) (hm : C.P.follows .mixedOrders = true) (hK : Zba C.P call) {n : Nat} {f : FuncId} {args : List AV} {h h' : List AObj} {r : AV} (he : Yb1 C call n f args h = some (r, h')) : Has C.P f args h r h' := by
  unfold Yb1 at he
  split at he
  · rename_i fn hfn
    split at he
    · rename_i c hc
      cases hb : Nat.beq fn.ntmps (C.ann f).nt && Nat.ble args.length fn.ntmps && Zer (C.ann f).keep args.length with
      | false => rw [hb] at he; cases he
      | true =>
        rw [hb] at he
        simp only [Bool.and_eq_true] at hb
        obtain ⟨⟨b1, b2⟩, b3⟩ := hb
        have hnt : fn.ntmps = (C.ann f).nt := Nat.eq_of_beq_eq_true b1
        have hle : args.length ≤ fn.ntmps := Nat.le_of_ble_eq_true b2
        simp only [cond_true] at he
        refine ⟨⟨fn, hfn, by rw [hc]; rfl⟩, fun w own vs H hO hl hr => ?_⟩
        refine calls_of_wp hfn hc ?_
        have S : SRel C.P (C.ann f) own ⟨Zgo 0 args, [], h⟩ { tmps := vs ++ Array.replicate (fn.ntmps - vs.size) undef, defers := [] } w := by
          refine ⟨H, by simp; omega, rfl, fun s sv hs => ?_, fun t x ht => by simp [Zab] at ht, fun s sv hs => ?_, fun t x ht => by simp [Zab] at ht⟩
          · obtain ⟨v, _, _, h3⟩ := Zhk args 0 s sv hs
            exact ZiE b3 s (by have := (List.getElem?_eq_some_iff.1 h3).1; simpa using this)
          · obtain ⟨v, rfl, _, h3⟩ := Zhk args 0 s sv hs
            rw [Nat.sub_zero] at h3
            have hlt : s < vs.size := by rw [hl]; exact (List.getElem?_eq_some_iff.1 h3).1
            have hu := Array.getElem?_eq_getElem hlt
            have hg : (vs ++ Array.replicate (fn.ntmps - vs.size) undef).getD s undef = vs[s] := by
              rw [Array.getD_eq_getD_getElem?, Array.getElem?_append_left hlt, hu]; rfl
            simp only [SVRel]
            rw [hg]
            exact hr s _ v hu h3
        have fin : ∀ (st' : St), (match Zbp C st' fn.results.toList with
            | some vs => some (ZaW vs, st'.heap)
            | none => none) = some (r, h') → ∀ (a' : Act) (w' : World), (∃ own', SRel C.P (C.ann f) own' st' a' w' ∧ Frm w own w' own' ∧ ExtA w own h w' own' st'.heap) →
            a'.defers = [] ∧ ∃ v, (results fn a'.tmps).run C.P w' = .ok v w' ∧ ∃ v1 own', Ending.returned v = .returned v1 ∧ ZhK own' ∧ HRel C.P w' own' h' ∧ ARep C.P w' own' h' v1 r ∧ Frm w own w' own' ∧ ExtA w own h w' own' h' := by
          intro st' hres a' w' ⟨own', S', F, E⟩
          split at hres
          · rename_i vs' hvs
            simp only [Option.some.injEq, Prod.mk.injEq] at hres
            obtain ⟨rfl, rfl⟩ := hres
            obtain ⟨v, hv, hrep⟩ := ZlJ S' hvs
            have E2 := Zfw w' own' st'.heap
            refine ⟨S'.defers, v, hv, v, ZkS own', rfl, Zif own', Zia S'.h, hrep.mono E2, F.trans ⟨rfl, rfl, rfl, Nat.le_refl _, fun b _ hb => ⟨rfl, ?_⟩⟩, E.trans E2⟩
            rcases hb with hb | ⟨f, hb⟩ <;> simp [ZkS, hb]
          · cases hres
        unfold ZbR at he
        split at he
        · rename_i st' hev
          refine wp_mono (ZgP hn hm hK n c _ _ own _ w hev S) fun e a' w' q => ?_
          obtain ⟨rfl, q⟩ := q
          exact fin st' he a' w' q
        · rename_i st' hev
          refine wp_mono (ZgP hn hm hK n c _ _ own _ w hev S) fun e a' w' q => ?_
          obtain ⟨rfl, q⟩ := q
          exact fin st' he a' w' q
        · cases he
    · cases he
  · cases he
theorem ZfV (hn : Zbj C.P) (hm : C.P.follows .mixedOrders = true) {K : Zaa} (hK : Zba C.P K) : ∀ n, Zba C.P (Zbf C K n)
  | 0 => fun f args h r h' he => by simp [Zbf] at he
  | n + 1 => fun f args h r h' he => by
    simp only [Zbf] at he
    split at he
    · rename_i r' hr
      simp only [Option.some.injEq] at he
      subst he
      exact hK f args h _ _ hr
    · exact ZzI hn hm (ZfV hn hm hK n) he
end
end Go.Abs
namespace Go.Abs
def Evt {X : Type} (F : Nat → Option X) (x : X) : Prop := ∃ N, ∀ n, N ≤ n → F n = some x
theorem Evt.uniq {X : Type} {F : Nat → Option X} {x y : X} (h : Evt F x) (k : Evt F y) : x = y := by
  obtain ⟨N, h⟩ := h
  obtain ⟨M, k⟩ := k
  have h1 := h (max N M) (Nat.le_max_left _ _)
  rw [k (max N M) (Nat.le_max_right _ _)] at h1
  simpa using h1.symm
theorem Evt.of {X : Type} {F : Nat → Option X} {x : X} (h : ∀ n, F n = some x) : Evt F x := ⟨0, fun n _ => h n⟩
open Classical in
noncomputable def Zac (C : Ctx) (K : Zaa) : Zaa := fun f args h => if e : ∃ r, Evt (fun n => Zbf C K n f args h) r then some (Classical.choose e) else none
section
variable {C : Ctx} {K : Zaa} {fa : FA}
theorem Zfq {f : FuncId} {args : List AV} {h : List AObj} {r : AV × List AObj} (he : Zac C K f args h = some r) : Evt (fun n => Zbf C K n f args h) r := by
  unfold Zac at he
  split at he
  · rename_i e
    simp only [Option.some.injEq] at he
    rw [← he]
    exact Classical.choose_spec e
  · cases he
theorem ZsY {f : FuncId} {args : List AV} {h : List AObj} {r : AV × List AObj} (he : Evt (fun n => Zbf C K n f args h) r) : Zac C K f args h = some r := by
  unfold Zac
  have e : ∃ r, Evt (fun n => Zbf C K n f args h) r := ⟨r, he⟩
  rw [dif_pos e]
  exact congrArg some ((Classical.choose_spec e).uniq he)
theorem Zh6 {f : FuncId} {args : List AV} {h : List AObj} {r : AV × List AObj} (he : K f args h = some r) : Zac C K f args h = some r :=
  ZsY ⟨1, fun n hn => by
    obtain ⟨m, rfl⟩ : ∃ m, n = m + 1 := ⟨n - 1, by omega⟩
    simp only [Zbf, he]⟩
theorem Zl6 (hn : Zbj C.P) (hm : C.P.follows .mixedOrders = true) (hK : Zba C.P K) : Zba C.P (Zac C K) := by
  intro f args h r h' he
  obtain ⟨N, hN⟩ := Zfq he
  exact ZfV hn hm hK N f args h r h' (hN N (Nat.le_refl _))
abbrev cv (C : Ctx) (K : Zaa) (n : Nat) : Zaa := Zbf C K n
theorem ZqE {frz : Bool} {f : FuncId} {ds : List DV} {r : DV} (he : Zcz (Zac C K) frz f ds = some r) : Evt (fun n => Zcz (cv C K n) frz f ds) r := by
  unfold Zcz at he
  split at he
  · rename_i r' hc hcall
    obtain ⟨N, hN⟩ := Zfq hcall
    refine ⟨N, fun n hn => ?_⟩
    unfold Zcz
    simp only [cv, hN n hn]
    exact he
  · rename_i rv hc hne hcall
    obtain ⟨N, hN⟩ := Zfq hcall
    refine ⟨N, fun n hn => ?_⟩
    unfold Zcz
    simp only [cv, hN n hn]
    cases rv with
    | d x => exact absurd rfl (hne x)
    | _ => exact he
  · cases he
theorem Zw9 {f : FuncId} {args : List AV} {h : List AObj} {r : AV × List AObj} (he : Zh1 (Zac C K) f args h = some r) : Evt (fun n => Zh1 (cv C K n) f args h) r := by
  unfold Zh1 at he
  split at he
  · rename_i ds hds
    split at he
    · rename_i r0 hc hcall
      obtain ⟨N, hN⟩ := Zfq hcall
      refine ⟨N, fun n hn => ?_⟩
      unfold Zh1
      simp only [hds, cv, hN n hn]
      exact he
    · cases he
  · rename_i hds
    obtain ⟨N, hN⟩ := Zfq he
    refine ⟨N, fun n hn => ?_⟩
    unfold Zh1
    simp only [hds, cv, hN n hn]
theorem Zp5 {o : Oper} {st : St} {x : XV} (he : ZaQ C (Zac C K) fa o st = some x) : Evt (fun n => ZaQ C (cv C K n) fa o st) x := by
  unfold ZaQ at he ⊢
  cases hop : o.op <;> rw [hop] at he
  case makeFunc f _ _ => cases f <;> exact .of fun _ => he
  case slice mx => cases mx <;> exact .of fun _ => he
  case makeMap r => cases r <;> exact .of fun _ => he
  all_goals (try (exact .of fun _ => he))
  rename_i c
  simp only at he ⊢
  cases hc : c.callee <;> simp only [hc] at he ⊢ <;> (try (exact .of fun _ => he))
  rename_i g
  cases hg : opA st g <;> cases ha : ZaL st c.args.toList <;> simp only [hg, ha] at he ⊢ <;> (try (cases he; done))
  rename_i fv vs
  cases hf : ZeB fv <;> simp only [hf] at he ⊢ <;> (try (cases he; done))
  rename_i p
  obtain ⟨f, caps⟩ := p
  simp only at he ⊢
  cases hl : Zaq fa.lend o.dst <;> simp only [hl, cond_true, cond_false] at he ⊢
  · cases hd : ZcF (vs ++ caps) <;> simp only [hd] at he ⊢
    · cases he
    · rename_i ds
      cases hcd : Zcz (Zac C K) (Zaq fa.frz o.dst) f ds with
      | none => rw [hcd] at he; cases he
      | some d =>
        rw [hcd] at he
        obtain ⟨N, hN⟩ := ZqE hcd
        exact ⟨N, fun n hn => by simp only [hN n hn]; exact he⟩
  · cases hd : ZdZ st.heap (vs ++ caps) <;> simp only [hd] at he ⊢
    · cases he
    · rename_i p
      obtain ⟨ds, k⟩ := p
      simp only at he ⊢
      cases hcd : Zcz (Zac C K) false f ds with
      | none => rw [hcd] at he; cases he
      | some d =>
        rw [hcd] at he
        obtain ⟨N, hN⟩ := ZqE hcd
        exact ⟨N, fun n hn => by simp only [hN n hn]; exact he⟩
theorem Zvr {o : Oper} {st st' : St} (he : Zbs C (Zac C K) fa o st = some st') : Evt (fun n => Zbs C (cv C K n) fa o st) st' := by
  unfold Zbs at he ⊢
  cases hop : o.op <;> rw [hop] at he
  case makeFunc f _ _ => cases f <;> exact .of fun _ => he
  case slice mx => cases mx <;> exact .of fun _ => he
  case makeMap r => cases r <;> exact .of fun _ => he
  all_goals (try (exact .of fun _ => he))
  rename_i c
  simp only at he ⊢
  cases hc : c.callee <;> simp only [hc] at he ⊢ <;> (try (exact .of fun _ => he))
  rename_i g
  cases hg : opA st g <;> cases ha : ZaL st c.args.toList <;> simp only [hg, ha] at he ⊢ <;> (try (cases he; done))
  rename_i fv vs
  cases hf : ZeB fv <;> simp only [hf] at he ⊢ <;> (try (cases he; done))
  rename_i p
  obtain ⟨f, caps⟩ := p
  simp only at he ⊢
  cases hl : Zaq fa.lend o.dst <;> simp only [hl, cond_true, cond_false] at he ⊢
  · cases hcd : Zh1 (Zac C K) f (vs ++ caps) st.heap with
    | none => rw [hcd] at he; cases he
    | some d =>
      rw [hcd] at he
      obtain ⟨N, hN⟩ := Zw9 hcd
      exact ⟨N, fun n hn => by simp only [hN n hn]; exact he⟩
  · cases he
theorem ZuD {o : Oper} {st st' : St} (hv : ZaQ C (Zac C K) fa o st = none) (he : Zbs C (Zac C K) fa o st = some st') : ∃ N, ∀ n, N ≤ n → ZaQ C (cv C K n) fa o st = none := by
  unfold ZaQ at hv ⊢
  unfold Zbs at he
  cases hop : o.op <;> rw [hop] at he hv
  case makeFunc f _ _ => cases f <;> exact ⟨0, fun _ _ => hv⟩
  case slice mx => cases mx <;> exact ⟨0, fun _ _ => hv⟩
  case makeMap r => cases r <;> exact ⟨0, fun _ _ => hv⟩
  all_goals (try (exact ⟨0, fun _ _ => hv⟩))
  rename_i c
  simp only at he hv ⊢
  cases hc : c.callee <;> simp only [hc] at he hv ⊢ <;> (try (exact ⟨0, fun _ _ => hv⟩))
  rename_i g
  cases hg : opA st g <;> cases ha : ZaL st c.args.toList <;> simp only [hg, ha] at he hv ⊢ <;> (try (cases he; done))
  rename_i fv vs
  cases hf : ZeB fv <;> simp only [hf] at he hv ⊢ <;> (try (cases he; done))
  rename_i p
  obtain ⟨f, caps⟩ := p
  simp only at he hv ⊢
  cases hl : Zaq fa.lend o.dst <;> simp only [hl, cond_true, cond_false] at he hv ⊢
  · cases hd : ZcF (vs ++ caps) <;> simp only [hd] at he hv ⊢
    · exact ⟨0, fun _ _ => by simp⟩
    · rename_i ds
      cases hcd : Zh1 (Zac C K) f (vs ++ caps) st.heap with
      | none => rw [hcd] at he; cases he
      | some d =>
        unfold Zh1 at hcd
        rw [hd] at hcd
        simp only at hcd
        have hda := ZeF hd
        rw [hda] at hcd
        cases hcall : Zac C K f (ds.map .d) [] with
        | none => rw [hcall] at hcd; cases hcd
        | some p =>
          obtain ⟨r, hc⟩ := p
          obtain ⟨N, hN⟩ := Zfq hcall
          refine ⟨N, fun n hn => ?_⟩
          unfold Zcz at hv ⊢
          simp only [hcall] at hv
          simp only [cv, hN n hn]
          cases r with
          | d x => cases hv
          | _ => exact hv
  · cases he
theorem Zym {o : Oper} {st st' : St} (he : Zeh C (Zac C K) fa o st = some st') : Evt (fun n => Zeh C (cv C K n) fa o st) st' := by
  unfold Zeh at he
  split at he
  · rename_i x hx
    obtain ⟨N, hN⟩ := Zp5 hx
    exact ⟨N, fun n hn => by have h1 := hN n hn; simp only [Zeh] at h1 ⊢; rw [h1]; exact he⟩
  · rename_i hx
    obtain ⟨N, hN⟩ := ZuD hx he
    obtain ⟨M, hM⟩ := Zvr he
    exact ⟨max N M, fun n hn => by have h1 := hN n (by omega); have h2 := hM n (by omega); simp only [Zeh] at h1 h2 ⊢; rw [h1]; exact h2⟩
theorem ZmJ {all : List Oper} {q : Bool} {o : Oper} {st st' : St} (he : Zau C (Zac C K) fa all q o st = some st') : Evt (fun n => Zau C (cv C K n) fa all q o st) st' := by
  unfold Zau at he ⊢
  cases hw : Zaw all o st <;> simp only [hw] at he ⊢
  · cases he
  · rename_i b
    cases b <;> simp only at he ⊢
    · exact .of fun _ => he
    · cases q <;> simp only [cond_true, cond_false] at he ⊢
      · exact Zym he
      · cases hv : ZaQ C (Zac C K) fa o st with
        | none => rw [hv] at he; cases he
        | some x =>
          rw [hv] at he
          obtain ⟨N, hN⟩ := Zp5 hv
          exact ⟨N, fun n hn => by simp only [hN n hn]; exact he⟩
theorem ZqP {all : List Oper} : ∀ {l : List Oper} {st st' : St}, Zan C (Zac C K) fa all l st = some st' → Evt (fun n => Zan C (cv C K n) fa all l st) st'
  | [], st, st', he => .of fun _ => he
  | o :: l, st, st', he => by
    simp only [Zan] at he
    cases h1 : Zau C (Zac C K) fa all false o st with
    | none => rw [h1] at he; cases he
    | some st1 =>
      rw [h1] at he
      obtain ⟨N, hN⟩ := ZmJ h1
      obtain ⟨M, hM⟩ := ZqP (l := l) he
      exact ⟨max N M, fun n hn => by simp only [Zan, hN n (by omega)]; exact hM n (by omega)⟩
theorem Zm9 {all : List Oper} : ∀ {qs : List Bool} {l : List Oper} {st st' : St}, Zfm C (Zac C K) fa all qs l st = some st' → Evt (fun n => Zfm C (cv C K n) fa all qs l st) st'
  | [], [], st, st', he => .of fun _ => he
  | _ :: _, [], st, st', he => .of fun _ => he
  | [], _ :: _, st, st', he => by simp [Zfm] at he
  | q :: qs, o :: l, st, st', he => by
    simp only [Zfm] at he
    cases h1 : Zau C (Zac C K) fa all q o st with
    | none => rw [h1] at he; cases he
    | some st1 =>
      rw [h1] at he
      obtain ⟨N, hN⟩ := ZmJ h1
      obtain ⟨M, hM⟩ := Zm9 (qs := qs) (l := l) he
      exact ⟨max N M, fun n hn => by simp only [Zfm, hN n (by omega)]; exact hM n (by omega)⟩
theorem Zqe {draw : Bool} {ops : List Oper} {st st' : St} (he : Zc8 C (Zac C K) fa draw ops st = some st') : Evt (fun n => Zc8 C (cv C K n) fa draw ops st) st' := by
  unfold Zc8 at he ⊢
  cases draw <;> simp only [cond_true, cond_false] at he ⊢
  · exact ZqP he
  · cases hd : Zpe fa ops <;> simp only [hd, cond_true, cond_false] at he ⊢
    · cases he
    · exact Zm9 he
theorem Zto {f : St → Option Out} {g : Nat → St → Option Out} {e0 : List (Nat × SV)} (hf : ∀ st out, f st = some out → Evt (fun n => g n st) out) : ∀ (k : Nat) (st : St) (out : Out), iter f e0 k st = some out →
    ∃ N, ∀ n, N ≤ n → ∀ j, k ≤ j → iter (g n) e0 j st = some out
  | 0, st, out, he => by simp [iter] at he
  | k + 1, st, out, he => by
    simp only [iter] at he
    cases h1 : f st with
    | none => rw [h1] at he; cases he
    | some o1 =>
      rw [h1] at he
      obtain ⟨N, hN⟩ := hf st o1 h1
      cases o1 with
      | norm st1 =>
        simp only at he
        obtain ⟨M, hM⟩ := Zto hf k (st1.trim e0) out he
        refine ⟨max N M, fun n hn j hj => ?_⟩
        obtain ⟨i, rfl⟩ : ∃ i, j = i + 1 := ⟨j - 1, by omega⟩
        simp only [iter, hN n (by omega)]
        exact hM n (by omega) i (by omega)
      | _ =>
        simp only at he
        refine ⟨N, fun n hn j hj => ?_⟩
        obtain ⟨i, rfl⟩ : ∃ i, j = i + 1 := ⟨j - 1, by omega⟩
        simp only [iter, hN n hn]
        exact he
theorem YaJ (m : Nat) : ∀ (c : Code) (st : St) (out : Out), evC C (Zac C K) fa m c st = some out → Evt (fun n => evC C (cv C K n) fa n c st) out := by
  intro c
  induction c with
  | skip => exact fun st out he => .of fun _ => he
  | label l => exact fun st out he => .of fun _ => he
  | exit id => exact fun st out he => .of fun _ => he
  | goto l => exact fun st out he => .of fun _ => he
  | ret => exact fun st out he => .of fun _ => he
  | rangeFunc f ps x y _ _ => intro st out he; simp [evC] at he
  | scope c _ => intro st out he; simp [evC] at he
  | refuse s => intro st out he; simp [evC] at he
  | region id ops draw =>
    intro st out he
    simp only [evC] at he ⊢
    cases h1 : Zc8 C (Zac C K) fa draw ops.toList st with
    | none => rw [h1] at he; cases he
    | some st1 =>
      rw [h1] at he
      obtain ⟨N, hN⟩ := Zqe h1
      exact ⟨N, fun n hn => by simp only [hN n hn]; exact he⟩
  | seq x y ihx ihy =>
    intro st out he
    simp only [evC] at he ⊢
    cases h1 : evC C (Zac C K) fa m x st with
    | none => rw [h1] at he; cases he
    | some o1 =>
      rw [h1] at he
      obtain ⟨N, hN⟩ := ihx st o1 h1
      cases o1 with
      | norm st1 =>
        simp only at he
        obtain ⟨M, hM⟩ := ihy st1 out he
        exact ⟨max N M, fun n hn => by simp only [hN n (by omega)]; exact hM n (by omega)⟩
      | _ => exact ⟨N, fun n hn => by simp only [hN n hn]; exact he⟩
  | cond c x y ihx ihy =>
    intro st out he
    simp only [evC] at he ⊢
    cases hc : opD st c with
    | none => rw [hc] at he; cases he
    | some d =>
      rw [hc] at he
      cases d <;> simp only at he ⊢ <;> (try (cases he; done))
      rename_i b
      cases b <;> simp only [cond_true, cond_false] at he ⊢
      · exact ihy st out he
      · exact ihx st out he
  | block id c ih =>
    intro st out he
    simp only [evC] at he ⊢
    cases h1 : evC C (Zac C K) fa m c st with
    | none => rw [h1] at he; cases he
    | some o1 =>
      rw [h1] at he
      obtain ⟨N, hN⟩ := ih st o1 h1
      exact ⟨N, fun n hn => by simp only [hN n hn]; exact he⟩
  | loop c ih =>
    intro st out he
    simp only [evC] at he ⊢
    obtain ⟨N, hN⟩ := Zto (f := evC C (Zac C K) fa m c) (g := fun n => evC C (cv C K n) fa n c) (fun st out h => ih st out h) m st out he
    exact ⟨max N m, fun n hn => hN n (by omega) n (by omega)⟩
theorem Zzc {m : Nat} {f : FuncId} {args : List AV} {h : List AObj} {r : AV × List AObj} (hK : K f args h = none) (he : Yb1 C (Zac C K) m f args h = some r) : Zac C K f args h = some r := by
  refine ZsY ?_
  unfold Yb1 at he
  cases hf : C.P.funcs[f]? with
  | none => rw [hf] at he; cases he
  | some fn =>
    rw [hf] at he
    simp only at he
    cases hb : fn.body with
    | none => rw [hb] at he; cases he
    | some c =>
      rw [hb] at he
      simp only at he
      cases hc : Nat.beq fn.ntmps (C.ann f).nt && Nat.ble args.length fn.ntmps && Zer (C.ann f).keep args.length with
      | false => rw [hc] at he; cases he
      | true =>
        rw [hc] at he
        simp only [cond_true] at he
        cases ho : evC C (Zac C K) (C.ann f) m c ⟨Zgo 0 args, [], h⟩ with
        | none => rw [ho] at he; simp [ZbR] at he
        | some out =>
          rw [ho] at he
          obtain ⟨N, hN⟩ := YaJ m c _ out ho
          refine ⟨N + 1, fun n hn => ?_⟩
          obtain ⟨j, rfl⟩ : ∃ j, n = j + 1 := ⟨n - 1, by omega⟩
          have hj := hN j (by omega)
          simp only [Zbf, hK, Yb1, hf, hb, hc, cond_true]
          rw [show evC C (Zbf C K j) (C.ann f) j c ⟨Zgo 0 args, [], h⟩ = some out from hj]
          exact he
end
end Go.Abs
namespace Go.Abs
def ZcB : Op → Bool
  | .alloc _ => true
  | .box _ _ => true
  | .store _ _ _ => true
  | .mapUpdate _ _ _ _ => true
  | .makeMap _ _ => true
  | .makeSlice _ _ _ => true
  | .call { callee := .builtin .append, .. } => true
  | .call { callee := .builtin .delete, .. } => true
  | _ => false
def ZaK (fa : FA) (o : Oper) : Bool := (match o.op with | .makeSlice _ _ _ => !Zaq fa.frz o.dst | _ => ZcB o.op) || Zbn fa o.dst
def Za9 (C : Ctx) (call : Zaa) (fa : FA) (draw : Bool) (all : List Oper) : List Oper → St → Option St
  | [], st => some st
  | o :: r, st => match Zau C call fa all (draw && !ZaK fa o) o st with
    | some st' => Za9 C call fa draw all r st'
    | none => none
def ZnR (fa : FA) (draw : Bool) (ops : List Oper) : Bool := bif draw then Zpe fa ops &&
    (let anc := (List.range ops.length).map (Zoq ops)
     (List.range ops.length).all fun j => ZnW ops anc j || (match ops[j]? with | some o => !ZaK fa o || Za5 fa o | none => false)) else true
def okC (fa : FA) : Code → Bool
  | .region _ ops draw => ZnR fa draw ops.toList
  | .seq a b => okC fa a && okC fa b
  | .cond _ a b => okC fa a && okC fa b
  | .block _ c => okC fa c
  | .loop c => okC fa c
  | _ => true
def evQ (C : Ctx) (call : Zaa) (fa : FA) (n : Nat) : Code → St → Option Out
  | .skip, st => some (.norm st)
  | .label _, st => some (.norm st)
  | .region _ ops draw, st => match Za9 C call fa draw ops.toList ops.toList st with
    | some st' => some (.norm { st' with tmp := [] })
    | none => none
  | .seq a b, st => match evQ C call fa n a st with
    | some (.norm st') => evQ C call fa n b st'
    | r => r
  | .cond c a b, st => match opD st c with
    | some (.bool t) => bif t then evQ C call fa n a st else evQ C call fa n b st
    | _ => none
  | .block id c, st => match evQ C call fa n c st with
    | some (.exit k st') => bif Nat.beq k id then some (.norm (st'.trim st.env)) else some (.exit k st')
    | some (.norm st') => some (.norm (st'.trim st.env))
    | r => r
  | .loop c, st => iter (evQ C call fa n c) st.env n st
  | .exit id, st => some (.exit id st)
  | .ret, st => some (.ret st)
  | .goto l, st => some (.goto l st)
  | _, _ => none
section
variable {C : Ctx} {call : Zaa} {fa : FA}
theorem ZbC (n : Nat) (st : St) : evQ C call fa n .skip st = some (.norm st) := rfl
theorem Za8 (n l : Nat) (st : St) : evQ C call fa n (.label l) st = some (.norm st) := rfl
theorem ZaM (n id : Nat) (ops : Array Oper) (draw : Bool) (st : St) : evQ C call fa n (.region id ops draw) st = match Za9 C call fa draw ops.toList ops.toList st with
    | some st' => some (.norm { st' with tmp := [] })
    | none => none := rfl
theorem ZcG (n : Nat) (a b : Code) (st : St) : evQ C call fa n (.seq a b) st = match evQ C call fa n a st with
    | some (.norm st') => evQ C call fa n b st'
    | r => r := rfl
theorem ZbB (n : Nat) (c : Operand) (a b : Code) (st : St) : evQ C call fa n (.cond c a b) st = match opD st c with
    | some (.bool t) => bif t then evQ C call fa n a st else evQ C call fa n b st
    | _ => none := rfl
theorem Za7 (n id : Nat) (c : Code) (st : St) : evQ C call fa n (.block id c) st = match evQ C call fa n c st with
    | some (.exit k st') => bif Nat.beq k id then some (.norm (st'.trim st.env)) else some (.exit k st')
    | some (.norm st') => some (.norm (st'.trim st.env))
    | r => r := rfl
theorem Zbz (n : Nat) (c : Code) (st : St) : evQ C call fa n (.loop c) st = iter (evQ C call fa n c) st.env n st := rfl
theorem Zby (n id : Nat) (st : St) : evQ C call fa n (.exit id) st = some (.exit id st) := rfl
theorem ZcH (n : Nat) (st : St) : evQ C call fa n .ret st = some (.ret st) := rfl
theorem ZbA (n l : Nat) (st : St) : evQ C call fa n (.goto l) st = some (.goto l st) := rfl
theorem ZnH {all : List Oper} {q q' : Bool} {o : Oper} {st st' : St} (hq : q' = true → q = true) (h : Zau C call fa all q o st = some st') : Zau C call fa all q' o st = some st' := by
  cases q' with
  | true => rw [hq rfl] at h; exact h
  | false =>
    cases q with
    | false => exact h
    | true =>
      unfold Zau at h ⊢
      cases hw : Zaw all o st with
      | none => rw [hw] at h; cases h
      | some b =>
        rw [hw] at h
        cases b with
        | false => exact h
        | true =>
          simp only [cond_true, cond_false] at h ⊢
          unfold Zeh
          cases hv : ZaQ C call fa o st with
          | none => rw [hv] at h; cases h
          | some x => rw [hv] at h; exact h
theorem ZjN (all : List Oper) : ∀ (l : List Oper) (st : St), Za9 C call fa false all l st = Zan C call fa all l st
  | [], st => rfl
  | o :: l, st => by
    simp only [Za9, Zan, Bool.false_and]
    cases Zau C call fa all false o st with
    | none => rfl
    | some st1 => exact ZjN all l st1
theorem Zk8 (all : List Oper) : ∀ (l : List Oper) (qs : List Bool) (st st' : St), l.length = qs.length → (∀ (j : Nat) o q, l[j]? = some o → qs[j]? = some q → q = true → ZaK fa o = false) →
    Za9 C call fa true all l st = some st' → Zfm C call fa all qs l st = some st'
  | [], [], st, st', _, _, h => h
  | [], _ :: _, st, st', hl, _, h => by simp at hl
  | _ :: _, [], st, st', hl, _, h => by simp at hl
  | o :: l, q :: qs, st, st', hl, hq, h => by
    simp only [Za9, Bool.true_and] at h
    cases h1 : Zau C call fa all (!ZaK fa o) o st with
    | none => rw [h1] at h; cases h
    | some st1 =>
      rw [h1] at h
      have h2 := ZnH (q' := q) (fun hqt => by rw [hq 0 o q rfl rfl hqt]; rfl) h1
      simp only [Zfm, h2]
      exact Zk8 all l qs st1 st' (by simpa using hl) (fun j o' q' h3 h4 => hq (j + 1) o' q' (by simpa using h3) (by simpa using h4)) h
theorem Zq5 {draw : Bool} {ops : List Oper} {st st' : St} (hok : ZnR fa draw ops = true) (h : Za9 C call fa draw ops ops st = some st') : Zc8 C call fa draw ops st = some st' := by
  unfold Zc8
  cases draw with
  | false => rw [ZjN] at h; exact h
  | true =>
    unfold ZnR at hok
    simp only [cond_true, Bool.and_eq_true] at hok
    simp only [cond_true, hok.1]
    refine Zk8 ops ops (Zdx fa ops) st st' (by simp [Zdx]) (fun j o q hj hq hqt => ?_) h
    have hlt : j < ops.length := (List.getElem?_eq_some_iff.1 hj).1
    have h2 := hok.2
    rw [List.all_eq_true] at h2
    have h3 := h2 j (List.mem_range.2 hlt)
    unfold Zdx at hq
    simp only [List.getElem?_map, List.getElem?_range hlt, Option.map_some, Option.some.injEq] at hq
    rw [← hq, Bool.and_eq_true] at hqt
    obtain ⟨hq1, hq2⟩ := hqt
    simp only [Bool.not_eq_true'] at hq1 hq2
    simp only [YcX, hj] at hq2
    rw [hq1, hj, Bool.false_or] at h3
    simp only [hq2, Bool.or_false] at h3
    simpa using h3
theorem Zid {f g : St → Option Out} {e0 : List (Nat × SV)} (h : ∀ st out, f st = some out → g st = some out) : ∀ (n : Nat) (st : St) (out : Out), iter f e0 n st = some out → iter g e0 n st = some out
  | 0, st, out, he => by simp [iter] at he
  | n + 1, st, out, he => by
    simp only [iter] at he ⊢
    cases h1 : f st with
    | none => rw [h1] at he; cases he
    | some o =>
      rw [h1] at he
      rw [h st o h1]
      cases o with
      | norm st1 => exact Zid h n _ out he
      | _ => exact he
theorem Zhv (n : Nat) : ∀ (c : Code) (st : St) (out : Out), okC fa c = true → evQ C call fa n c st = some out → evC C call fa n c st = some out := by
  intro c
  induction c with
  | skip => exact fun st out _ he => he
  | label l => exact fun st out _ he => he
  | exit id => exact fun st out _ he => he
  | goto l => exact fun st out _ he => he
  | ret => exact fun st out _ he => he
  | rangeFunc f ps x y _ _ => intro st out _ he; simp [evQ] at he
  | scope c _ => intro st out _ he; simp [evQ] at he
  | refuse s => intro st out _ he; simp [evQ] at he
  | region id ops draw =>
    intro st out hok he
    simp only [evQ] at he
    simp only [okC] at hok
    cases h1 : Za9 C call fa draw ops.toList ops.toList st with
    | none => rw [h1] at he; cases he
    | some st1 =>
      rw [h1] at he
      simp only [evC, Zq5 hok h1]
      exact he
  | seq x y ihx ihy =>
    intro st out hok he
    simp only [okC, Bool.and_eq_true] at hok
    simp only [evQ] at he
    cases h1 : evQ C call fa n x st with
    | none => rw [h1] at he; cases he
    | some o1 =>
      rw [h1] at he
      simp only [evC, ihx st o1 hok.1 h1]
      cases o1 with
      | norm st1 => exact ihy st1 out hok.2 he
      | _ => exact he
  | cond c x y ihx ihy =>
    intro st out hok he
    simp only [okC, Bool.and_eq_true] at hok
    simp only [evQ] at he
    simp only [evC]
    cases hc : opD st c with
    | none => rw [hc] at he; cases he
    | some d =>
      rw [hc] at he
      cases d <;> simp only at he ⊢ <;> (try (cases he; done))
      rename_i b
      cases b <;> simp only [cond_true, cond_false] at he ⊢
      · exact ihy st out hok.2 he
      · exact ihx st out hok.1 he
  | block id c ih =>
    intro st out hok he
    simp only [okC] at hok
    simp only [evQ] at he
    cases h1 : evQ C call fa n c st with
    | none => rw [h1] at he; cases he
    | some o1 =>
      rw [h1] at he
      simp only [evC, ih st o1 hok h1]
      exact he
  | loop c ih =>
    intro st out hok he
    simp only [okC] at hok
    simp only [evQ] at he
    simp only [evC]
    exact Zid (fun st out h => ih st out hok h) n st out he
def okF (fa : FA) (fn : Func) (k : Nat) : Bool := Nat.beq fn.ntmps fa.nt && Nat.ble k fn.ntmps && Zer fa.keep k && (match fn.body with | some c => okC fa c | none => false)
def Zad (fn : Func) : Code := fn.body.getD .skip
theorem Zrb {K : Zaa} {f : FuncId} {fn : Func} {args : List AV} {h : List AObj} {r : AV × List AObj} {out : Out} (m : Nat) (hK : K f args h = none) (hf : C.P.funcs[f]? = some fn) (hok : okF (C.ann f) fn args.length = true)
    (hev : evQ C (Zac C K) (C.ann f) m (Zad fn) ⟨Zgo 0 args, [], h⟩ = some out) (hr : ZbR C fn (some out) = some r) : Zac C K f args h = some r := by
  unfold okF at hok
  simp only [Bool.and_eq_true] at hok
  obtain ⟨⟨⟨h1, h2⟩, h3⟩, h4⟩ := hok
  refine Zzc (m := m) hK ?_
  unfold Yb1
  rw [hf]
  simp only
  cases hb : fn.body with
  | none => rw [hb] at h4; cases h4
  | some c =>
    rw [hb] at h4
    simp only at h4
    have hc : Zad fn = c := by simp [Zad, hb]
    rw [hc] at hev
    simp only [h1, h2, h3, Bool.and_self, cond_true]
    rw [Zhv m c _ out h4 hev]
    exact hr
theorem ZtE {K : Zaa} {f : FuncId} {fn : Func} {args : List AV} {h : List AObj} {r : AV × List AObj} (m : Nat) (hK : K f args h = none) (hf : C.P.funcs[f]? = some fn) (hok : okF (C.ann f) fn args.length = true)
    (hev : ZbR C fn (evQ C (Zac C K) (C.ann f) m (Zad fn) ⟨Zgo 0 args, [], h⟩) = some r) : Zac C K f args h = some r := by
  cases ho : evQ C (Zac C K) (C.ann f) m (Zad fn) ⟨Zgo 0 args, [], h⟩ with
  | none => rw [ho] at hev; simp [ZbR] at hev
  | some out => rw [ho] at hev; exact Zrb m hK hf hok ho hev
def Zgy {α β : Type} (step : Nat → β → α → β ⊕ Out) (fin : Nat → β → Out) : Nat → β → List α → Out
  | i, b, [] => fin i b
  | i, b, v :: r => match step i b v with
    | .inl b' => Zgy step fin (i + 1) b' r
    | .inr o => o
def evL (C : Ctx) (call : Zaa) (fa : FA) (n : Nat) : List Code → St → Option Out
  | [], st => some (.norm st)
  | c :: r, st => match evQ C call fa n c st with
    | some (.norm st') => evL C call fa n r st'
    | x => x
def Zzi : Code → Code
  | .block _ c => c
  | .loop c => c
  | .cond _ a _ => a
  | c => c
def other : Code → Code
  | .cond _ _ b => b
  | c => c
end
end Go.Abs
