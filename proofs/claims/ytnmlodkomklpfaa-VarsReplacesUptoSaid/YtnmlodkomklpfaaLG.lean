/- A certified evaluator for the walked functions, and their contracts, for VarsReplaces. -/
import Derived.Test.YtnmlodkomklpfaaLF
set_option linter.unusedVariables false
set_option linter.unusedSimpArgs false
namespace Go.Tev
open Go.Abs

section
variable {x : Cx} {ρ : List Rf} {h0 : Base} {s s' : TSt x.X} {a : St}

theorem isEff_kind {fa : FA} {o : Oper} (h : isEff fa o = true) : effKind fa o = true := by
  obtain ⟨dst, op, ty, pos, after, guard⟩ := o
  unfold effKind
  unfold isEff at h
  split at h <;> first | (cases h; done) | (rename_i ho; simp only at ho; subst ho; first | rfl | (simp only [h, Bool.or_true]; done))
/-- whether it is wanted -/
theorem chain_ok (r : Rel x.U ρ h0 s a) {all : List Oper} {o : Oper} {ch : Chain} {gb : Option Bool} (h : chainOf all o s = some (ch, gb)) :
    chOk s ch ∧ (holds s ch → wantedA all o a = some true) ∧ (¬ holds s ch → wantedA all o a = some false) := by
  unfold chainOf at h
  unfold wantedA
  split at h
  · rename_i hg
    simp only [Option.some.injEq, Prod.mk.injEq] at h
    obtain ⟨rfl, rfl⟩ := h
    rw [hg]
    exact ⟨chOk_nil _, fun _ => rfl, fun hh => absurd (holds_nil _) hh⟩
  · rename_i j want hg
    rw [hg]
    simp only
    split at h
    · rename_i t ht
      rw [ht]
      simp only
      split at h
      · rename_i g b hb
        simp only [Option.some.injEq, Prod.mk.injEq] at h
        obtain ⟨rfl, rfl⟩ := h
        obtain ⟨y, h1, h2, h3⟩ := r.tmp.yes _ _ hb
        have hwf := r.tmp.wf _ _ hb
        refine ⟨fun p hp => ?_, fun hh => ?_, fun hh => ?_⟩
        · rcases List.mem_cons.1 hp with rfl | hp
          · simp only [hb, Option.isSome_some]
          · exact hwf p hp
        · obtain ⟨c, hc⟩ := hh (t, want) (List.mem_cons_self)
          rw [hb] at hc
          simp only [Option.some.injEq, TE.mk.injEq, TX.a.injEq, TV.b.injEq] at hc
          have hg' : holds s g := fun p hp => hh p (List.mem_cons_of_mem _ hp)
          obtain ⟨w, rfl, hw⟩ := (h2 hg').isA
          rw [h1, hw.isD rfl]
          simp [hc.2]
        · by_cases hg' : holds s g
          · obtain ⟨w, rfl, hw⟩ := (h2 hg').isA
            rw [h1, hw.isD rfl]
            simp only [Option.some.injEq, beq_eq_false_iff_ne]
            intro he
            subst he
            exact hh fun p hp => by
              rcases List.mem_cons.1 hp with rfl | hp
              · exact ⟨g, hb⟩
              · exact hg' p hp
          · rw [h1, h3 hg']
      · cases h
    · cases h
theorem gof_ok {X : Nat → Type} {s : TSt X} : ∀ {ch : Chain}, holds s ch → gof s ch ≠ some false
  | [], _ => by simp [gof]
  | (t, w) :: r, h => by
    obtain ⟨c, hc⟩ := h (t, w) (List.mem_cons_self)
    have ih := gof_ok (s := s) (ch := r) fun p hp => h p (List.mem_cons_of_mem _ hp)
    simp only [gof, hc]
    cases hr : gof s r with
    | none => cases w <;> simp [gand]
    | some b =>
      rw [hr] at ih
      cases b with
      | false => exact absurd rfl ih
      | true => cases w <;> simp [gand]
theorem gand_ok {g c : Option Bool} (h1 : g ≠ some false) (h2 : c ≠ some false) : gand g c ≠ some false := by
  cases g with
  | none => exact h2
  | some b =>
    cases b with
    | false => exact absurd rfl h1
    | true =>
      cases c with
      | none => simp [gand]
      | some d =>
        cases d with
        | false => exact absurd rfl h2
        | true => simp [gand]

def regSim (x : Cx) (h0 : Base) (call : CallT) (fa : FA) (g : Option Bool) (draw : Bool) (all ops : List Oper) (s s' : TSt x.X) : Prop :=
  Keep (fun n => ∀ o ∈ ops, o.dst ≠ some n) s s' ∧ ((∀ o ∈ ops, heapOp x o = false) → s'.heap = s.heap) ∧
  (g ≠ some false → ∀ ρ a, Rel x.U ρ h0 s a → ∃ σ a', ρ <+: σ ∧ evOpsK x.C call fa draw all ops a = some a' ∧ Rel x.U σ h0 s' a')
theorem evR_ok (ok : x.U.Ok x.C) {call : CallT} (hT : CallsOk x call) {R : Type} {fa : FA} {g : Option Bool} {draw : Bool} {all : List Oper} {k : TSt x.X → Option R} {z : R} : ∀ {ops : List Oper} {s : TSt x.X},
    evR x fa g draw all ops s k = some z → ∃ s', k s' = some z ∧ regSim x h0 call fa g draw all ops s s'
  | [], s, h => ⟨s, h, Keep.refl _ _, fun _ => rfl, fun _ ρ a r => ⟨ρ, a, List.prefix_rfl, rfl, r⟩⟩
  | o :: ops, s, h => by
    simp only [evR] at h
    split at h
    · cases h
    · rename_i ch gb hch
      cases he : (isEff fa o || (isConv x o && !draw)) with
      | true =>
        rw [he] at h
        simp only [cond_true] at h
        split at h
        · rename_i pr hpr
          obtain ⟨so, h1, h2⟩ := PR.go_some h
          split at h2
          · rename_i s1
            obtain ⟨s', h3, h4, h5, h6⟩ := evR_ok ok hT h2
            obtain ⟨k1, k2⟩ := eff_keep hpr h1
            refine ⟨s', h3, ?_, fun hh => ?_, fun hg ρ a r => ?_⟩
            · exact (k1.imp fun n hn => hn o (List.mem_cons_self)).trans (h4.imp fun n hn o' ho' => hn o' (List.mem_cons_of_mem _ ho'))
            · exact (h5 fun o' ho' => hh o' (List.mem_cons_of_mem _ ho')).trans (k2 (hh o (List.mem_cons_self)))
            · obtain ⟨c1, c2, c3⟩ := chain_ok r hch
              obtain ⟨e1, σ, a1, e2, e3, e4⟩ := eff_ok (call := call) ok hT.r r hpr (h1.imp fun _ => hg)
              obtain ⟨τ, a', e5, e6, e7⟩ := h6 hg σ a1 e4
              refine ⟨τ, a', e2.trans e5, ?_, e7⟩
              have hq : (draw && !effKind fa o) = false := by
                cases hb : isEff fa o with
                | true => rw [isEff_kind hb]; simp
                | false => rw [hb] at he; simp only [Bool.false_or, Bool.and_eq_true, Bool.not_eq_true'] at he; rw [he.2]; rfl
              have hst : evStep x.C call fa all (draw && !effKind fa o) o a = some a1 := by
                rw [hq]
                simp only [evStep, c2 (holds_nil _), cond_false, evOp, e1, e3]
              simp only [evOpsK, hst, e6]
          · cases h2
        · cases h
      | false =>
        rw [he] at h
        simp only [cond_false] at h
        split at h
        · rename_i pr hpr
          obtain ⟨yo, h1, h2⟩ := PR.go_some h
          split at h2
          · rename_i y
            split at h2
            · rename_i s1 hput
              obtain ⟨s', h3, h4, h5, h6⟩ := evR_ok ok hT h2
              obtain ⟨k1, k2⟩ := put_keep hput
              refine ⟨s', h3, ?_, fun hh => ?_, fun hg ρ a r => ?_⟩
              · exact (k1.imp fun n hn => hn o (List.mem_cons_self)).trans (h4.imp fun n hn o' ho' => hn o' (List.mem_cons_of_mem _ ho'))
              · exact (h5 fun o' ho' => hh o' (List.mem_cons_of_mem _ ho')).trans k2
              · obtain ⟨c1, c2, c3⟩ := chain_ok r hch
                have : ∃ a1, evStep x.C call fa all (draw && !effKind fa o) o a = some a1 ∧ Rel x.U ρ h0 s1 a1 := by
                  by_cases hh : holds s ch
                  · obtain ⟨w, w1, w2⟩ := valT_ok ok hT.t r hh hpr (h1.imp fun _ => gand_ok hg (gof_ok hh))
                    obtain ⟨a1, p1, p2⟩ := put_act r c1 hh w2 hput
                    refine ⟨a1, ?_, p2⟩
                    simp only [evStep, c2 hh]
                    cases (draw && !effKind fa o) with
                    | true => simp only [cond_true, w1, p1]
                    | false => simp only [cond_false, evOp, w1, p1]
                  · obtain ⟨a1, p1, p2⟩ := put_un r c1 hh hput
                    exact ⟨a1, by simp only [evStep, c3 hh, p1], p2⟩
                obtain ⟨a1, hst, r1⟩ := this
                obtain ⟨τ, a', e5, e6, e7⟩ := h6 hg ρ a1 r1
                exact ⟨τ, a', e5, by simp only [evOpsK, hst, e6], e7⟩
            · cases h2
          · cases h2
        · cases h

/-! both ways -/
theorem VRel.toD {v : TV x.X} {w : AV} (h : VRel x.U ρ v w) : ∀ {d : DV}, w = .d d → v.dv x.U = some d := by
  have lst : ∀ {vs : List (TV x.X)} {as : List AV} {ds : List DV}, vs.length = as.length → (∀ (k : Nat) v a, vs[k]? = some v → as[k]? = some a → ∀ {d : DV}, a = .d d → v.dv x.U = some d) → allD as = some ds → dvL x.U vs = some ds := by
    intro vs
    induction vs with
    | nil =>
      intro as ds hl _ had
      cases as with
      | nil => simp only [allD, mapO, Option.some.injEq] at had; subst had; simp only [dvL]
      | cons => simp at hl
    | cons v vs ih =>
      intro as ds hl hh had
      cases as with
      | nil => simp at hl
      | cons b as =>
        have := allD_inv had
        cases ds with
        | nil => simp at this
        | cons d ds =>
          simp only [List.map_cons, List.cons.injEq] at this
          obtain ⟨rfl, rfl⟩ := this
          exact dvL_mk (hh 0 v _ rfl rfl rfl) (ih (by simpa using hl) (fun k v a h1 h2 => hh (k + 1) v a (by simpa using h1) (by simpa using h2)) (allD_map ds))
  induction h with
  | d v d' h => intro d he; cases he; exact h
  | ptr => intro d he; cases he
  | osl => intro d he; cases he
  | mp => intro d he; cases he
  | fn f caps as hl h ih =>
    intro d he
    unfold mkFn at he
    split at he
    · rename_i ds had
      cases he
      simp only [TV.dv, lst hl ih had, Option.map_some]
    · cases he
  | tup vs as hl h ih =>
    intro d he
    unfold mkTup at he
    split at he
    · rename_i ds had
      cases he
      simp only [TV.dv, lst hl ih had, Option.map_some]
    · cases he
theorem VRels.toDv {vs : List (TV x.X)} {ds : List DV} (h : VRels x.U ρ vs (ds.map .d)) : dvL x.U vs = some ds := by
  obtain ⟨h1, h2⟩ := h
  induction vs generalizing ds with
  | nil => cases ds with
    | nil => simp only [dvL]
    | cons => simp at h1
  | cons v vs ih =>
    cases ds with
    | nil => simp at h1
    | cons d ds => exact dvL_mk ((h2 0 v _ rfl rfl).toD rfl) (ih (by simpa using h1) fun k v a k1 k2 => h2 (k + 1) v a (by simpa using k1) (by simpa using k2))
theorem mergeCells_ok (ok : x.U.Ok x.C) {R : Type} {c : Bool} {z : R} : ∀ {cs ds : List (TV x.X)} {k : List (TV x.X) → Option R}, mergeCells x c cs ds k = some z →
    ∃ es, k es = some z ∧ (c = true → ∀ ρ as, VRels x.U ρ cs as → VRels x.U ρ es as) ∧ (c = false → ∀ ρ as, VRels x.U ρ ds as → VRels x.U ρ es as)
  | [], [], k, h => ⟨[], h, fun _ ρ as h => h, fun _ ρ as h => h⟩
  | [], _ :: _, k, h => by simp [mergeCells] at h
  | _ :: _, [], k, h => by simp [mergeCells] at h
  | p :: cs, q :: ds, k, h => by
    simp only [mergeCells] at h
    split at h
    · rename_i pr hpr
      obtain ⟨v, h1, h2⟩ := PR.go_some h
      obtain ⟨es, h3, h4, h5⟩ := mergeCells_ok ok h2
      have hi : PR.Is True pr v := h1.imp fun _ => by simp
      refine ⟨v :: es, h3, fun hc ρ as has => ?_, fun hc ρ as has => ?_⟩
      · cases as with
        | nil => have := has.1; simp at this
        | cons b as =>
          have hb := has.2 0 p b rfl rfl
          have h6 := h4 hc ρ as ⟨by simpa using has.1, fun k v a k1 k2 => has.2 (k + 1) v a (by simpa using k1) (by simpa using k2)⟩
          have h7 := merge_ok (ρ := ρ) ok (uw := b) (vw := b) (fun _ => hb) (fun hf => by rw [hc] at hf; cases hf) hpr hi
          refine ⟨by simp [h6.1], fun k v' a k1 k2 => ?_⟩
          cases k with
          | zero => simp only [List.getElem?_cons_zero, Option.some.injEq] at k1 k2; subst k1; subst k2; simpa using h7
          | succ k => exact h6.2 k v' a (by simpa using k1) (by simpa using k2)
      · cases as with
        | nil => have := has.1; simp at this
        | cons b as =>
          have hb := has.2 0 q b rfl rfl
          have h6 := h5 hc ρ as ⟨by simpa using has.1, fun k v a k1 k2 => has.2 (k + 1) v a (by simpa using k1) (by simpa using k2)⟩
          have h7 := merge_ok (ρ := ρ) ok (uw := b) (vw := b) (fun hf => by rw [hc] at hf; cases hf) (fun _ => hb) hpr hi
          refine ⟨by simp [h6.1], fun k v' a k1 k2 => ?_⟩
          cases k with
          | zero => simp only [List.getElem?_cons_zero, Option.some.injEq] at k1 k2; subst k1; subst k2; simpa using h7
          | succ k => exact h6.2 k v' a (by simpa using k1) (by simpa using k2)
    · cases h
theorem box_of {cs es : List (TV x.X)} (h : ∀ ρ as, VRels x.U ρ cs as → VRels x.U ρ es as) {w : SV} (hw : SRel x.U ρ (.box cs) w) : SRel x.U ρ (.box es) w := by
  cases hw with
  | box _ ds hd => exact .box _ _ (h ρ _ (VRels.of_dvL hd)).toDv
/-- an entry of the merged -/
def EntOk (x : Cx) (c : Bool) (asg : Nat → Bool) (e0 eA eB : List (Nat × TSV x.X)) (p : Nat × TSV x.X) : Prop :=
  (asg p.1 = false → ∀ v, alook e0 p.1 = some (.val v) → p.2 = .val v) ∧
  (c = true → ∃ v, alook eA p.1 = some v ∧ ∀ ρ w, SRel x.U ρ v w → SRel x.U ρ p.2 w) ∧ (c = false → ∃ v, alook eB p.1 = some v ∧ ∀ ρ w, SRel x.U ρ v w → SRel x.U ρ p.2 w)
theorem mergeEnv_ok (ok : x.U.Ok x.C) {R : Type} {c : Bool} {asg : Nat → Bool} {e0 eA eB : List (Nat × TSV x.X)} {z : R} (kA : ∀ t v, asg t = false → alook e0 t = some (.val v) → alook eA t = some (.val v)) (kB : ∀ t v, asg t = false → alook e0 t = some (.val v) → alook eB t = some (.val v)) :
    ∀ {ts : List Nat} {k : List (Nat × TSV x.X) → Option R}, mergeEnv x c asg e0 eA eB ts k = some z → ∃ e, k e = some z ∧ (∀ p ∈ e, EntOk x c asg e0 eA eB p) ∧ ∀ t ∈ ts, asg t = false → ∀ v, alook e0 t = some (.val v) → (t, .val v) ∈ e
  | [], k, h => ⟨[], h, fun p hp => by simp at hp, fun t ht => by simp at ht⟩
  | t :: r, k, h => by
    have skip : ∀ {k : List (Nat × TSV x.X) → Option R}, (∀ v, asg t = false → alook e0 t = some (.val v) → False) → mergeEnv x c asg e0 eA eB r k = some z →
        ∃ e, k e = some z ∧ (∀ p ∈ e, EntOk x c asg e0 eA eB p) ∧ ∀ u ∈ t :: r, asg u = false → ∀ v, alook e0 u = some (.val v) → (u, .val v) ∈ e := by
      intro k hn h
      obtain ⟨e, h1, h2, h3⟩ := mergeEnv_ok ok kA kB h
      refine ⟨e, h1, h2, fun u hu ha v hv => ?_⟩
      rcases List.mem_cons.1 hu with rfl | hu
      · exact absurd hv (hn v ha)
      · exact h3 u hu ha v hv
    have add : ∀ {v : TSV x.X} {k : List (Nat × TSV x.X) → Option R}, EntOk x c asg e0 eA eB (t, v) → mergeEnv x c asg e0 eA eB r (fun l => k ((t, v) :: l)) = some z →
        ∃ e, k e = some z ∧ (∀ p ∈ e, EntOk x c asg e0 eA eB p) ∧ ∀ u ∈ t :: r, asg u = false → ∀ v, alook e0 u = some (.val v) → (u, .val v) ∈ e := by
      intro v k he h
      obtain ⟨e, h1, h2, h3⟩ := mergeEnv_ok ok kA kB h
      refine ⟨_, h1, fun p hp => ?_, fun u hu ha w hw => ?_⟩
      · rcases List.mem_cons.1 hp with rfl | hp
        · exact he
        · exact h2 p hp
      · rcases List.mem_cons.1 hu with rfl | hu
        · have := he.1 ha w hw
          simp only at this
          rw [this]
          exact List.mem_cons_self
        · exact List.mem_cons_of_mem _ (h3 u hu ha w hw)
    simp only [mergeEnv] at h
    split at h
    · rename_i v hv
      cases ha : asg t with
      | true =>
        rw [ha] at h
        simp only [cond_true] at h
        have hn : ∀ v, asg t = false → alook e0 t = some (.val v) → False := fun v hf => by rw [ha] at hf; cases hf
        split at h
        · rename_i p q hp hq
          split at h
          · rename_i pr hpr
            obtain ⟨w, h1, h2⟩ := PR.go_some h
            have hi : PR.Is True pr w := h1.imp fun _ => by simp
            refine add ⟨fun hf => absurd (ha.symm.trans hf) (by simp), fun hc => ⟨_, hp, fun ρ y hy => ?_⟩, fun hc => ⟨_, hq, fun ρ y hy => ?_⟩⟩ h2
            · cases hy with
              | val _ y hy => exact .val _ _ (by simpa [hc] using merge_ok (ρ := ρ) ok (uw := y) (vw := y) (fun _ => hy) (fun hf => by rw [hc] at hf; cases hf) hpr hi)
            · cases hy with
              | val _ y hy => exact .val _ _ (by simpa [hc] using merge_ok (ρ := ρ) ok (uw := y) (vw := y) (fun hf => by rw [hc] at hf; cases hf) (fun _ => hy) hpr hi)
          · exact skip hn h
        · exact skip hn h
      | false =>
        rw [ha] at h
        exact add ⟨fun _ w hw => by rw [hv] at hw; simp only [Option.some.injEq, TSV.val.injEq] at hw; subst hw; rfl, fun hc => ⟨_, kA t v ha hv, fun ρ w hw => hw⟩, fun hc => ⟨_, kB t v ha hv, fun ρ w hw => hw⟩⟩ h
    · rename_i hnv
      have hn : ∀ v, asg t = false → alook e0 t = some (.val v) → False := fun v _ hv => hnv v hv
      split at h
      · rename_i e xs e' ys hp hq
        split at h
        · rename_i ys' hc
          obtain ⟨he, hc⟩ := castL_ok hc
          subst he
          simp only at hc
          subst hc
          simp only [Option.bind_some] at h
          refine add ⟨fun hf w hw => absurd hw (fun hw => hn w hf hw), fun hc => ⟨_, hp, fun ρ w hw => by rw [hc]; exact hw⟩, fun hc => ⟨_, hq, fun ρ w hw => by rw [hc]; exact hw⟩⟩ h
        · exact skip hn h
      · rename_i cs ds hp hq
        obtain ⟨es, h1, h2, h3⟩ := mergeCells_ok ok h
        exact add ⟨fun hf w hw => absurd hw (fun hw => hn w hf hw), fun hc => ⟨_, hp, fun ρ w hw => box_of (h2 hc) hw⟩, fun hc => ⟨_, hq, fun ρ w hw => box_of (h3 hc) hw⟩⟩ h1
      · exact skip hn h
theorem mergeHeap_ok (ok : x.U.Ok x.C) {R : Type} {c : Bool} {z : R} : ∀ {A B : List (TObj x.X)} {k : List (TObj x.X) → Option R}, mergeHeap x c A B k = some z →
    ∃ H, k H = some z ∧ H.length = A.length ∧ H.length = B.length ∧ (c = true → ∀ (j : Nat) o, H[j]? = some o → ∃ o', A[j]? = some o' ∧ ∀ ρ d w, ORel x.U ρ d o' w → ORel x.U ρ d o w) ∧
      (c = false → ∀ (j : Nat) o, H[j]? = some o → ∃ o', B[j]? = some o' ∧ ∀ ρ d w, ORel x.U ρ d o' w → ORel x.U ρ d o w)
  | [], [], k, h => ⟨[], h, rfl, rfl, fun _ j o h => by simp at h, fun _ j o h => by simp at h⟩
  | [], _ :: _, k, h => by simp [mergeHeap] at h
  | _ :: _, [], k, h => by simp [mergeHeap] at h
  | p :: A, q :: B, k, h => by
    have add : ∀ {o : TObj x.X}, (c = true → ∀ ρ d w, ORel x.U ρ d p w → ORel x.U ρ d o w) → (c = false → ∀ ρ d w, ORel x.U ρ d q w → ORel x.U ρ d o w) → mergeHeap x c A B (fun l => k (o :: l)) = some z →
      ∃ H, k H = some z ∧ H.length = (p :: A).length ∧ H.length = (q :: B).length ∧ (c = true → ∀ (j : Nat) o, H[j]? = some o → ∃ o', (p :: A)[j]? = some o' ∧ ∀ ρ d w, ORel x.U ρ d o' w → ORel x.U ρ d o w) ∧
      (c = false → ∀ (j : Nat) o, H[j]? = some o → ∃ o', (q :: B)[j]? = some o' ∧ ∀ ρ d w, ORel x.U ρ d o' w → ORel x.U ρ d o w) := by
      intro o h1 h2 h
      obtain ⟨H, k1, k2, k3, k4, k5⟩ := mergeHeap_ok ok h
      refine ⟨o :: H, k1, by simp [k2], by simp [k3], fun hc j o' hj => ?_, fun hc j o' hj => ?_⟩
      · cases j with
        | zero => simp only [List.getElem?_cons_zero, Option.some.injEq] at hj; subst hj; exact ⟨p, rfl, h1 hc⟩
        | succ j => exact k4 hc j o' (by simpa using hj)
      · cases j with
        | zero => simp only [List.getElem?_cons_zero, Option.some.injEq] at hj; subst hj; exact ⟨q, rfl, h2 hc⟩
        | succ j => exact k5 hc j o' (by simpa using hj)
    cases p with
    | arr g ap e xs =>
      cases q <;> simp only [mergeHeap] at h <;> (try (cases h; done))
      rename_i g' ap' e' ys
      obtain ⟨hb, h2⟩ := bif_some h
      clear h
      have h := h2
      clear h2
      simp only [Bool.and_eq_true, Nat.beq_eq, beq_iff_eq] at hb
      obtain ⟨rfl, rfl⟩ := hb
      split at h
      · rename_i ys' hc
        obtain ⟨he, hc⟩ := castL_ok hc
        subst he
        simp only at hc
        subst hc
        simp only [Option.bind_some] at h
        exact add (fun hc ρ d w hw => by rw [hc]; exact hw) (fun hc ρ d w hw => by rw [hc]; exact hw) h
      · cases h
    | var cs =>
      cases q <;> simp only [mergeHeap] at h <;> (try (cases h; done))
      obtain ⟨es, h1, h2, h3⟩ := mergeCells_ok ok h
      refine add (fun hc ρ d w hw => ?_) (fun hc ρ d w hw => ?_) h1
      · cases hw with | var _ as has => exact .var _ _ _ (h2 hc ρ as has)
      · cases hw with | var _ as has => exact .var _ _ _ (h3 hc ρ as has)
    | map kt vt es =>
      cases q <;> simp only [mergeHeap] at h <;> (try (cases h; done))
      split at h
      · rename_i f1 h1
        obtain ⟨he, h1⟩ := castX_ok h1
        subst he
        simp only at h1
        subst h1
        split at h
        · rename_i f2 h2
          obtain ⟨he, h2⟩ := castX_ok h2
          subst he
          simp only at h2
          subst h2
          simp only [Option.bind_some] at h
          exact add (fun hc ρ d w hw => by rw [hc]; exact hw) (fun hc ρ d w hw => by rw [hc]; exact hw) h
        · cases h
      · cases h
theorem alook_mem {α : Type} : ∀ {l : List (Nat × α)} {t : Nat} {v : α}, alook l t = some v → (t, v) ∈ l
  | [], t, v, h => by simp [alook] at h
  | (k, u) :: l, t, v, h => by
    simp only [alook] at h
    cases hb : Nat.beq k t with
    | true =>
      rw [hb] at h
      simp only [cond_true, Option.some.injEq] at h
      subst h
      rw [Nat.eq_of_beq_eq_true hb]
      exact List.mem_cons_self
    | false => rw [hb] at h; exact List.mem_cons_of_mem _ (alook_mem h)
theorem merge_all (ok : x.U.Ok x.C) {R : Type} {c : Bool} {p q : Code} {sA sB : TSt x.X} {k : TSt x.X → Option R} {z : R} (kA : Keep (fun n => asgC p n = false) s sA) (kB : Keep (fun n => asgC q n = false) s sB)
    (hA : heapC x p = false → sA.heap = s.heap) (hB : heapC x q = false → sB.heap = s.heap) (tA : sA.tmp = []) (tB : sB.tmp = []) (h : merge x c p q s sA sB k = some z) :
    ∃ s', k s' = some z ∧ s'.tmp = [] ∧ (c = true → ∀ ρ a, Rel x.U ρ h0 sA a → Rel x.U ρ h0 s' a) ∧ (c = false → ∀ ρ a, Rel x.U ρ h0 sB a → Rel x.U ρ h0 s' a) ∧
      Keep (fun n => asgC p n = false ∧ asgC q n = false) s s' ∧ ((heapC x p || heapC x q) = false → s'.heap = s.heap) := by
  unfold merge at h
  obtain ⟨e, h1, h2, h3⟩ := mergeEnv_ok ok (fun t v ha hv => kA t v (by simp only [Bool.or_eq_false_iff] at ha; exact ha.1) hv) (fun t v ha hv => kB t v (by simp only [Bool.or_eq_false_iff] at ha; exact ha.2) hv) h
  have hent : ∀ t v, alook e t = some v → EntOk x c (fun t => asgC p t || asgC q t) s.env sA.env sB.env (t, v) := fun t v hv => h2 _ (alook_mem hv)
  have hkeep : ∀ H, Keep (fun n => asgC p n = false ∧ asgC q n = false) s ⟨e, [], H⟩ := by
    intro H t v ht hv
    have hm := h3 t (List.mem_map.2 ⟨(t, .val v), alook_mem hv, rfl⟩) (by simp [ht.1, ht.2]) v hv
    have : ∀ {l : List (Nat × TSV x.X)} {t : Nat} {v : TSV x.X}, (t, v) ∈ l → ∃ w, alook l t = some w := by
      intro l
      induction l with
      | nil => intro t v h; simp at h
      | cons q l ih =>
        obtain ⟨k, u⟩ := q
        intro t v h
        simp only [alook]
        cases hb : Nat.beq k t with
        | true => exact ⟨u, rfl⟩
        | false =>
          rcases List.mem_cons.1 h with h | h
          · simp only [Prod.mk.injEq] at h; rw [h.1] at hb; simp at hb
          · exact ih h
    obtain ⟨w, hw⟩ := this hm
    have := (hent t w hw).1 (by simp [ht.1, ht.2]) v hv
    simp only at this
    rw [hw, this]
  have rel : ∀ {ρ : List Rf} {a : St} {sX : TSt x.X} {H : List (TObj x.X)}, sX.tmp = [] → Rel x.U ρ h0 sX a → (∀ t v, alook e t = some v → ∃ w, alook sX.env t = some w ∧ ∀ ρ y, SRel x.U ρ w y → SRel x.U ρ v y) → HR x.U ρ h0 H a.heap → Rel x.U ρ h0 ⟨e, [], H⟩ a := by
    intro ρ a sX H ht r he hH
    refine ⟨fun t v hv => ?_, r.tmp.same ht.symm, hH⟩
    obtain ⟨w, k1, k2⟩ := he t v hv
    obtain ⟨y, k3, k4⟩ := r.env t w k1
    exact ⟨y, k3, k2 ρ y k4⟩
  have eA : c = true → ∀ t v, alook e t = some v → ∃ w, alook sA.env t = some w ∧ ∀ ρ y, SRel x.U ρ w y → SRel x.U ρ v y := fun hc t v hv => (hent t v hv).2.1 hc
  have eB : c = false → ∀ t v, alook e t = some v → ∃ w, alook sB.env t = some w ∧ ∀ ρ y, SRel x.U ρ w y → SRel x.U ρ v y := fun hc t v hv => (hent t v hv).2.2 hc
  cases hh : (heapC x p || heapC x q) with
  | false =>
    rw [hh] at h1
    simp only [Bool.or_eq_false_iff] at hh
    refine ⟨_, h1, rfl, fun hc ρ a r => rel tA r (eA hc) ?_, fun hc ρ a r => rel tB r (eB hc) ?_, hkeep _, fun _ => rfl⟩
    · rw [← hA hh.1]; exact r.heap
    · rw [← hB hh.2]; exact r.heap
  | true =>
    rw [hh] at h1
    simp only [cond_true] at h1
    obtain ⟨H, k1, k2, k3, k4, k5⟩ := mergeHeap_ok ok h1
    refine ⟨_, k1, rfl, fun hc ρ a r => rel tA r (eA hc) ?_, fun hc ρ a r => rel tB r (eB hc) ?_, hkeep _, fun hf => by cases hf⟩
    · refine ⟨by rw [k2]; exact r.heap.len, r.heap.nd, fun j o hj => ?_, r.heap.frame, r.heap.grow, r.heap.fresh, r.heap.pre⟩
      obtain ⟨o', l1, l2⟩ := k4 hc j o hj
      obtain ⟨i, ao, l3, l4, l5⟩ := r.heap.obj j o' l1
      exact ⟨i, ao, l3, l4, l2 ρ _ ao l5⟩
    · refine ⟨by rw [k3]; exact r.heap.len, r.heap.nd, fun j o hj => ?_, r.heap.frame, r.heap.grow, r.heap.fresh, r.heap.pre⟩
      obtain ⟨o', l1, l2⟩ := k5 hc j o hj
      obtain ⟨i, ao, l3, l4, l5⟩ := r.heap.obj j o' l1
      exact ⟨i, ao, l3, l4, l2 ρ _ ao l5⟩
end
end Go.Tev
namespace Go.Tev
open Go.Abs

section
variable {x : Cx} {ρ : List Rf} {h0 : Base} {s s' : TSt x.X} {a : St}

theorem Rel.noTmp {X : Unit} {e : List (Nat × TSV x.X)} {tm : List (Nat × TE x.X)} {H : List (TObj x.X)} (r : Rel x.U ρ h0 ⟨e, tm, H⟩ a) : Rel x.U ρ h0 ⟨e, [], H⟩ { a with tmp := [] } :=
  ⟨r.env, ⟨fun _ _ => rfl, fun t e h => by simp [alook] at h, fun t e h => by simp [alook] at h, fun _ _ => rfl⟩, r.heap⟩
theorem alook_trimT (e0 : List (Nat × TSV x.X)) : ∀ (e : List (Nat × TSV x.X)) (t : Nat) (v : TSV x.X), alook (trimT e0 e) t = some v → alook e t = some v ∧ (alook e0 t).isSome = true
  | [], t, v, h => by simp [trimT, alook] at h
  | (k, u) :: e, t, v, h => by
    simp only [trimT] at h
    split at h
    · rename_i w hw
      simp only [alook] at h ⊢
      cases hb : Nat.beq k t with
      | true =>
        rw [hb] at h
        rw [← Nat.eq_of_beq_eq_true hb, hw]
        exact ⟨h, rfl⟩
      | false =>
        rw [hb] at h
        exact alook_trimT e0 e t v h
    · rename_i hw
      obtain ⟨h1, h2⟩ := alook_trimT e0 e t v h
      simp only [alook]
      cases hb : Nat.beq k t with
      | true => rw [← Nat.eq_of_beq_eq_true hb, hw] at h2; cases h2
      | false => exact ⟨h1, h2⟩
theorem alook_trimE (e0 : List (Nat × SV)) : ∀ (e : List (Nat × SV)) (t : Nat), (alook e0 t).isSome = true → alook (trimEnv e0 e) t = alook e t
  | [], t, h => rfl
  | (k, u) :: e, t, h => by
    simp only [trimEnv]
    split
    · simp only [alook, alook_trimE e0 e t h]
    · rename_i hw
      simp only [alook, alook_trimE e0 e t h]
      cases hb : Nat.beq k t with
      | true => rw [← Nat.eq_of_beq_eq_true hb, hw] at h; cases h
      | false => rfl
theorem Rel.trimmed {s0 : TSt x.X} {a0 : St} (h : ER x.U ρ s0.env a0.env) {σ : List Rf} (r : Rel x.U σ h0 s a) : Rel x.U σ h0 { s with env := trimT s0.env s.env } (a.trim a0.env) := by
  refine ⟨fun t v hv => ?_, r.tmp.same rfl, r.heap⟩
  obtain ⟨h1, h2⟩ := alook_trimT _ _ _ _ hv
  obtain ⟨w, h3, h4⟩ := r.env t v h1
  obtain ⟨v0, hv0⟩ := Option.isSome_iff_exists.1 h2
  obtain ⟨w0, h5, _⟩ := h t v0 hv0
  refine ⟨w, ?_, h4⟩
  simp only [St.trim]
  rw [alook_trimE _ _ _ (by rw [h5]; rfl), h3]

def codSim (x : Cx) (h0 : Base) (call : CallT) (fa : FA) (n : Nat) (g : Option Bool) (c : Code) (s s' : TSt x.X) : Prop :=
  s'.tmp = [] ∧ Keep (fun n => asgC c n = false) s s' ∧ (heapC x c = false → s'.heap = s.heap) ∧
  (g ≠ some false → ∀ ρ a, Rel x.U ρ h0 s a → ∃ σ a', ρ <+: σ ∧ evQ x.C call fa n c a = some (.norm a') ∧ Rel x.U σ h0 s' a')
theorem heapOp_region {ops : List Oper} (h : heapC x (.region 0 ops.toArray false) = false) : ∀ o ∈ ops, heapOp x o = false := by
  intro o ho
  simp only [heapC, List.any_eq_false] at h
  have := h o (by simpa using ho)
  simp only [Bool.not_eq_true] at this
  unfold heapOp
  exact this
theorem region_sim (ok : x.U.Ok x.C) {call : CallT} {fa : FA} {g : Option Bool} {id : Nat} {ops : Array Oper} {d : Bool} (n : Nat) (h : regSim x h0 call fa g d ops.toList ops.toList s s') : codSim x h0 call fa n g (.region id ops d) s { s' with tmp := [] } := by
  obtain ⟨h1, h2, h3⟩ := h
  refine ⟨rfl, fun t v hp hv => h1 t v (fun o ho hd => ?_) hv, fun hh => h2 ?_, fun hg ρ a r => ?_⟩
  · simp only [asgC, List.any_eq_false] at hp
    have := hp o ho
    rw [hd] at this
    simp at this
  · intro o ho
    simp only [heapC, List.any_eq_false] at hh
    have := hh o ho
    simp only [Bool.not_eq_true] at this
    unfold heapOp
    exact this
  · obtain ⟨σ, a', k1, k2, k3⟩ := h3 hg ρ a r
    refine ⟨σ, { a' with tmp := [] }, k1, ?_, Rel.noTmp (X := ()) k3⟩
    simp only [evQ, k2]
theorem trim_keep {s0 : TSt x.X} {P : Nat → Prop} (h : Keep P s0 s) : Keep P s0 { s with env := trimT s0.env s.env } := by
  intro t v hp hv
  have h1 := h t v hp hv
  have : ∀ (e : List (Nat × TSV x.X)), alook e t = some (.val v) → alook (trimT s0.env e) t = some (.val v) := by
    intro e
    induction e with
    | nil => intro h; exact h
    | cons p e ih =>
      obtain ⟨k, u⟩ := p
      intro h
      simp only [alook] at h
      simp only [trimT]
      cases hb : Nat.beq k t with
      | true =>
        rw [hb] at h
        have := Nat.eq_of_beq_eq_true hb
        subst this
        rw [hv]
        simp only [alook, hb]
        exact h
      | false =>
        rw [hb] at h
        split
        · simp only [alook, hb, cond_false]; exact ih h
        · exact ih h
  exact this _ h1
theorem evS_ok (ok : x.U.Ok x.C) {call : CallT} (hT : CallsOk x call) {R : Type} {fa : FA} (n : Nat) {z : R} (c : Code) : ∀ {g : Option Bool} {s : TSt x.X} {k : TSt x.X → Option R}, s.tmp = [] → evS x fa g c s k = some z →
    ∃ s', k s' = some z ∧ codSim x h0 call fa n g c s s' := by
  induction c with
  | skip => intro g s k ht h; exact ⟨s, h, ht, Keep.refl _ _, fun _ => rfl, fun _ ρ a r => ⟨ρ, a, List.prefix_rfl, rfl, r⟩⟩
  | label l => intro g s k ht h; exact ⟨s, h, ht, Keep.refl _ _, fun _ => rfl, fun _ ρ a r => ⟨ρ, a, List.prefix_rfl, rfl, r⟩⟩
  | region id ops d =>
    intro g s k ht h
    simp only [evS] at h
    obtain ⟨s', h1, h2⟩ := evR_ok (h0 := h0) ok hT h
    exact ⟨_, h1, region_sim ok n h2⟩
  | seq p q ihp ihq =>
    intro g s k ht h
    simp only [evS] at h
    obtain ⟨s1, h1, t1, k1, m1, r1⟩ := ihp ht h
    obtain ⟨s2, h2, t2, k2, m2, r2⟩ := ihq t1 h1
    refine ⟨s2, h2, t2, fun t v hp hv => ?_, fun hh => ?_, fun hg ρ a r => ?_⟩
    · simp only [asgC, Bool.or_eq_false_iff] at hp
      exact k2 t v hp.2 (k1 t v hp.1 hv)
    · simp only [heapC, Bool.or_eq_false_iff] at hh
      rw [m2 hh.2, m1 hh.1]
    · obtain ⟨σ, a1, e1, e2, e3⟩ := r1 hg ρ a r
      obtain ⟨τ, a2, e4, e5, e6⟩ := r2 hg σ a1 e3
      exact ⟨τ, a2, e1.trans e4, by simp only [evQ, e2, e5], e6⟩
  | cond c p q ihp ihq =>
    intro g s k ht h
    simp only [evS] at h
    split at h
    · rename_i cb hcb
      obtain ⟨sA, h1, tA, kA, mA, rA⟩ := ihp ht h
      obtain ⟨sB, h2, tB, kB, mB, rB⟩ := ihq ht h1
      obtain ⟨s', h3, t', lA, lB, kk, mm⟩ := merge_all (h0 := h0) ok kA kB mA mB tA tB h2
      refine ⟨s', h3, t', fun t v hp hv => ?_, fun hh => ?_, fun hg ρ a r => ?_⟩
      · simp only [asgC, Bool.or_eq_false_iff] at hp
        exact kk t v hp hv
      · simp only [heapC] at hh
        exact mm hh
      · obtain ⟨_, hc, _⟩ := topD_ok r (holds_nil _) hcb (d := .bool cb) rfl
        cases cb with
        | true =>
          obtain ⟨σ, a1, e1, e2, e3⟩ := rA (gand_ok hg (by simp)) ρ a r
          exact ⟨σ, a1, e1, by simp only [evQ, hc, cond_true, e2], lA rfl _ _ e3⟩
        | false =>
          obtain ⟨σ, a1, e1, e2, e3⟩ := rB (gand_ok hg (by simp)) ρ a r
          exact ⟨σ, a1, e1, by simp only [evQ, hc, cond_false, e2], lB rfl _ _ e3⟩
    · cases h
  | block id c ih =>
    intro g s k ht h
    simp only [evS] at h
    obtain ⟨s1, h1, t1, k1, m1, r1⟩ := ih ht h
    refine ⟨_, h1, t1, trim_keep k1, m1, fun hg ρ a r => ?_⟩
    obtain ⟨σ, a1, e1, e2, e3⟩ := r1 hg ρ a r
    exact ⟨σ, a1.trim a.env, e1, by simp only [evQ, e2], Rel.trimmed r.env e3⟩
  | _ => intro g s k ht h; simp [evS] at h

inductive TORel (x : Cx) (ρ : List Rf) (h0 : Base) : TOut x.X → Out → Prop where
  | norm (s : TSt x.X) (a : St) (ht : s.tmp = []) (r : Rel x.U ρ h0 s a) : TORel x ρ h0 (.norm s) (.norm a)
  | exit (id : Nat) (s : TSt x.X) (a : St) (ht : s.tmp = []) (r : Rel x.U ρ h0 s a) : TORel x ρ h0 (.exit id s) (.exit id a)
  | ret (s : TSt x.X) (a : St) (ht : s.tmp = []) (r : Rel x.U ρ h0 s a) : TORel x ρ h0 (.ret s) (.ret a)

theorem keysIn_mem {e : List (Nat × TSV x.X)} {ks : List Nat} {t : Nat} (h : t ∈ keysIn e ks) : (alook e t).isSome = true := by
  induction ks with
  | nil => simp [keysIn] at h
  | cons k ks ih =>
    simp only [keysIn] at h
    split at h
    · rename_i v hv
      rcases List.mem_cons.1 h with rfl | h
      · rw [hv]; rfl
      · exact ih h
    · exact ih h
theorem alook_restr {e : List (Nat × TSV x.X)} : ∀ {ks : List Nat} {t : Nat} {v : TSV x.X}, alook (restr e ks) t = some v → alook e t = some v ∧ t ∈ ks
  | [], t, v, h => by simp [restr, alook] at h
  | k :: ks, t, v, h => by
    simp only [restr] at h
    split at h
    · rename_i w hw
      simp only [alook] at h
      cases hb : Nat.beq k t with
      | true =>
        rw [hb] at h
        simp only [cond_true, Option.some.injEq] at h
        subst h
        have := Nat.eq_of_beq_eq_true hb
        subst this
        exact ⟨hw, List.mem_cons_self⟩
      | false =>
        rw [hb] at h
        obtain ⟨h1, h2⟩ := alook_restr (ks := ks) h
        exact ⟨h1, List.mem_cons_of_mem _ h2⟩
    · obtain ⟨h1, h2⟩ := alook_restr (ks := ks) h
      exact ⟨h1, List.mem_cons_of_mem _ h2⟩
theorem Rel.restr0 (r : Rel x.U ρ h0 s a) (ht : s.tmp = []) (ks : List Nat) : Rel x.U ρ h0 (s.restr ks) a :=
  ⟨fun t v hv => r.env t v (alook_restr hv).1, r.tmp.same ht.symm, r.heap⟩
theorem Rel.restr1 {s1 : TSt x.X} {a1 : St} (r : Rel x.U ρ h0 s1 a1) (ht : s1.tmp = []) {ks : List Nat} {e0 : List (Nat × SV)} (hk : ∀ t ∈ ks, (alook e0 t).isSome = true) : Rel x.U ρ h0 (s1.restr ks) (a1.trim e0) := by
  refine ⟨fun t v hv => ?_, (show TR x.U ρ s1 (a1.trim e0).tmp from r.tmp).same ht.symm, r.heap⟩
  obtain ⟨h1, h2⟩ := alook_restr hv
  obtain ⟨w, h3, h4⟩ := r.env t v h1
  refine ⟨w, ?_, h4⟩
  simp only [St.trim]
  rw [alook_trimE _ _ _ (hk t h2), h3]

theorem iterK_ok {R : Type} {f : TSt x.X → (TOut x.X → Option R) → Option R} {F : St → Option Out} {ks : List Nat} {e0 : List (Nat × SV)} {k : TOut x.X → Option R} {z : R} (hk : ∀ t ∈ ks, (alook e0 t).isSome = true)
    (hf : ∀ s k z, f s k = some z → s.tmp = [] → ∀ ρ a, Rel x.U ρ h0 s a → ∃ o' o σ, k o' = some z ∧ F a = some o ∧ ρ <+: σ ∧ TORel x σ h0 o' o) :
    ∀ (n : Nat) (s : TSt x.X), iterK f ks k n s = some z → s.tmp = [] → ∀ ρ a, Rel x.U ρ h0 s a → ∃ o' o σ, k o' = some z ∧ iter F e0 n a = some o ∧ ρ <+: σ ∧ TORel x σ h0 o' o
  | 0, s, h, _, _, _, _ => by simp [iterK] at h
  | n + 1, s, h, ht, ρ, a, r => by
    simp only [iterK] at h
    obtain ⟨o', o, σ, h1, h2, h3, h4⟩ := hf s _ z h ht ρ a r
    cases h4 with
    | norm s1 a1 ht1 r1 =>
      simp only at h1
      obtain ⟨o2', o2, τ, k1, k2, k3, k4⟩ := iterK_ok hk hf n _ h1 rfl σ (a1.trim e0) (r1.restr1 ht1 hk)
      exact ⟨o2', o2, τ, k1, by simp only [iter, h2, k2], h3.trans k3, k4⟩
    | exit id s1 a1 ht1 r1 => exact ⟨_, _, σ, h1, by simp only [iter, h2], h3, .exit _ _ _ ht1 r1⟩
    | ret s1 a1 ht1 r1 => exact ⟨_, _, σ, h1, by simp only [iter, h2], h3, .ret _ _ ht1 r1⟩
theorem evK_ok (ok : x.U.Ok x.C) {call : CallT} (hT : CallsOk x call) {R : Type} {fa : FA} (n : Nat) (c : Code) : ∀ {id : Nat} {s : TSt x.X} {k : TOut x.X → Option R} {z : R}, s.tmp = [] → evK x fa n id c k s = some z →
    ∀ ρ a, Rel x.U ρ h0 s a → ∃ o' o σ, k o' = some z ∧ evQ x.C call fa n c a = some o ∧ ρ <+: σ ∧ TORel x σ h0 o' o := by
  induction c with
  | skip => intro id s k z ht h ρ a r; exact ⟨_, _, ρ, h, rfl, List.prefix_rfl, .norm _ _ ht r⟩
  | label l => intro id s k z ht h ρ a r; exact ⟨_, _, ρ, h, rfl, List.prefix_rfl, .norm _ _ ht r⟩
  | exit i => intro id s k z ht h ρ a r; exact ⟨_, _, ρ, h, rfl, List.prefix_rfl, .exit _ _ _ ht r⟩
  | ret => intro id s k z ht h ρ a r; exact ⟨_, _, ρ, h, rfl, List.prefix_rfl, .ret _ _ ht r⟩
  | region i ops d =>
    intro id s k z ht h ρ a r
    simp only [evK] at h
    obtain ⟨s', h1, h2⟩ := evR_ok (h0 := h0) ok hT h
    obtain ⟨t1, _, _, h3⟩ := region_sim (id := i) ok n h2
    obtain ⟨σ, a', e1, e2, e3⟩ := h3 (by simp) ρ a r
    exact ⟨_, _, σ, h1, e2, e1, .norm _ _ t1 e3⟩
  | seq p q ihp ihq =>
    intro id s k z ht h ρ a r
    simp only [evK] at h
    obtain ⟨o', o, σ, h1, h2, h3, h4⟩ := ihp ht h ρ a r
    cases h4 with
    | norm s1 a1 ht1 r1 =>
      simp only at h1
      obtain ⟨o2', o2, τ, k1, k2, k3, k4⟩ := ihq ht1 h1 σ a1 r1
      exact ⟨o2', o2, τ, k1, by simp only [evQ, h2, k2], h3.trans k3, k4⟩
    | exit i s1 a1 ht1 r1 => exact ⟨_, _, σ, h1, by simp only [evQ, h2], h3, .exit _ _ _ ht1 r1⟩
    | ret s1 a1 ht1 r1 => exact ⟨_, _, σ, h1, by simp only [evQ, h2], h3, .ret _ _ ht1 r1⟩
  | cond c p q ihp ihq =>
    intro id s k z ht h ρ a r
    simp only [evK] at h
    split at h
    · rename_i cb hcb
      cases hs : (simple p && simple q) with
      | true =>
        rw [hs] at h
        simp only [cond_true] at h
        have h' : evS x fa none (.cond c p q) s (fun s' => k (.norm s')) = some z := by
          simp only [evS, hcb, gand]
          exact h
        obtain ⟨s', h1, t1, _, _, h3⟩ := evS_ok (h0 := h0) ok hT n (.cond c p q) ht h'
        obtain ⟨σ, a', e1, e2, e3⟩ := h3 (by simp) ρ a r
        exact ⟨_, _, σ, h1, e2, e1, .norm _ _ t1 e3⟩
      | false =>
        rw [hs] at h
        simp only [cond_false] at h
        obtain ⟨_, hc, _⟩ := topD_ok r (holds_nil _) hcb (d := .bool cb) rfl
        cases cb with
        | true =>
          obtain ⟨o', o, σ, h1, h2, h3, h4⟩ := ihp ht h ρ a r
          exact ⟨o', o, σ, h1, by simp only [evQ, hc, cond_true, h2], h3, h4⟩
        | false =>
          obtain ⟨o', o, σ, h1, h2, h3, h4⟩ := ihq ht h ρ a r
          exact ⟨o', o, σ, h1, by simp only [evQ, hc, cond_false, h2], h3, h4⟩
    · cases h
  | block i c ih =>
    intro id s k z ht h ρ a r
    simp only [evK] at h
    obtain ⟨o', o, σ, h1, h2, h3, h4⟩ := ih ht h ρ a r
    cases h4 with
    | norm s1 a1 ht1 r1 =>
      exact ⟨_, _, σ, h1, by simp only [evQ, h2], h3, .norm _ _ ht1 (Rel.trimmed r.env r1)⟩
    | exit j s1 a1 ht1 r1 =>
      simp only at h1
      cases hb : Nat.beq j i with
      | true =>
        rw [hb] at h1
        exact ⟨_, _, σ, h1, by simp only [evQ, h2, hb, cond_true], h3, .norm _ _ ht1 (Rel.trimmed r.env r1)⟩
      | false =>
        rw [hb] at h1
        exact ⟨_, _, σ, h1, by simp only [evQ, h2, hb, cond_false], h3, .exit _ _ _ ht1 r1⟩
    | ret s1 a1 ht1 r1 => exact ⟨_, _, σ, h1, by simp only [evQ, h2], h3, .ret _ _ ht1 r1⟩
  | loop c ih =>
    intro id s k z ht h ρ a r
    simp only [evK] at h
    obtain ⟨o', o, σ, h1, h2, h3, h4⟩ := iterK_ok (F := evQ x.C call fa n c) (e0 := a.env) (fun t ht => by
      obtain ⟨v, hv⟩ := Option.isSome_iff_exists.1 (keysIn_mem ht)
      obtain ⟨w, hw, _⟩ := r.env t v hv
      rw [hw]; rfl) (fun s k z h ht ρ a r => ih ht h ρ a r) n _ h rfl ρ a (r.restr0 ht _)
    exact ⟨o', o, σ, h1, h2, h3, h4⟩
  | _ => intro id s k z ht h; simp [evK] at h
end
end Go.Tev
namespace Go.Tev
open Go.Abs

section
variable {x : Cx} {ρ : List Rf} {h0 : Base} {s s' : TSt x.X} {a : St}

/-- a value, and what it is frozen to -/
def FrzTo (U : Uni) (dir : Bool) (h : List AObj) (u : AV) (w : TV U.X) : Prop := ∀ d, w.dv U = some d → (u = .d d) ∨ (dir = false ∧ ∀ m, Abs.freeze h (m + 1) u = some d)
theorem frzK_ok {dir : Bool} {R : Type} {z : R} {v : TV x.X} {k : TV x.X → Option R} {H : List (TObj x.X)} {h : List AObj} {u : AV} (hr : HR x.U ρ h0 H h) (hv : VRel x.U ρ v u) (hk : frzK x dir H v k = some z) :
    ∃ w, k w = some z ∧ FrzTo x.U dir h u w := by
  have data : ∀ {v : TV x.X}, VRel x.U ρ v u → k v = some z → ∃ w, k w = some z ∧ FrzTo x.U dir h u w := fun {v} hv hk => ⟨v, hk, fun d hd => .inl (hv.isD hd)⟩
  cases v <;> simp only [frzK] at hk <;> (try (cases hk; done)) <;> (try (exact data hv hk))
  · rename_i j g e n
    cases dir with
    | true => cases hk
    | false =>
      simp only [cond_false] at hk
      split at hk
      · rename_i g' ap e' xs hh
        obtain ⟨hb, hk2⟩ := bif_some hk
        clear hk
        have hk := hk2
        clear hk2
        simp only [Bool.and_eq_true, Nat.beq_eq] at hb
        obtain ⟨rfl, rfl⟩ := hb
        split at hk
        · rename_i hn
          simp only [Option.bind_some] at hk
          refine ⟨_, hk, fun d hd => .inr ⟨rfl, fun m => ?_⟩⟩
          cases hd
          cases hv with
          | d v d hd => simp [TV.dv] at hd
          | osl _ i _ _ _ hj =>
            obtain ⟨i', ao, k1, k2, k3⟩ := hr.obj j _ hh
            rw [hj] at k1
            cases k1
            cases k3
            have hb1 : ∀ m, Nat.beq m m = true := fun m => by simp
            have hb2 : Nat.ble n (xs.map fun y => AV.d (x.U.enc e y)).length = true := by rw [Nat.ble_eq]; simpa using hn
            simp only [Abs.freeze, k2, hb1, hb2, Bool.and_self, cond_true]
            rw [← List.map_take]
            have : ∀ (l : List (x.X e)), mapO (Abs.freeze h m) (l.map fun y => AV.d (x.U.enc e y)) = some (l.map (x.U.enc e)) := by
              intro l
              induction l with
              | nil => rfl
              | cons y l ih =>
                have hf : Abs.freeze h m (AV.d (x.U.enc e y)) = some (x.U.enc e y) := by cases m <;> rfl
                simp only [List.map_cons, mapO, hf, ih]
            rw [this]; rfl
        · cases hk
      · cases hk
  · rename_i j
    cases dir with
    | true => cases hk
    | false =>
      simp only [cond_false] at hk
      split at hk
      · rename_i kt vt es hh
        refine ⟨_, hk, fun d hd => .inr ⟨rfl, fun m => ?_⟩⟩
        cases hd
        cases hv with
        | d v d hd => simp [TV.dv] at hd
        | mp _ i hj =>
          obtain ⟨i', ao, k1, k2, k3⟩ := hr.obj j _ hh
          rw [hj] at k1
          cases k1
          cases k3
          simp only [Abs.freeze, k2]
          have : ∀ (l : List (x.X kt × x.X vt)), mapO (fun e => (Abs.freeze h m e.2).map fun v => (e.1, v)) (l.map fun p => (x.U.enc kt p.1, AV.d (x.U.enc vt p.2))) = some (l.map fun p => (x.U.enc kt p.1, x.U.enc vt p.2)) := by
            intro l
            induction l with
            | nil => rfl
            | cons y l ih =>
              have hf : Abs.freeze h m (AV.d (x.U.enc vt y.2)) = some (x.U.enc vt y.2) := by cases m <;> rfl
              simp only [List.map_cons, mapO, hf, ih, Option.map_some]
          rw [this]; rfl
      · cases hk
/-- results -/
def ResTo (U : Uni) (dir : Bool) (h : List AObj) (vs : List AV) (ws : List (TV U.X)) : Prop := vs.length = ws.length ∧ ∀ (i : Nat) v w, vs[i]? = some v → ws[i]? = some w → FrzTo U dir h v w
theorem resK_ok (ok : x.U.Ok x.C) {dir : Bool} {R : Type} {z : R} (r : Rel x.U ρ h0 s a) : ∀ {rs : List ResultVar} {k : List (TV x.X) → Option R}, resK x dir s rs k = some z →
    ∃ ws vs, k ws = some z ∧ evRes x.C a rs = some vs ∧ ResTo x.U dir a.heap vs ws
  | [], k, h => ⟨[], [], h, rfl, rfl, fun i v w h => by simp at h⟩
  | .tmp t :: rs, k, h => by
    simp only [resK] at h
    split at h
    · rename_i v hv
      obtain ⟨u, h1, h2⟩ := topA_ok r (holds_nil _) hv
      obtain ⟨w, h3, h4⟩ := frzK_ok r.heap h2 h
      obtain ⟨ws, vs, h5, h6, h7, h8⟩ := resK_ok ok r h3
      refine ⟨w :: ws, u :: vs, h5, by simp only [evRes, h1, h6, Option.map_some], by simp [h7], fun i v w hi hj => ?_⟩
      cases i with
      | zero => simp only [List.getElem?_cons_zero, Option.some.injEq] at hi hj; subst hi; subst hj; exact h4
      | succ i => exact h8 i v w (by simpa using hi) (by simpa using hj)
    · cases h
  | .cell t ty :: rs, k, h => by
    simp only [resK] at h
    split at h
    · rename_i sl off hv
      split at h
      · rename_i cs hcs
        split at h
        · rename_i v hld
          obtain ⟨z1, h1, h2⟩ := topd_ok r (holds_nil _) hv
          cases h2
          obtain ⟨w1, h3, h4⟩ := r.env _ _ hcs
          cases h4 with
          | box _ ds hd =>
            obtain ⟨d, h9, h10⟩ := ld_ok ok (dvL_drop hd off) hld
            obtain ⟨ws, vs, h5, h6, h7, h8⟩ := resK_ok ok r h
            refine ⟨v :: ws, .d d :: vs, h5, by simp only [evRes, h1, evLoad, h3, h9, Option.map_some, h6], by simp [h7], fun i v' w hi hj => ?_⟩
            cases i with
            | zero => simp only [List.getElem?_cons_zero, Option.some.injEq] at hi hj; subst hi; subst hj; exact fun d' hd' => .inl (by rw [h10] at hd'; cases hd'; rfl)
            | succ i => exact h8 i v' w (by simpa using hi) (by simpa using hj)
        · cases h
      · cases h
    · cases h
theorem injL_dv (ok : x.U.Ok x.C) (ts : List Nat) : ∀ (ws : List (TV x.X)) (y : PX x.X ts) (f : PX x.X ts → List (TV x.X)), prjL x.U ts ws = some y → injL x.U ts = some f → dvL x.U (f y) = dvL x.U ws := by
  induction ts with
  | nil =>
    intro ws y f h hf
    cases ws with
    | nil => simp only [injL, Option.some.injEq] at hf; subst hf; rfl
    | cons => rw [prjL_nil1] at h; cases h
  | cons t r ih =>
    intro ws y f h hf
    cases r with
    | nil =>
      cases ws with
      | nil => rw [prjL_one0] at h; cases h
      | cons v ws =>
        cases ws with
        | cons => rw [prjL_one2] at h; cases h
        | nil =>
          rw [prjL_one] at h
          simp only [injL] at hf
          cases hg : x.U.inj t with
          | none => rw [hg] at hf; cases hf
          | some g =>
            rw [hg] at hf
            simp only [Option.some.injEq] at hf
            subst hf
            have h1 := ok.inj t g y hg
            have h2 := ok.prj t v y h
            rw [dvL_one h1, dvL_one h2]
    | cons u r =>
      cases ws with
      | nil => rw [prjL_two0] at h; cases h
      | cons v ws =>
        rw [prjL_two] at h
        cases hz : x.U.prj t v with
        | none => rw [hz] at h; cases h
        | some y1 =>
          rw [hz] at h
          cases hzs : prjL x.U (u :: r) ws with
          | none => rw [hzs] at h; cases h
          | some ys =>
            rw [hzs] at h
            have hy : y = (y1, ys) := (Option.some.inj h).symm
            subst hy
            simp only [injL] at hf
            cases hg : x.U.inj t with
            | none => rw [hg] at hf; cases hf
            | some g =>
              rw [hg] at hf
              cases hg2 : injL x.U (u :: r) with
              | none => rw [hg2] at hf; cases hf
              | some g2 =>
                rw [hg2] at hf
                simp only [Option.some.injEq] at hf
                subst hf
                have h1 := ok.inj t g y1 hg
                have h2 := ok.prj t v y1 hz
                have h3 := ih ws ys g2 hzs hg2
                simp only [dvL]
                rw [h1, h2, h3]
theorem argsG_dv (ak : List AK) : ∀ (vs ws us : List (TV x.X)) (es : List DV), filtA ak vs = some ws → dvL x.U ws = some es → dvL x.U us = some es → ∃ ds, dvL x.U (argsG ak us) = some ds ∧ dvL x.U vs = some ds ∧ ds.length = ak.length := by
  induction ak with
  | nil =>
    intro vs ws us es h _ _
    cases vs with
    | nil => exact ⟨[], by simp only [argsG, dvL], by simp only [dvL], rfl⟩
    | cons => simp [filtA] at h
  | cons k r ih =>
    intro vs ws us es h h1 h2
    cases vs with
    | nil => cases k <;> simp [filtA] at h
    | cons v vs =>
      cases k with
      | ty t =>
        simp only [filtA] at h
        cases hw : filtA r vs with
        | none => rw [hw] at h; cases h
        | some ws' =>
          rw [hw] at h
          simp only [Option.some.injEq] at h
          subst h
          obtain ⟨d, es', k1, k2, rfl⟩ := dvL_cons h1
          cases us with
          | nil => have := dvL_nil h2; cases this
          | cons u us =>
            obtain ⟨d', es2, k3, k4, k5⟩ := dvL_cons h2
            simp only [List.cons.injEq] at k5
            obtain ⟨rfl, rfl⟩ := k5
            obtain ⟨ds, k6, k7, k8⟩ := ih vs ws' us es' hw k2 k4
            exact ⟨d :: ds, dvL_mk k3 k6, dvL_mk k1 k7, by simp [k8]⟩
      | fn f =>
        cases v with
        | fn f' caps =>
          cases caps with
          | cons => simp [filtA] at h
          | nil =>
            simp only [filtA] at h
            obtain ⟨hb, hh⟩ := bif_some h
            rw [Nat.beq_eq] at hb
            subst hb
            obtain ⟨ds, k6, k7, k8⟩ := ih vs ws us es hh h1 h2
            exact ⟨.fn f [] :: ds, dvL_mk rfl k6, dvL_mk rfl k7, by simp [k8]⟩
        | _ => simp [filtA] at h
theorem envT_ok : ∀ {vs : List (TV x.X)} {ds : List DV} (k : Nat), dvL x.U vs = some ds → ER x.U ρ (envT k vs) (env0 k (ds.map .d))
  | [], ds, k, h => fun t v hv => by simp [envT, alook] at hv
  | v :: vs, ds, k, h => by
    obtain ⟨d, ds', h1, h2, rfl⟩ := dvL_cons h
    intro t w hw
    simp only [envT, alook] at hw
    simp only [List.map_cons, env0, alook]
    cases hb : Nat.beq k t with
    | true =>
      rw [hb] at hw
      simp only [cond_true, Option.some.injEq] at hw
      subst hw
      exact ⟨_, rfl, .val _ _ (.d _ _ h1)⟩
    | false =>
      rw [hb] at hw
      exact envT_ok (k + 1) h2 t w hw
theorem res_ok (ok : x.U.Ok x.C) {dir : Bool} {h : List AObj} {vs : List AV} {ws : List (TV x.X)} {rts : List Nat} {y : PX x.X rts} {g : PX x.X rts → TV x.X} (hr : ResTo x.U dir h vs ws) (hp : prjL x.U rts ws = some y) (hg : resT x.U rts = some g) :
    ∃ d, (g y).dv x.U = some d ∧ ((resVal vs = .d d) ∨ (dir = false ∧ Abs.freeze h 100 (resVal vs) = some d)) := by
  obtain ⟨es, hes⟩ := prjL_dv ok _ _ _ hp
  have each : ∀ (i : Nat) v e, vs[i]? = some v → es[i]? = some e → v = .d e ∨ (dir = false ∧ ∀ m, Abs.freeze h (m + 1) v = some e) := by
    intro i v e hv he
    have hi : i < ws.length := by rw [dvL_length hes]; exact (List.getElem?_eq_some_iff.1 he).1
    obtain ⟨d, h1, h2⟩ := dvL_get hes i _ (List.getElem?_eq_getElem hi)
    rw [he] at h1
    cases h1
    exact hr.2 i v _ hv (List.getElem?_eq_getElem hi) _ h2
  have hlen : vs.length = es.length := by rw [hr.1, dvL_length hes]
  have many : ∀ (g' : PX x.X rts → List (TV x.X)), injL x.U rts = some g' → dvL x.U (g' y) = some es := fun g' hg' => by rw [injL_dv ok rts ws y g' hp hg', hes]
  have tup : vs.length ≠ 1 → ((resVal vs = .d (.tup es)) ∨ (dir = false ∧ Abs.freeze h 100 (resVal vs) = some (.tup es))) := by
    intro hn
    have hrv : resVal vs = mkTup vs := by
      cases vs with
      | nil => rfl
      | cons a l => cases l with
        | nil => simp at hn
        | cons => rfl
    rw [hrv]
    unfold mkTup
    cases had : allD vs with
    | some ds =>
      have := allD_inv had
      subst this
      have : ds = es := by
        apply List.ext_getElem?
        intro i
        rcases Nat.lt_or_ge i ds.length with hi | hi
        · have hi' : i < es.length := by simp at hlen; omega
          rcases each i (.d ds[i]) es[i] (by simp [hi]) (List.getElem?_eq_getElem hi') with h1 | ⟨_, h1⟩
          · have h1 : ds[i] = es[i] := by simpa using h1
            rw [List.getElem?_eq_getElem hi, List.getElem?_eq_getElem hi', h1]
          · have := h1 0
            simp only [Abs.freeze, Option.some.injEq] at this
            rw [List.getElem?_eq_getElem hi, List.getElem?_eq_getElem hi', this]
        · rw [List.getElem?_eq_none hi, List.getElem?_eq_none (by simp at hlen; omega)]
      exact .inl (by rw [this])
    | none =>
      right
      have hdir : dir = false := by
        cases hd : dir with
        | false => rfl
        | true =>
          have : vs = es.map .d := by
            apply List.ext_getElem?
            intro i
            rcases Nat.lt_or_ge i vs.length with hi | hi
            · have hi' : i < es.length := by rw [← hlen]; exact hi
              rcases each i vs[i] es[i] (List.getElem?_eq_getElem hi) (List.getElem?_eq_getElem hi') with h1 | ⟨h1, _⟩
              · rw [List.getElem?_eq_getElem hi, h1, List.getElem?_map, List.getElem?_eq_getElem hi']; rfl
              · rw [hd] at h1; cases h1
            · rw [List.getElem?_eq_none hi, List.getElem?_eq_none (by simp; omega)]
          rw [this, allD_map] at had
          cases had
      refine ⟨hdir, ?_⟩
      have fm : ∀ (vs : List AV) (es : List DV), vs.length = es.length → (∀ (i : Nat) v e, vs[i]? = some v → es[i]? = some e → v = .d e ∨ (dir = false ∧ ∀ m, Abs.freeze h (m + 1) v = some e)) → mapO (Abs.freeze h 99) vs = some es := by
        intro vs
        induction vs with
        | nil => intro es hl _; cases es with
          | nil => rfl
          | cons => simp at hl
        | cons v vs ih =>
          intro es hl hh
          cases es with
          | nil => simp at hl
          | cons e es =>
            have h1 : Abs.freeze h 99 v = some e := by
              rcases hh 0 v e rfl rfl with h1 | ⟨_, h1⟩
              · subst h1; rfl
              · exact h1 98
            simp only [mapO, h1, ih es (by simpa using hl) fun i v e k1 k2 => hh (i + 1) v e (by simpa using k1) (by simpa using k2)]
      simp only [Abs.freeze, fm vs es hlen each, Option.map_some]
  cases rts with
  | nil =>
    have hw := hp
    simp only [resT, Option.some.injEq] at hg
    subst hg
    have h1 := many (fun _ => []) rfl
    have : es = [] := by simp only [dvL, Option.some.injEq] at h1; exact h1.symm
    subst this
    refine ⟨.tup [], rfl, ?_⟩
    exact tup (by rw [hlen]; simp)
  | cons t r =>
    cases r with
    | nil =>
      have hg' : x.U.inj t = some g := hg
      have h1 := ok.inj t g y hg'
      have h2 := many (fun y => [g y]) (by simp only [injL, hg'])
      rw [dvL_one h1] at h2
      simp only [Option.some.injEq] at h2
      subst h2
      refine ⟨_, h1, ?_⟩
      cases vs with
      | nil => simp at hlen
      | cons v vs =>
        cases vs with
        | cons => simp at hlen
        | nil =>
          rcases each 0 v _ rfl rfl with k1 | ⟨k1, k2⟩
          · exact .inl k1
          · exact .inr ⟨k1, k2 99⟩
    | cons u r =>
      simp only [resT] at hg
      cases hf : injL x.U (t :: u :: r) with
      | none => rw [hf] at hg; cases hg
      | some f =>
        rw [hf] at hg
        simp only [Option.some.injEq] at hg
        subst hg
        refine ⟨.tup es, by simp only [TV.dv, many f hf, Option.map_some], ?_⟩
        have h2 : es.length ≠ 1 := by
          have h3 := dvL_length (many f hf)
          simp only [injL] at hf
          cases hg1 : x.U.inj t with
          | none => rw [hg1] at hf; cases hf
          | some g1 =>
            rw [hg1] at hf
            cases hg2 : injL x.U (u :: r) with
            | none => rw [hg2] at hf; cases hf
            | some g2 =>
              rw [hg2] at hf
              simp only [Option.some.injEq] at hf
              subst hf
              have : ∀ (r : List Nat) (u : Nat) (g2 : PX x.X (u :: r) → List (TV x.X)) y, injL x.U (u :: r) = some g2 → (g2 y).length ≠ 0 := by
                intro r u g2 y hg
                cases r with
                | nil =>
                  simp only [injL] at hg
                  cases hi : x.U.inj u with
                  | none => rw [hi] at hg; cases hg
                  | some i => rw [hi] at hg; simp only [Option.some.injEq] at hg; subst hg; simp
                | cons w r =>
                  simp only [injL] at hg
                  cases hi : x.U.inj u with
                  | none => rw [hi] at hg; cases hg
                  | some i =>
                    rw [hi] at hg
                    cases hi2 : injL x.U (w :: r) with
                    | none => rw [hi2] at hg; cases hg
                    | some i2 => rw [hi2] at hg; simp only [Option.some.injEq] at hg; subst hg; simp
              have := this r u g2 y.2 hg2
              simp only [List.length_cons] at h3
              omega
        exact tup (by rw [hlen]; exact h2)

/-- WHAT IS TO BE SHOWN OF A FUNCTION -/
theorem fn_meets (ok : x.U.Ok x.C) {K : CallT} (hT : CallsOk x (callV x.C K)) {f : FuncId} {fn : Func} (hK : ∀ args h, K f args h = none) (hf : x.C.P.funcs[f]? = some fn) {dir : Bool} {ak : List AK} {rts : List Nat}
    (hok : okF (x.C.ann f) fn ak.length = true) {t : PX x.X (AK.tys ak) → Option (PX x.X rts)} (h : ∀ a r, t a = some r → ∃ n, fnT x dir f n fn ak rts a = some r) : Meets x.U (callV x.C K) f ⟨dir, ak, rts, t⟩ := by
  intro vs a r ds g hp hd ht hg
  obtain ⟨n, hn⟩ := h a r ht
  unfold fnT at hn
  split at hn
  · rename_i us hus
    unfold argsT at hus
    cases hi : injL x.U (AK.tys ak) with
    | none => rw [hi] at hus; cases hus
    | some fi =>
      rw [hi] at hus
      simp only [Option.some.injEq] at hus
      subst hus
      unfold prjA at hp
      split at hp
      · rename_i ws hws
        obtain ⟨es, hes⟩ := prjL_dv ok _ _ _ hp
        have h2 := injL_dv ok _ ws a fi hp hi
        rw [hes] at h2
        obtain ⟨ds', k1, k2, k3⟩ := argsG_dv ak vs ws (fi a) es hws hes h2
        rw [hd] at k2
        cases k2
        have r0 : Rel x.U [] ⟨[], []⟩ ⟨envT 0 (argsG ak (fi a)), [], []⟩ ⟨env0 0 (ds.map .d), [], []⟩ :=
          ⟨envT_ok 0 k1, ⟨fun _ _ => rfl, fun t e h => by simp [alook] at h, fun t e h => by simp [alook] at h, fun _ _ => rfl⟩, ⟨rfl, List.nodup_nil, fun j o h => by simp at h, fun i h => by simp at h, Nat.le_refl _, fun j i h1 h2 => by simp at h2, List.prefix_rfl⟩⟩
        obtain ⟨o', o, σ, e1, e2, e3, e4⟩ := evK_ok ok hT n (bodyOf fn) rfl hn [] _ r0
        have fin : ∀ {s : TSt x.X} {a' : St}, Rel x.U σ ⟨[], []⟩ s a' → resK x dir s fn.results.toList (fun l => prjL x.U rts l) = some r → (∀ vs', evRes x.C a' fn.results.toList = some vs' → evEnd x.C fn (some o) = some (resVal vs', a'.heap)) →
            ∃ d, (g r).dv x.U = some d ∧ callD (callV x.C K) (!dir) f ds = some d := by
          intro s a' rr hres hend
          obtain ⟨ws', vs', m1, m2, m3⟩ := resK_ok ok rr hres
          obtain ⟨d, m4, m5⟩ := res_ok ok m3 m1 hg
          refine ⟨d, m4, ?_⟩
          have hcv := callV_q (K := K) (r := (resVal vs', a'.heap)) n (hK _ _) hf (by rw [List.length_map, k3]; exact hok) e2 (hend vs' m2)
          unfold callD
          rw [hcv]
          rcases m5 with q1 | ⟨q1, q2⟩
          · rw [q1]
          · rw [q1]
            cases hrv : resVal vs' with
            | d r' => rw [hrv] at q2; simp only [Abs.freeze, Option.some.injEq] at q2; rw [q2]
            | _ => simp only [Bool.not_false, cond_true]; rw [← hrv]; exact q2
        cases e4 with
        | norm s1 a1 ht1 r1 => exact fin r1 e1 (fun vs' hv => by simp only [evEnd, hv])
        | ret s1 a1 ht1 r1 => exact fin r1 e1 (fun vs' hv => by simp only [evEnd, hv])
        | exit => simp [endK] at e1
      · cases hp
  · cases hn
end
end Go.Tev
namespace Go.Tev
open Go.Abs

/-! what is carried through a loop -/
inductive It where
  | val (slot t : Nat)
  | own (slot e : Nat)
  | box (slot : Nat) (ts : List Nat)
  | osl (slot j e : Nat)
  | mp (slot j : Nat)
  | ptr (slot j off : Nat)
  | fn (slot f : Nat)
  | harr (ap : Bool) (e : Nat)
  | hmap (k v : Nat)
  | hvar (ts : List Nat)
def It.T (X : Nat → Type) : It → Type
  | .val _ t => X t
  | .own _ e => List (X e)
  | .box _ ts => PX X ts
  | .osl _ _ _ => Nat
  | .mp _ _ => Unit
  | .ptr _ _ _ => Unit
  | .fn _ _ => Unit
  | .harr _ e => List (X e)
  | .hmap k v => List (X k × X v)
  | .hvar ts => PX X ts
def PI (X : Nat → Type) : List It → Type
  | [] => Unit
  | i :: r => i.T X × PI X r
def nHeap : List It → Nat
  | [] => 0
  | .harr _ _ :: r => nHeap r + 1
  | .hmap _ _ :: r => nHeap r + 1
  | .hvar _ :: r => nHeap r + 1
  | _ :: r => nHeap r

/-- an array's generation -/
def genOf {X : Nat → Type} : TObj X → Nat
  | .arr g _ _ _ => g
  | _ => 0
def gAt {X : Nat → Type} : List (TObj X) → Nat → Nat
  | [], _ => 0
  | o :: _, 0 => genOf o
  | _ :: r, j + 1 => gAt r j
section
variable {U : Uni}
/-- one of them, out of a state; m objects of the heap stay -/
def decVal (U : Uni) (s : TSt U.X) (n t : Nat) : Option (U.X t) := match alook s.env n, U.inj t with
    | some (.val v), some _ => U.prj t v
    | _, _ => none
def decOwn (U : Uni) (s : TSt U.X) (n e : Nat) : Option (List (U.X e)) := match alook s.env n with
    | some (.own e' xs) => castL e' e xs
    | _ => none
def decBox (U : Uni) (s : TSt U.X) (n : Nat) (ts : List Nat) : Option (PX U.X ts) := match alook s.env n, injL U ts with
    | some (.box cs), some _ => prjL U ts cs
    | _, _ => none
def decOsl (U : Uni) (m : Nat) (s : TSt U.X) (n j e : Nat) : Option Nat := match alook s.env n with
    | some (.val (.osl j' g' e' k)) => bif Nat.beq j j' && Nat.beq g' (gAt s.heap j') && Nat.beq e e' && Nat.blt j m then some k else none
    | _ => none
def decMp (U : Uni) (m : Nat) (s : TSt U.X) (n j : Nat) : Option Unit := match alook s.env n with
    | some (.val (.mp j')) => bif Nat.beq j j' && Nat.blt j m then some () else none
    | _ => none
def decPtr (U : Uni) (m : Nat) (s : TSt U.X) (n j off : Nat) : Option Unit := match alook s.env n with
    | some (.val (.ptr j' off')) => bif Nat.beq j j' && Nat.beq off off' && Nat.blt j m then some () else none
    | _ => none
def decFn (U : Uni) (s : TSt U.X) (n f : Nat) : Option Unit := match alook s.env n with
    | some (.val (.fn f' [])) => bif Nat.beq f f' then some () else none
    | _ => none
def decArr (U : Uni) (h : List (TObj U.X)) (ap : Bool) (e : Nat) : Option (List (U.X e)) := match h with
    | .arr _ ap' e' xs :: _ => bif ap == ap' then castL e' e xs else none
    | _ => none
def decMap (U : Uni) (h : List (TObj U.X)) (k v : Nat) : Option (List (U.X k × U.X v)) := match h with
    | .map k' v' es :: _ => match castX (X := fun n => List (U.X n × U.X v')) k' k es with
      | some e1 => castX (X := fun n => List (U.X k × U.X n)) v' v e1
      | none => none
    | _ => none
def decVar (U : Uni) (h : List (TObj U.X)) (ts : List Nat) : Option (PX U.X ts) := match h with
    | .var cs :: _ => (match injL U ts with
      | some _ => prjL U ts cs
      | none => none)
    | _ => none
def dec1 (U : Uni) (m : Nat) (s : TSt U.X) (h : List (TObj U.X)) : (i : It) → Option (i.T U.X)
  | .val n t => decVal U s n t
  | .own n e => decOwn U s n e
  | .box n ts => decBox U s n ts
  | .osl n j e => decOsl U m s n j e
  | .mp n j => decMp U m s n j
  | .ptr n j off => decPtr U m s n j off
  | .fn n f => decFn U s n f
  | .harr ap e => decArr U h ap e
  | .hmap k v => decMap U h k v
  | .hvar ts => decVar U h ts
def It.heap : It → Bool
  | .harr _ _ => true
  | .hmap _ _ => true
  | .hvar _ => true
  | _ => false
def decI (U : Uni) (m : Nat) (s : TSt U.X) : List (TObj U.X) → (its : List It) → Option (PI U.X its)
  | _, [] => some ()
  | h, i :: r => match dec1 U m s h i with
    | some y => match decI U m s (bif i.heap then h.drop 1 else h) r with
      | some ys => some (y, ys)
      | none => none
    | none => none
def enc1 (U : Uni) : (i : It) → i.T U.X → List (Nat × TSV U.X)
  | .val n t, y => match U.inj t with
    | some f => [(n, .val (f y))]
    | none => []
  | .own n e, xs => [(n, .own e xs)]
  | .box n ts, y => match injL U ts with
    | some f => [(n, .box (f y))]
    | none => []
  | .osl n j e, k => [(n, .val (.osl j 0 e k))]
  | .mp n j, _ => [(n, .val (.mp j))]
  | .ptr n j off, _ => [(n, .val (.ptr j off))]
  | .fn n f, _ => [(n, .val (.fn f []))]
  | .harr _ _, _ => []
  | .hmap _ _, _ => []
  | .hvar _, _ => []
def encH1 (U : Uni) : (i : It) → i.T U.X → List (TObj U.X)
  | .harr ap e, xs => [.arr 0 ap e xs]
  | .hmap k v, es => [.map k v es]
  | .hvar ts, y => match injL U ts with
    | some f => [.var (f y)]
    | none => []
  | _, _ => []
def encE (U : Uni) : (its : List It) → PI U.X its → List (Nat × TSV U.X)
  | [], _ => []
  | i :: r, y => enc1 U i y.1 ++ encE U r y.2
def encH (U : Uni) : (its : List It) → PI U.X its → List (TObj U.X)
  | [], _ => []
  | i :: r, y => encH1 U i y.1 ++ encH U r y.2
/-- of what stays, and of what turns -/
def encS (U : Uni) (cs its : List It) (c : PI U.X cs) (y : PI U.X its) : TSt U.X := ⟨encE U cs c ++ encE U its y, [], encH U its y⟩

structure LD where
  nr : Nat := 0
  cap : List It
  din : List It
  dex : List (Nat × List It)
  ret : List It
def LD.ex (D : LD) (i : Nat) : List It := match alook D.dex i with
  | some d => d
  | none => []
def loopT {σ R : Type} (g : σ → (σ → Option R) → Option R) : Nat → σ → Option R
  | 0, _ => none
  | n + 1, y => g y (loopT g n)
abbrev LG (U : Uni) (R : Type) (D : LD) : Type := PI U.X D.cap → ((i : Nat) → PI U.X (D.ex i) → Option R) → (PI U.X D.ret → Option R) → PI U.X D.din → (PI U.X D.din → Option R) → Option R
abbrev LRun (U : Uni) (R : Type) : Type := (TOut U.X → Option R) → TSt U.X → Option R
/-- a loop, told -/
def runL (U : Uni) {R : Type} (D : LD) (g : LG U R D) (n : Nat) : LRun U R := fun k s =>
  match bif Nat.ble D.nr (nHeap D.din) then decI U (nHeap D.din) s s.heap D.cap else none, decI U (nHeap D.din) s s.heap D.din with
  | some c, some y => loopT (g c (fun i z => k (.exit i (encS U D.cap (D.ex i) c z))) (fun z => k (.ret (encS U [] D.ret () z)))) n y
  | _, _ => none
def kontL (U : Uni) {R : Type} (D : LD) (kx : (i : Nat) → PI U.X D.cap → PI U.X (D.ex i) → Option R) (kr : PI U.X D.ret → Option R) (k1 : PI U.X D.cap → PI U.X D.din → Option R) : TOut U.X → Option R
  | .norm s => match bif Nat.ble D.nr (nHeap D.din) then decI U (nHeap D.din) s s.heap D.cap else none, decI U (nHeap D.din) s s.heap D.din with
    | some c, some y => k1 c y
    | _, _ => none
  | .exit i s => match bif Nat.ble D.nr (nHeap (D.ex i)) then decI U (nHeap (D.ex i)) s s.heap D.cap else none, decI U (nHeap (D.ex i)) s s.heap (D.ex i) with
    | some c, some y => kx i c y
    | _, _ => none
  | .ret s => match bif Nat.ble D.nr (nHeap D.ret) then decI U (nHeap D.ret) s s.heap D.ret else none with
    | some y => kr y
    | none => none
end
section
variable (x : Cx)
abbrev Sums (R : Type) := List (Nat × LRun x.U R)
def evL {R : Type} (fa : FA) (sums : Sums x R) : Nat → Code → (TOut x.X → Option R) → TSt x.X → Option R
  | _, .skip, k, s => k (.norm s)
  | _, .label _, k, s => k (.norm s)
  | _, .region _ ops d, k, s => evR x fa none d ops.toList ops.toList s fun s' => k (.norm { s' with tmp := [] })
  | id, .seq a b, k, s => evL fa sums id a (fun o => match o with
    | .norm s' => evL fa sums id b k s'
    | .exit i s' => k (.exit i s')
    | .ret s' => k (.ret s')) s
  | id, .cond c a b, k, s => match topA s [] c with
    | some (.b cb) => bif simple a && simple b then evS x fa (some cb) a s fun sA => evS x fa (some (!cb)) b s fun sB => merge x cb a b s sA sB fun s' => k (.norm s')
      else cond cb (evL fa sums id a k s) (evL fa sums id b k s)
    | _ => none
  | _, .block id c, k, s => evL fa sums id c (fun o => match o with
    | .norm s' => k (.norm { s' with env := trimT s.env s'.env })
    | .exit i s' => bif Nat.beq i id then k (.norm { s' with env := trimT s.env s'.env }) else k (.exit i s')
    | .ret s' => k (.ret s')) s
  | id, .loop c, k, s => match alook sums id with
    | some L => L k s
    | none => none
  | _, .exit id, k, s => k (.exit id s)
  | _, .ret, k, s => k (.ret s)
  | _, _, _, _ => none
def loopsOf : Nat → Code → List (Nat × Code)
  | id, .seq a b => loopsOf id a ++ loopsOf id b
  | id, .cond _ a b => loopsOf id a ++ loopsOf id b
  | _, .block id c => loopsOf id c
  | id, .loop c => (id, c) :: loopsOf id c
  | _, _ => []
def loopOf (c : Code) (id : Nat) : Code := match alook (loopsOf 0 c) id with
  | some b => b
  | none => .skip
def fnL (dir : Bool) (f : FuncId) (fn : Func) (ak : List AK) (rts : List Nat) (sums : Sums x (PX x.X rts)) (a : PX x.X (AK.tys ak)) : Option (PX x.X rts) :=
  match argsT x.U ak a with
  | some vs => evL x (x.C.ann f) sums 0 (bodyOf fn) (endK x dir fn rts) ⟨envT 0 vs, [], []⟩
  | none => none
end
end Go.Tev
namespace Go.Tev
open Go.Abs

section
variable {x : Cx} {ρ : List Rf} {h0 : Base} {s s' : TSt x.X} {a : St}

theorem take_get {ρ : List Rf} {m j : Nat} {i : Rf} (h : ρ[j]? = some i) (hj : j < m) : (ρ.take m)[j]? = some i := by
  rw [List.getElem?_take, if_pos hj, h]
/-- an array's generations begin anew -/
def upR {X : Nat → Type} : List (TObj X) → List Rf → List Rf
  | o :: H, i :: ρ => ⟨i.id, i.off + genOf o⟩ :: upR H ρ
  | _, _ => []
theorem upR_get {X : Nat → Type} : ∀ {H : List (TObj X)} {ρ : List Rf} {j : Nat} {i : Rf}, ρ.length = H.length → ρ[j]? = some i → (upR H ρ)[j]? = some ⟨i.id, i.off + gAt H j⟩
  | [], [], j, i, _, h => by simp at h
  | o :: H, r :: ρ, 0, i, hl, h => by
    simp only [List.getElem?_cons_zero, Option.some.injEq] at h
    subst h; rfl
  | o :: H, r :: ρ, j + 1, i, hl, h => by
    simp only [upR, List.getElem?_cons_succ, gAt] at h ⊢
    exact upR_get (by simpa using hl) h
  | [], _ :: _, _, _, hl, _ => by simp at hl
  | _ :: _, [], _, _, hl, _ => by simp at hl
theorem upR_ids {X : Nat → Type} : ∀ {H : List (TObj X)} {ρ : List Rf}, ρ.length = H.length → (upR H ρ).map Rf.id = ρ.map Rf.id
  | [], [], _ => rfl
  | o :: H, r :: ρ, hl => by
    simp only [upR, List.map_cons, upR_ids (H := H) (ρ := ρ) (by simpa using hl)]
  | [], _ :: _, hl => by simp at hl
  | _ :: _, [], hl => by simp at hl
theorem gAt_get {X : Nat → Type} : ∀ {H : List (TObj X)} {j : Nat} {o : TObj X}, H[j]? = some o → gAt H j = genOf o
  | o :: H, 0, p, h => by simp only [List.getElem?_cons_zero, Option.some.injEq] at h; subst h; rfl
  | o :: H, j + 1, p, h => by simp only [gAt]; exact gAt_get (by simpa using h)
  | [], _, _, h => by simp at h
theorem SRel.data {v w : TV x.X} {d : DV} (h1 : v.dv x.U = some d) (h2 : w.dv x.U = some d) {ρ σ : List Rf} {u : SV} (h : SRel x.U ρ (.val v) u) : SRel x.U σ (.val w) u := by
  cases h with
  | val _ u h => rw [h.isD h1]; exact .val _ _ (.d _ _ h2)
theorem dec1_ent (ok : x.U.Ok x.C) {m : Nat} {h : List (TObj x.X)} {i : It} {y : i.T x.X} (hd : dec1 x.U m s h i = some y) : ∀ p ∈ enc1 x.U i y, ∃ w, alook s.env p.1 = some w ∧ ∀ ρ u, ρ.length = s.heap.length → SRel x.U ρ w u → SRel x.U ((upR s.heap ρ).take m) p.2 u := by
  intro p hp
  cases i with
  | val n t =>
    change x.U.X t at y
    change decVal x.U s n t = some y at hd
    unfold decVal at hd
    split at hd
    · rename_i v f hv hf
      simp only [enc1, hf, List.mem_singleton] at hp
      subst hp
      exact ⟨_, hv, fun ρ u hl hu => hu.data (ok.prj _ _ _ hd) (ok.inj _ _ _ hf)⟩
    · cases hd
  | own n e =>
    change List (x.U.X e) at y
    change decOwn x.U s n e = some y at hd
    unfold decOwn at hd
    split at hd
    · rename_i e' xs hv
      obtain ⟨he, hc⟩ := castL_ok hd
      subst he
      cases hc
      simp only [enc1, List.mem_singleton] at hp
      subst hp
      exact ⟨_, hv, fun ρ u hl hu => by cases hu; exact .own _ _⟩
    · cases hd
  | box n ts =>
    change PX x.U.X ts at y
    change decBox x.U s n ts = some y at hd
    unfold decBox at hd
    split at hd
    · rename_i cs f hv hf
      simp only [enc1, hf, List.mem_singleton] at hp
      subst hp
      refine ⟨_, hv, fun ρ u hl hu => ?_⟩
      cases hu with
      | box _ ds hds => exact .box _ _ (by rw [injL_dv ok ts cs y f hd hf, hds])
    · cases hd
  | osl n j e =>
    change Nat at y
    change decOsl x.U m s n j e = some y at hd
    unfold decOsl at hd
    split at hd
    · rename_i j' g' e' k hv
      obtain ⟨hb, hd2⟩ := bif_some hd
      simp only [Bool.and_eq_true, Nat.beq_eq] at hb
      obtain ⟨⟨⟨rfl, hgen⟩, rfl⟩, hm⟩ := hb
      cases hd2
      simp only [enc1, List.mem_singleton] at hp
      subst hp
      refine ⟨_, hv, fun ρ u hl hu => ?_⟩
      cases hu with
      | val _ u hu =>
        cases hu with
        | d v d hd => simp [TV.dv] at hd
        | osl _ i _ _ _ hj =>
          have := VRel.osl (U := x.U) _ _ 0 e y (take_get (upR_get hl hj) (by simpa [Nat.blt_eq] using hm))
          rw [hgen]
          refine .val _ _ ?_
          rw [show 0 + (i.off + gAt s.heap j) = gAt s.heap j + i.off from by omega] at this
          exact this
    · cases hd
  | mp n j =>
    change Unit at y
    change decMp x.U m s n j = some y at hd
    unfold decMp at hd
    split at hd
    · rename_i j' hv
      obtain ⟨hb, hd2⟩ := bif_some hd
      simp only [Bool.and_eq_true, Nat.beq_eq] at hb
      obtain ⟨rfl, hm⟩ := hb
      simp only [enc1, List.mem_singleton] at hp
      subst hp
      refine ⟨_, hv, fun ρ u hl hu => ?_⟩
      cases hu with
      | val _ u hu =>
        cases hu with
        | d v d hd => simp [TV.dv] at hd
        | mp _ i hj => exact .val _ _ (.mp _ ⟨i.id, i.off + gAt s.heap _⟩ (take_get (upR_get hl hj) (by simpa [Nat.blt_eq] using hm)))
    · cases hd
  | ptr n j off =>
    change Unit at y
    change decPtr x.U m s n j off = some y at hd
    unfold decPtr at hd
    split at hd
    · rename_i j' off' hv
      obtain ⟨hb, hd2⟩ := bif_some hd
      simp only [Bool.and_eq_true, Nat.beq_eq] at hb
      obtain ⟨⟨rfl, rfl⟩, hm⟩ := hb
      simp only [enc1, List.mem_singleton] at hp
      subst hp
      refine ⟨_, hv, fun ρ u hl hu => ?_⟩
      cases hu with
      | val _ u hu =>
        cases hu with
        | d v d hd => simp [TV.dv] at hd
        | ptr _ i _ hj => exact .val _ _ (.ptr _ ⟨i.id, i.off + gAt s.heap _⟩ _ (take_get (upR_get hl hj) (by simpa [Nat.blt_eq] using hm)))
    · cases hd
  | fn n f =>
    change Unit at y
    change decFn x.U s n f = some y at hd
    unfold decFn at hd
    split at hd
    · rename_i f' hv
      obtain ⟨hb, hd2⟩ := bif_some hd
      rw [Nat.beq_eq] at hb
      subst hb
      simp only [enc1, List.mem_singleton] at hp
      subst hp
      exact ⟨_, hv, fun ρ u hl hu => hu.data rfl rfl⟩
    · cases hd
  | harr => simp [enc1] at hp
  | hmap => simp [enc1] at hp
  | hvar => simp [enc1] at hp
theorem decI_ent (ok : x.U.Ok x.C) {m : Nat} : ∀ {its : List It} {h : List (TObj x.X)} {y : PI x.X its}, decI x.U m s h its = some y → ∀ p ∈ encE x.U its y, ∃ w, alook s.env p.1 = some w ∧ ∀ ρ u, ρ.length = s.heap.length → SRel x.U ρ w u → SRel x.U ((upR s.heap ρ).take m) p.2 u
  | [], h, y, hd, p, hp => by simp [encE] at hp
  | i :: r, h, y, hd, p, hp => by
    simp only [decI] at hd
    split at hd
    · rename_i y1 h1
      split at hd
      · rename_i ys h2
        cases hd
        simp only [encE, List.mem_append] at hp
        rcases hp with hp | hp
        · exact dec1_ent ok h1 p hp
        · exact decI_ent ok h2 p hp
      · cases hd
    · cases hd
theorem dec1_obj (ok : x.U.Ok x.C) {m : Nat} {h : List (TObj x.X)} {i : It} {y : i.T x.X} (hd : dec1 x.U m s h i = some y) : match i.heap with
    | true => ∃ o o' r, h = o :: r ∧ encH1 x.U i y = [o'] ∧ ∀ ρ σ d w, ORel x.U ρ d o w → ORel x.U σ (d + genOf o) o' w
    | false => encH1 x.U i y = [] := by
  cases i with
  | harr ap e =>
    change List (x.U.X e) at y
    change decArr x.U h ap e = some y at hd
    unfold decArr at hd
    split at hd
    · rename_i g' ap' e' xs r
      obtain ⟨hb, hd2⟩ := bif_some hd
      simp only [beq_iff_eq] at hb
      subst hb
      obtain ⟨he, hc⟩ := castL_ok hd2
      subst he
      cases hc
      refine ⟨_, _, r, rfl, rfl, fun ρ σ d w hw => ?_⟩
      cases hw
      have := ORel.arr (U := x.U) (ρ := σ) (d + g') 0 ap e' xs
      rw [show 0 + (d + g') = g' + d from by omega] at this
      exact this
    · cases hd
  | hmap k v =>
    change List (x.U.X k × x.U.X v) at y
    change decMap x.U h k v = some y at hd
    unfold decMap at hd
    split at hd
    · rename_i k' v' es r
      split at hd
      · rename_i e1 h1
        obtain ⟨he, h1⟩ := castX_ok h1
        subst he
        cases h1
        obtain ⟨he, h2⟩ := castX_ok hd
        subst he
        cases h2
        exact ⟨_, _, r, rfl, rfl, fun ρ σ d w hw => by cases hw; exact .map _ _ _ _⟩
      · cases hd
    · cases hd
  | hvar ts =>
    change PX x.U.X ts at y
    change decVar x.U h ts = some y at hd
    unfold decVar at hd
    split at hd
    · rename_i cs r
      split at hd
      · rename_i f hf
        refine ⟨_, _, r, rfl, by simp only [encH1, hf]; rfl, fun ρ σ d w hw => ?_⟩
        cases hw with
        | var _ as has =>
          obtain ⟨ds, h1⟩ := prjL_dv ok _ _ _ hd
          have := has.dv h1
          subst this
          exact .var _ _ _ (VRels.of_dvL (by rw [injL_dv ok ts cs y f hd hf, h1]))
      · cases hd
    · cases hd
  | _ => rfl
theorem decI_obj (ok : x.U.Ok x.C) {m : Nat} : ∀ {its : List It} {h : List (TObj x.X)} {y : PI x.X its}, decI x.U m s h its = some y →
    (encH x.U its y).length = nHeap its ∧ nHeap its ≤ h.length ∧ ∀ (j : Nat) o', (encH x.U its y)[j]? = some o' → ∃ o, h[j]? = some o ∧ ∀ ρ σ d w, ORel x.U ρ d o w → ORel x.U σ (d + genOf o) o' w
  | [], h, y, hd => ⟨rfl, Nat.zero_le _, fun j o' hj => by simp [encH] at hj⟩
  | i :: r, h, y, hd => by
    simp only [decI] at hd
    split at hd
    · rename_i y1 h1
      split at hd
      · rename_i ys h2
        cases hd
        have ho := dec1_obj ok h1
        obtain ⟨k1, k2, k3⟩ := decI_obj ok h2
        cases hh : i.heap with
        | true =>
          rw [hh] at ho k2 k3
          obtain ⟨o, o', r', rfl, e1, e2⟩ := ho
          simp only [cond_true, List.drop_succ_cons, List.drop_zero] at k2 k3
          have hn : nHeap (i :: r) = nHeap r + 1 := by cases i <;> simp [It.heap] at hh <;> rfl
          refine ⟨by simp only [encH, e1, List.cons_append, List.nil_append, List.length_cons, k1, hn], by simp [hn]; omega, fun j p hj => ?_⟩
          simp only [encH, e1, List.cons_append, List.nil_append] at hj
          cases j with
          | zero => simp only [List.getElem?_cons_zero, Option.some.injEq] at hj; subst hj; exact ⟨o, rfl, e2⟩
          | succ j => exact k3 j p (by simpa using hj)
        | false =>
          rw [hh] at ho k2 k3
          simp only [cond_false] at k2 k3
          simp only at ho
          have hn : nHeap (i :: r) = nHeap r := by cases i <;> simp [It.heap] at hh <;> rfl
          rw [hn]
          simp only [encH, ho, List.nil_append]
          exact ⟨k1, k2, k3⟩
      · cases hd
    · cases hd
theorem enc_rel (ok : x.U.Ok x.C) {cs its : List It} {c : PI x.X cs} {y : PI x.X its} (h1 : decI x.U (nHeap its) s s.heap cs = some c) (h2 : decI x.U (nHeap its) s s.heap its = some y) (r : Rel x.U ρ h0 s a) (ht : s.tmp = []) (hnr : h0.nr ≤ nHeap its) :
    Rel x.U ((upR s.heap ρ).take (nHeap its)) h0 (encS x.U cs its c y) a := by
  have hl := r.heap.len
  have hids := upR_ids hl
  obtain ⟨k1, k2, k3⟩ := decI_obj ok h2
  refine ⟨fun t v hv => ?_, ?_, ?_⟩
  · have hm := alook_mem hv
    rcases List.mem_append.1 hm with hm | hm
    · obtain ⟨w, e1, e2⟩ := decI_ent ok h1 _ hm
      obtain ⟨u, e3, e4⟩ := r.env _ _ e1
      exact ⟨u, e3, e2 _ _ hl e4⟩
    · obtain ⟨w, e1, e2⟩ := decI_ent ok h2 _ hm
      obtain ⟨u, e3, e4⟩ := r.env _ _ e1
      exact ⟨u, e3, e2 _ _ hl e4⟩
  · have := r.tmp
    refine ⟨fun t _ => r.tmp.no t (by rw [ht]; rfl), fun t e h => by simp [encS, alook] at h, fun t e h => by simp [encS, alook] at h, fun k hk => r.tmp.nosp k (by rw [ht]; rfl)⟩
  · have hll : (upR s.heap ρ).length = s.heap.length := by
      have := congrArg List.length hids
      simpa [hl] using this
    refine ⟨?_, ?_, fun j o' hj => ?_, fun i hi hm => ?_, r.heap.grow, fun j i hj hi => ?_, ?_⟩
    · simp only [encS, List.length_take, k1]; omega
    · rw [List.map_take, hids]
      exact (List.take_sublist _ _).nodup r.heap.nd
    · obtain ⟨o, e1, e2⟩ := k3 j o' hj
      obtain ⟨i, ao, e3, e4, e5⟩ := r.heap.obj j o e1
      have hjl : j < nHeap its := by rw [← k1]; exact (List.getElem?_eq_some_iff.1 hj).1
      exact ⟨_, ao, take_get (upR_get hl e3) hjl, e4, by have := e2 _ ((upR s.heap ρ).take (nHeap its)) _ _ e5; rw [← gAt_get e1] at this; exact this⟩
    · refine r.heap.frame i hi fun hm2 => ?_
      obtain ⟨f, hf, rfl⟩ := List.mem_map.1 hm2
      obtain ⟨j, hj, rfl⟩ := List.mem_iff_getElem.1 hf
      rcases Nat.lt_or_ge j (nHeap its) with hlt | hge
      · exact hm (List.mem_map.2 ⟨_, List.mem_iff_getElem?.2 ⟨j, take_get (upR_get hl (List.getElem?_eq_getElem hj)) hlt⟩, rfl⟩)
      · have := r.heap.fresh j _ (Nat.le_trans hnr hge) (List.getElem?_eq_getElem hj)
        omega
    · rw [List.getElem?_take] at hi
      split at hi
      · have hjl : j < ρ.length := by
          have := (List.getElem?_eq_some_iff.1 hi).1
          rw [hll, ← hl] at this; exact this
        have e := upR_get hl (List.getElem?_eq_getElem hjl)
        rw [hi] at e
        cases e
        exact r.heap.fresh j ρ[j] hj (List.getElem?_eq_getElem hjl)
      · cases hi
    · rw [List.map_take, hids]
      obtain ⟨t, ht⟩ := r.heap.pre
      rw [← ht, List.take_append]
      rw [List.take_of_length_le hnr]
      exact List.prefix_append _ _

/-- what is to be shown of a loop -/
def Law (x : Cx) (h0 : Base) (call : CallT) (fa : FA) (n : Nat) (c : Code) {R : Type} (L : LRun x.U R) : Prop := ∀ (k : TOut x.X → Option R) (s : TSt x.X) (z : R), s.tmp = [] → L k s = some z → ∀ ρ a, Rel x.U ρ h0 s a →
  ∃ o' o σ, k o' = some z ∧ iter (evQ x.C call fa n c) a.env n a = some o ∧ TORel x σ h0 o' o

theorem evL_ok (ok : x.U.Ok x.C) {call : CallT} (hT : CallsOk x call) {R : Type} {fa : FA} (n : Nat) {sums : Sums x R} (c : Code) : ∀ {id : Nat}, (∀ i c' L, (i, c') ∈ loopsOf id c → alook sums i = some L → Law x h0 call fa n c' L) →
    ∀ {s : TSt x.X} {k : TOut x.X → Option R} {z : R}, s.tmp = [] → evL x fa sums id c k s = some z → ∀ ρ a, Rel x.U ρ h0 s a → ∃ o' o σ, k o' = some z ∧ evQ x.C call fa n c a = some o ∧ TORel x σ h0 o' o := by
  induction c with
  | skip => intro id hS s k z ht h ρ a r; exact ⟨_, _, ρ, h, rfl, .norm _ _ ht r⟩
  | label l => intro id hS s k z ht h ρ a r; exact ⟨_, _, ρ, h, rfl, .norm _ _ ht r⟩
  | exit i => intro id hS s k z ht h ρ a r; exact ⟨_, _, ρ, h, rfl, .exit _ _ _ ht r⟩
  | ret => intro id hS s k z ht h ρ a r; exact ⟨_, _, ρ, h, rfl, .ret _ _ ht r⟩
  | region i ops d =>
    intro id hS s k z ht h ρ a r
    simp only [evL] at h
    obtain ⟨s', h1, h2⟩ := evR_ok (h0 := h0) ok hT h
    obtain ⟨t1, _, _, h3⟩ := region_sim (id := i) ok n h2
    obtain ⟨σ, a', e1, e2, e3⟩ := h3 (by simp) ρ a r
    exact ⟨_, _, σ, h1, e2, .norm _ _ t1 e3⟩
  | seq p q ihp ihq =>
    intro id hS s k z ht h ρ a r
    simp only [evL] at h
    obtain ⟨o', o, σ, h1, h2, h4⟩ := ihp (fun i c' L hm => hS i c' L (by simp only [loopsOf, List.mem_append]; exact .inl hm)) ht h ρ a r
    cases h4 with
    | norm s1 a1 ht1 r1 =>
      simp only at h1
      obtain ⟨o2', o2, τ, k1, k2, k4⟩ := ihq (fun i c' L hm => hS i c' L (by simp only [loopsOf, List.mem_append]; exact .inr hm)) ht1 h1 σ a1 r1
      exact ⟨o2', o2, τ, k1, by simp only [evQ, h2, k2], k4⟩
    | exit i s1 a1 ht1 r1 => exact ⟨_, _, σ, h1, by simp only [evQ, h2], .exit _ _ _ ht1 r1⟩
    | ret s1 a1 ht1 r1 => exact ⟨_, _, σ, h1, by simp only [evQ, h2], .ret _ _ ht1 r1⟩
  | cond c p q ihp ihq =>
    intro id hS s k z ht h ρ a r
    simp only [evL] at h
    split at h
    · rename_i cb hcb
      cases hs : (simple p && simple q) with
      | true =>
        rw [hs] at h
        simp only [cond_true] at h
        have h' : evS x fa none (.cond c p q) s (fun s' => k (.norm s')) = some z := by
          simp only [evS, hcb, gand]
          exact h
        obtain ⟨s', h1, t1, _, _, h3⟩ := evS_ok (h0 := h0) ok hT n (.cond c p q) ht h'
        obtain ⟨σ, a', e1, e2, e3⟩ := h3 (by simp) ρ a r
        exact ⟨_, _, σ, h1, e2, .norm _ _ t1 e3⟩
      | false =>
        rw [hs] at h
        simp only [cond_false] at h
        obtain ⟨_, hc, _⟩ := topD_ok r (holds_nil _) hcb (d := .bool cb) rfl
        cases cb with
        | true =>
          obtain ⟨o', o, σ, h1, h2, h4⟩ := ihp (fun i c' L hm => hS i c' L (by simp only [loopsOf, List.mem_append]; exact .inl hm)) ht h ρ a r
          exact ⟨o', o, σ, h1, by simp only [evQ, hc, cond_true, h2], h4⟩
        | false =>
          obtain ⟨o', o, σ, h1, h2, h4⟩ := ihq (fun i c' L hm => hS i c' L (by simp only [loopsOf, List.mem_append]; exact .inr hm)) ht h ρ a r
          exact ⟨o', o, σ, h1, by simp only [evQ, hc, cond_false, h2], h4⟩
    · cases h
  | block i c ih =>
    intro id hS s k z ht h ρ a r
    simp only [evL] at h
    obtain ⟨o', o, σ, h1, h2, h4⟩ := ih (fun j c' L hm => hS j c' L (by simp only [loopsOf]; exact hm)) ht h ρ a r
    cases h4 with
    | norm s1 a1 ht1 r1 =>
      exact ⟨_, _, σ, h1, by simp only [evQ, h2], .norm _ _ ht1 (Rel.trimmed r.env r1)⟩
    | exit j s1 a1 ht1 r1 =>
      simp only at h1
      cases hb : Nat.beq j i with
      | true =>
        rw [hb] at h1
        exact ⟨_, _, σ, h1, by simp only [evQ, h2, hb, cond_true], .norm _ _ ht1 (Rel.trimmed r.env r1)⟩
      | false =>
        rw [hb] at h1
        exact ⟨_, _, σ, h1, by simp only [evQ, h2, hb, cond_false], .exit _ _ _ ht1 r1⟩
    | ret s1 a1 ht1 r1 => exact ⟨_, _, σ, h1, by simp only [evQ, h2], .ret _ _ ht1 r1⟩
  | loop c ih =>
    intro id hS s k z ht h ρ a r
    simp only [evL] at h
    split at h
    · rename_i L hL
      obtain ⟨o', o, σ, h1, h2, h3⟩ := hS id c L (by simp [loopsOf]) hL k s z ht h ρ a r
      exact ⟨o', o, σ, h1, h2, h3⟩
    · cases h
  | _ => intro id hS s k z ht h; simp [evL] at h
def slotsOf : List It → List Nat
  | [] => []
  | .val n _ :: r => n :: slotsOf r
  | .own n _ :: r => n :: slotsOf r
  | .box n _ :: r => n :: slotsOf r
  | .osl n _ _ :: r => n :: slotsOf r
  | .mp n _ :: r => n :: slotsOf r
  | .ptr n _ _ :: r => n :: slotsOf r
  | .fn n _ :: r => n :: slotsOf r
  | _ :: r => slotsOf r
theorem encE_slots : ∀ {its : List It} {y : PI x.X its} {p : Nat × TSV x.X}, p ∈ encE x.U its y → p.1 ∈ slotsOf its
  | [], y, p, hp => by simp [encE] at hp
  | i :: r, y, p, hp => by
    simp only [encE, List.mem_append] at hp
    rcases hp with hp | hp
    · cases i <;> simp only [enc1] at hp <;> (try (simp at hp; done)) <;> (try (simp only [List.mem_singleton] at hp; subst hp; simp [slotsOf]; done))
      · split at hp
        · simp only [List.mem_singleton] at hp; subst hp; simp [slotsOf]
        · simp at hp
      · split at hp
        · simp only [List.mem_singleton] at hp; subst hp; simp [slotsOf]
        · simp at hp
    · have := encE_slots hp
      cases i <;> simp [slotsOf, this]
theorem dec_slots {m : Nat} : ∀ {its : List It} {h : List (TObj x.X)} {y : PI x.X its}, decI x.U m s h its = some y → ∀ t ∈ slotsOf its, (alook s.env t).isSome = true
  | [], h, y, hd, t, ht => by simp [slotsOf] at ht
  | i :: r, h, y, hd, t, ht => by
    simp only [decI] at hd
    split at hd
    · rename_i y1 h1
      split at hd
      · rename_i ys h2
        have ih := dec_slots h2
        have one : ∀ {α : Type} {n : Nat} {o : Option (TSV x.X)} {f : TSV x.X → Option α} {z : α}, (match o with | some v => f v | none => none) = some z → o.isSome = true := by
          intro α n o f z h
          cases o with
          | none => cases h
          | some v => rfl
        have hs : ∀ n, n ∈ slotsOf [i] → (alook s.env n).isSome = true := by
          intro n hn
          cases hv : alook s.env n with
          | some v => rfl
          | none =>
            cases i <;> simp only [slotsOf, List.mem_singleton, List.not_mem_nil] at hn <;> subst hn <;>
              simp only [dec1, decVal, decOwn, decBox, decOsl, decMp, decPtr, decFn, hv] at h1 <;> cases h1
        cases i <;> simp only [slotsOf, List.mem_cons] at ht <;> (try (exact ih t ht)) <;> (rcases ht with rfl | ht) <;> (first | exact ih t ht | exact hs _ (by simp [slotsOf]))
      · cases hd
    · cases hd
theorem law_of (ok : x.U.Ok x.C) {call : CallT} (hT : CallsOk x call) {R : Type} {fa : FA} {n : Nat} {sums : Sums x R} {id : Nat} {body : Code} (hS : ∀ i c' L, (i, c') ∈ loopsOf id body → alook sums i = some L → Law x h0 call fa n c' L)
    (D : LD) (hnr : h0.nr ≤ D.nr) (g : LG x.U R D) (hg : ∀ c kx kr y k1, evL x fa sums id body (kontL x.U D kx kr k1) (encS x.U D.cap D.din c y) = g c (fun i z => kx i c z) kr y (fun y' => k1 c y')) : Law x h0 call fa n body (runL x.U D g n) := by
  intro k s z ht h ρ a r
  unfold runL at h
  split at h
  · rename_i c y hc hy
    obtain ⟨hb, hc⟩ := bif_some hc
    have hnd : h0.nr ≤ nHeap D.din := Nat.le_trans hnr (Nat.le_of_ble_eq_true hb)
    have key : ∀ (e0 : List (Nat × SV)), (∀ t ∈ slotsOf D.cap ++ slotsOf D.din, (alook e0 t).isSome = true) → ∀ (m : Nat) (c : PI x.X D.cap) (y : PI x.X D.din) ρ a,
        loopT (g c (fun i z => k (.exit i (encS x.U D.cap (D.ex i) c z))) (fun z => k (.ret (encS x.U [] D.ret () z)))) m y = some z → Rel x.U ρ h0 (encS x.U D.cap D.din c y) a →
        ∃ o' o σ, k o' = some z ∧ iter (evQ x.C call fa n body) e0 m a = some o ∧ TORel x σ h0 o' o := by
      intro e0 he0 m
      induction m with
      | zero => intro c y ρ a h; cases h
      | succ m ih =>
        intro c y ρ a h r
        simp only [loopT] at h
        have hgg := hg c (fun i c' z => k (.exit i (encS x.U D.cap (D.ex i) c' z))) (fun z => k (.ret (encS x.U [] D.ret () z))) y
          (fun c' y' => loopT (g c' (fun i z => k (.exit i (encS x.U D.cap (D.ex i) c' z))) (fun z => k (.ret (encS x.U [] D.ret () z)))) m y')
        have h' := hgg.trans h
        obtain ⟨o', o, σ, h1, h2, h3⟩ := evL_ok ok hT n body hS rfl h' ρ a r
        cases h3 with
        | norm s1 a1 ht1 r1 =>
          simp only [kontL] at h1
          split at h1
          · rename_i c' y' hc' hy'
            obtain ⟨_, hc'⟩ := bif_some hc'
            have r2 := enc_rel ok hc' hy' r1 ht1 hnd
            have r3 : Rel x.U ((upR s1.heap σ).take (nHeap D.din)) h0 (encS x.U D.cap D.din c' y') (a1.trim e0) := by
              refine ⟨fun t v hv => ?_, r2.tmp, r2.heap⟩
              obtain ⟨w, e1, e2⟩ := r2.env t v hv
              refine ⟨w, ?_, e2⟩
              simp only [St.trim]
              rw [alook_trimE _ _ _ (he0 t ?_), e1]
              have hm := alook_mem hv
              rcases List.mem_append.1 hm with hm | hm
              · exact List.mem_append_left _ (encE_slots hm)
              · exact List.mem_append_right _ (encE_slots hm)
            obtain ⟨o2', o2, τ, k1, k2, k3⟩ := ih c' y' _ _ h1 r3
            exact ⟨o2', o2, τ, k1, by simp only [iter, h2, k2], k3⟩
          · cases h1
        | exit i s1 a1 ht1 r1 =>
          simp only [kontL] at h1
          split at h1
          · rename_i c' y' hc' hy'
            obtain ⟨hb2, hc'⟩ := bif_some hc'
            exact ⟨_, _, _, h1, by simp only [iter, h2], .exit _ _ _ rfl (enc_rel ok hc' hy' r1 ht1 (Nat.le_trans hnr (Nat.le_of_ble_eq_true hb2)))⟩
          · cases h1
        | ret s1 a1 ht1 r1 =>
          simp only [kontL] at h1
          split at h1
          · rename_i y' hy'
            obtain ⟨hb2, hy'⟩ := bif_some hy'
            exact ⟨_, _, _, h1, by simp only [iter, h2], .ret _ _ rfl (enc_rel (cs := []) (c := ()) ok rfl hy' r1 ht1 (Nat.le_trans hnr (Nat.le_of_ble_eq_true hb2)))⟩
          · cases h1
    have hcov : ∀ t ∈ slotsOf D.cap ++ slotsOf D.din, (alook a.env t).isSome = true := by
      intro t hm
      have : (alook s.env t).isSome = true := by
        rcases List.mem_append.1 hm with hm | hm
        · exact dec_slots hc t hm
        · exact dec_slots hy t hm
      obtain ⟨v, hv⟩ := Option.isSome_iff_exists.1 this
      obtain ⟨w, hw, _⟩ := r.env t v hv
      rw [hw]; rfl
    exact key a.env hcov n c y _ a h (enc_rel ok hc hy r ht hnd)
  · cases h

/-- a function with loops -/
theorem fnL_meets (ok : x.U.Ok x.C) {K : CallT} (hT : CallsOk x (callV x.C K)) {f : FuncId} {fn : Func} (hK : ∀ args h, K f args h = none) (hf : x.C.P.funcs[f]? = some fn) {dir : Bool} {ak : List AK} {rts : List Nat}
    (hok : okF (x.C.ann f) fn ak.length = true) {t : PX x.X (AK.tys ak) → Option (PX x.X rts)}
    (h : ∀ a r, t a = some r → ∃ (n : Nat) (sums : Sums x (PX x.X rts)), (∀ i c' L, (i, c') ∈ loopsOf 0 (bodyOf fn) → alook sums i = some L → Law x ⟨[], []⟩ (callV x.C K) (x.C.ann f) n c' L) ∧ fnL x dir f fn ak rts sums a = some r) :
    Meets x.U (callV x.C K) f ⟨dir, ak, rts, t⟩ := by
  intro vs a r ds g hp hd ht hg
  obtain ⟨n, sums, hS, hn⟩ := h a r ht
  unfold fnL at hn
  split at hn
  · rename_i us hus
    unfold argsT at hus
    cases hi : injL x.U (AK.tys ak) with
    | none => rw [hi] at hus; cases hus
    | some fi =>
      rw [hi] at hus
      simp only [Option.some.injEq] at hus
      subst hus
      unfold prjA at hp
      split at hp
      · rename_i ws hws
        obtain ⟨es, hes⟩ := prjL_dv ok _ _ _ hp
        have h2 := injL_dv ok _ ws a fi hp hi
        rw [hes] at h2
        obtain ⟨ds', k1, k2, k3⟩ := argsG_dv ak vs ws (fi a) es hws hes h2
        rw [hd] at k2
        cases k2
        have r0 : Rel x.U [] ⟨[], []⟩ ⟨envT 0 (argsG ak (fi a)), [], []⟩ ⟨env0 0 (ds.map .d), [], []⟩ :=
          ⟨envT_ok 0 k1, ⟨fun _ _ => rfl, fun t e h => by simp [alook] at h, fun t e h => by simp [alook] at h, fun _ _ => rfl⟩, ⟨rfl, List.nodup_nil, fun j o h => by simp at h, fun i h => by simp at h, Nat.le_refl _, fun j i h1 h2 => by simp at h2, List.prefix_rfl⟩⟩
        obtain ⟨o', o, σ, e1, e2, e4⟩ := evL_ok ok hT n (bodyOf fn) hS rfl hn [] _ r0
        have fin : ∀ {s : TSt x.X} {a' : St}, Rel x.U σ ⟨[], []⟩ s a' → resK x dir s fn.results.toList (fun l => prjL x.U rts l) = some r → (∀ vs', evRes x.C a' fn.results.toList = some vs' → evEnd x.C fn (some o) = some (resVal vs', a'.heap)) →
            ∃ d, (g r).dv x.U = some d ∧ callD (callV x.C K) (!dir) f ds = some d := by
          intro s a' rr hres hend
          obtain ⟨ws', vs', m1, m2, m3⟩ := resK_ok ok rr hres
          obtain ⟨d, m4, m5⟩ := res_ok ok m3 m1 hg
          refine ⟨d, m4, ?_⟩
          have hcv := callV_q (K := K) (r := (resVal vs', a'.heap)) n (hK _ _) hf (by rw [List.length_map, k3]; exact hok) e2 (hend vs' m2)
          unfold callD
          rw [hcv]
          rcases m5 with q1 | ⟨q1, q2⟩
          · rw [q1]
          · rw [q1]
            cases hrv : resVal vs' with
            | d r' => rw [hrv] at q2; simp only [Abs.freeze, Option.some.injEq] at q2; rw [q2]
            | _ => simp only [Bool.not_false, cond_true]; rw [← hrv]; exact q2
        cases e4 with
        | norm s1 a1 ht1 r1 => exact fin r1 e1 (fun vs' hv => by simp only [evEnd, hv])
        | ret s1 a1 ht1 r1 => exact fin r1 e1 (fun vs' hv => by simp only [evEnd, hv])
        | exit => simp [endK] at e1
      · cases hp
  · cases hn
/-- loops by their number -/
theorem laws_of {call : CallT} {fa : FA} {n : Nat} {R : Type} {sums : Sums x R} {l : List (Nat × Code)} (hnd : (l.map Prod.fst).Nodup) (h : ∀ i L, alook sums i = some L → ∃ c, alook l i = some c ∧ Law x h0 call fa n c L) :
    ∀ i c' L, (i, c') ∈ l → alook sums i = some L → Law x h0 call fa n c' L := by
  intro i c' L hm hL
  obtain ⟨c, h1, h2⟩ := h i L hL
  have : ∀ {l : List (Nat × Code)}, (l.map Prod.fst).Nodup → (i, c') ∈ l → alook l i = some c' := by
    intro l
    induction l with
    | nil => intro _ h; simp at h
    | cons p l ih =>
      obtain ⟨k, b⟩ := p
      intro hn hm
      simp only [List.map_cons, List.nodup_cons] at hn
      simp only [alook]
      rcases List.mem_cons.1 hm with hm | hm
      · simp only [Prod.mk.injEq] at hm; rw [hm.1, hm.2]; simp
      · have : k ≠ i := fun he => hn.1 (he ▸ List.mem_map.2 ⟨_, hm, rfl⟩)
        rw [beq_ne.2 this]
        exact ih hn.2 hm
  rw [this hnd hm] at h1
  cases h1
  exact h2
end
end Go.Tev
namespace Go.Tev
open Go.Abs

def argsGR {X : Nat → Type} : List AR → List (TV X) → Nat → List (TV X)
  | [], _, _ => []
  | .fn f :: r, vs, j => .fn f [] :: argsGR r vs j
  | .ty _ :: r, v :: vs, j => v :: argsGR r vs j
  | .ty _ :: _, [], _ => []
  | .ref (.map _ _) :: r, vs, j => .mp j :: argsGR r vs (j + 1)
  | .ref (.var _) :: r, vs, j => .ptr j 0 :: argsGR r vs (j + 1)
def initH (U : Uni) : (rs : List RK) → PR' U.X rs → List (TObj U.X)
  | [], _ => []
  | r :: rs, y => setRef U r y.1 :: initH U rs y.2
def upFrom : Nat → Nat → List Nat
  | _, 0 => []
  | j, n + 1 => j :: upFrom (j + 1) n
def pairO {α β : Type} (a : Option α) (b : Option β) : Option (α × β) := match a, b with
  | some y, some z => some (y, z)
  | _, _ => none
section
variable (x : Cx)
def endR (fn : Func) (rts : List Nat) (rs : List RK) : TOut x.X → Option (PX x.X rts × PR' x.X rs)
  | .norm s => resK x true s fn.results.toList (fun l => pairO (prjL x.U rts l) (getRefs x.U s.heap rs (upFrom 0 rs.length)))
  | .ret s => resK x true s fn.results.toList (fun l => pairO (prjL x.U rts l) (getRefs x.U s.heap rs (upFrom 0 rs.length)))
  | .exit _ _ => none
def fnR (f : FuncId) (fn : Func) (ak : List AR) (rts : List Nat) (sums : Sums x (PX x.X rts × PR' x.X (AR.refs ak))) (a : PX x.X (AR.tys ak)) (cs : PR' x.X (AR.refs ak)) : Option (PX x.X rts × PR' x.X (AR.refs ak)) :=
  match injL x.U (AR.tys ak) with
  | some g => evL x (x.C.ann f) sums 0 (bodyOf fn) (endR x fn rts (AR.refs ak)) ⟨envT 0 (argsGR ak (g a) 0), [], initH x.U (AR.refs ak) cs⟩
  | none => none
end
section
variable {x : Cx} {ρ : List Rf} {h0 : Base} {s s' : TSt x.X} {a : St}

theorem envT_okV : ∀ {vs : List (TV x.X)} {as : List AV} (k : Nat), VRels x.U ρ vs as → ER x.U ρ (envT k vs) (env0 k as)
  | [], as, k, h => fun t v hv => by simp [envT, alook] at hv
  | v :: vs, [], k, h => by have := h.1; simp at this
  | v :: vs, b :: as, k, h => by
    intro t w hw
    simp only [envT, alook] at hw
    simp only [env0, alook]
    cases hb : Nat.beq k t with
    | true =>
      rw [hb] at hw
      simp only [cond_true, Option.some.injEq] at hw
      subst hw
      exact ⟨_, rfl, .val _ _ (h.2 0 v b rfl rfl)⟩
    | false =>
      rw [hb] at hw
      exact envT_okV (k + 1) ⟨by simpa using h.1, fun k v a h1 h2 => h.2 (k + 1) v a (by simpa using h1) (by simpa using h2)⟩ t w hw
theorem vrels_cons {v : TV x.X} {b : AV} {vs : List (TV x.X)} {as : List AV} (h : VRel x.U ρ v b) (t : VRels x.U ρ vs as) : VRels x.U ρ (v :: vs) (b :: as) := by
  refine ⟨by simp [t.1], fun k v' a h1 h2 => ?_⟩
  cases k with
  | zero => simp only [List.getElem?_cons_zero, Option.some.injEq] at h1 h2; subst h1; subst h2; exact h
  | succ k => exact t.2 k v' a (by simpa using h1) (by simpa using h2)
theorem argsGR_ok (ak : List AR) : ∀ (us : List (TV x.X)) (ds : List DV) (ids : List Nat) (as : List AV) (j : Nat), dvL x.U us = some ds → argsR ak ds ids = some as → (∀ k, k < ids.length → ids[k]? = (ρ[j + k]?).map Rf.id) → VRels x.U ρ (argsGR ak us j) as ∧ as.length = ak.length := by
  induction ak with
  | nil =>
    intro us ds ids as j hd h _
    cases ds <;> cases ids <;> simp [argsR] at h
    subst h
    exact ⟨⟨rfl, fun k v a h => by simp [argsGR] at h⟩, rfl⟩
  | cons k r ih =>
    intro us ds ids as j hd h hi
    cases k with
    | fn f =>
      simp only [argsR] at h
      split at h
      · rename_i as' h1
        cases h
        obtain ⟨k1, k2⟩ := ih us ds ids as' j hd h1 hi
        exact ⟨vrels_cons (.d _ _ rfl) k1, by simp [k2]⟩
      · cases h
    | ty t =>
      cases ds with
      | nil => simp [argsR] at h
      | cons d ds =>
        cases us with
        | nil => have := dvL_nil hd; cases this
        | cons u us =>
          obtain ⟨d', ds', e1, e2, e3⟩ := dvL_cons hd
          cases e3
          simp only [argsR] at h
          split at h
          · rename_i as' h1
            cases h
            obtain ⟨k1, k2⟩ := ih us ds ids as' j e2 h1 hi
            exact ⟨vrels_cons (.d _ _ e1) k1, by simp [k2]⟩
          · cases h
    | ref k =>
      cases ids with
      | nil => cases k <;> simp [argsR] at h
      | cons i ids =>
        obtain ⟨i', h0, hi0⟩ : ∃ i', ρ[j]? = some i' ∧ i'.id = i := by
          have := hi 0 (by simp)
          simp only [List.getElem?_cons_zero, Nat.add_zero] at this
          exact Option.map_eq_some_iff.1 this.symm
        subst hi0
        have hi' : ∀ k, k < ids.length → ids[k]? = (ρ[j + 1 + k]?).map Rf.id := fun k hk => by
          have := hi (k + 1) (by simpa using hk)
          rw [show j + 1 + k = j + (k + 1) by omega]
          simpa using this
        cases k with
        | map kt vt =>
          simp only [argsR] at h
          split at h
          · rename_i as' h1
            cases h
            obtain ⟨k1, k2⟩ := ih us ds ids as' (j + 1) hd h1 hi'
            exact ⟨vrels_cons (.mp _ _ h0) k1, by simp [k2]⟩
          · cases h
        | var ts =>
          simp only [argsR] at h
          split at h
          · rename_i as' h1
            cases h
            obtain ⟨k1, k2⟩ := ih us ds ids as' (j + 1) hd h1 hi'
            exact ⟨vrels_cons (.ptr _ _ _ h0) k1, by simp [k2]⟩
          · cases h
theorem argsR_refs (ak : List AR) : ∀ {ds : List DV} {ids : List Nat} {as : List AV}, argsR ak ds ids = some as → ids.length = (AR.refs ak).length := by
  induction ak with
  | nil => intro ds ids as h; cases ds <;> cases ids <;> simp [argsR] at h; rfl
  | cons k r ih =>
    intro ds ids as h
    cases k with
    | fn f =>
      simp only [argsR] at h
      split at h
      · rename_i as' h1; exact ih h1
      · cases h
    | ty t =>
      cases ds with
      | nil => simp [argsR] at h
      | cons d ds =>
        simp only [argsR] at h
        split at h
        · rename_i as' h1; exact ih h1
        · cases h
    | ref k =>
      cases ids with
      | nil => cases k <;> simp [argsR] at h
      | cons i ids =>
        cases k <;> simp only [argsR] at h <;> split at h <;> (try (cases h; done)) <;> (rename_i as' h1; simp [AR.refs, ih h1])
theorem initH_len (rs : List RK) : ∀ (cs : PR' x.X rs), (initH x.U rs cs).length = rs.length := by
  induction rs with
  | nil => intro cs; rfl
  | cons r rs ih => intro cs; simp only [initH, List.length_cons, ih]
def rf0 (ids : List Nat) : List Rf := ids.map fun i => ⟨i, 0⟩
theorem initH_ok {ρ : List Rf} (rs : List RK) : ∀ {ids : List Nat} {cs : PR' x.X rs} {h : List AObj}, EncRs x.U rs cs ids h → ∀ (j : Nat) o, (initH x.U rs cs)[j]? = some o → ∃ i ao, (rf0 ids)[j]? = some i ∧ h[i.id]? = some ao ∧ ORel x.U ρ i.off o ao := by
  induction rs with
  | nil => intro ids cs h he j o hj; simp [initH] at hj
  | cons r rs ih =>
    intro ids cs h he j o hj
    cases ids with
    | nil => exact absurd he (by simp [EncRs])
    | cons i ids =>
      obtain ⟨⟨ao, e1, e2⟩, e3⟩ := he
      cases j with
      | zero =>
        simp only [initH, List.getElem?_cons_zero, Option.some.injEq] at hj
        subst hj
        exact ⟨⟨i, 0⟩, ao, rfl, e1, setRef_ok e2 _⟩
      | succ j => exact ih e3 j o (by simpa [initH] using hj)
theorem encRs_len {rs : List RK} : ∀ {ids : List Nat} {cs : PR' x.X rs} {h : List AObj}, EncRs x.U rs cs ids h → ids.length = rs.length := by
  induction rs with
  | nil => intro ids cs h he; cases ids with
    | nil => rfl
    | cons => exact absurd he (by simp [EncRs])
  | cons r rs ih =>
    intro ids cs h he
    cases ids with
    | nil => exact absurd he (by simp [EncRs])
    | cons i ids => simp only [List.length_cons]; rw [ih he.2]
theorem encRs_mem {rs : List RK} : ∀ {ids : List Nat} {cs : PR' x.X rs} {h : List AObj}, EncRs x.U rs cs ids h → ∀ i ∈ ids, i < h.length := by
  induction rs with
  | nil => intro ids cs h he i hi; cases ids with
    | nil => simp at hi
    | cons => exact absurd he (by simp [EncRs])
  | cons r rs ih =>
    intro ids cs h he i hi
    cases ids with
    | nil => simp at hi
    | cons k ids =>
      rcases List.mem_cons.1 hi with rfl | hi
      · obtain ⟨⟨ao, e1, _⟩, _⟩ := he
        exact (List.getElem?_eq_some_iff.1 e1).1
      · exact ih he.2 i hi
theorem at_up : ∀ {ids : List Nat} {σ : List Rf} (j : Nat), (∀ k, k < ids.length → ids[k]? = (σ[j + k]?).map Rf.id) → At σ (upFrom j ids.length) ids
  | [], σ, j, _ => .nil
  | i :: ids, σ, j, h => by
    obtain ⟨i', h0, hi0⟩ : ∃ i', σ[j]? = some i' ∧ i'.id = i := by
      have := h 0 (by simp)
      simp only [List.getElem?_cons_zero, Nat.add_zero] at this
      exact Option.map_eq_some_iff.1 this.symm
    subst hi0
    exact .cons _ _ _ _ h0 (at_up (j + 1) fun k hk => by
      have := h (k + 1) (by simpa using hk)
      rw [show j + 1 + k = j + (k + 1) by omega]
      simpa using this)

/-- a function that writes what it is lent -/
theorem fnR_meets (ok : x.U.Ok x.C) {K : CallT} (hT : CallsOk x (callV x.C K)) {f : FuncId} {fn : Func} (hK : ∀ args h, K f args h = none) (hf : x.C.P.funcs[f]? = some fn) {ak : List AR} {rts : List Nat}
    (hok : okF (x.C.ann f) fn ak.length = true) {t : PX x.X (AR.tys ak) → PR' x.X (AR.refs ak) → Option (PX x.X rts × PR' x.X (AR.refs ak))}
    (h : ∀ a cs r, t a cs = some r → ∃ (n : Nat) (sums : Sums x (PX x.X rts × PR' x.X (AR.refs ak))), (∀ (h0 : Base), h0.nr ≤ (AR.refs ak).length → ∀ i c' L, (i, c') ∈ loopsOf 0 (bodyOf fn) → alook sums i = some L → Law x h0 (callV x.C K) (x.C.ann f) n c' L) ∧ fnR x f fn ak rts sums a cs = some r) :
    MeetsR x.U (callV x.C K) f ⟨ak, rts, t⟩ := by
  intro vs a ds ids as cs h1 r g hp hd ha hn he ht hg
  obtain ⟨n, sums, hS, hr⟩ := h a cs r ht
  unfold fnR at hr
  split at hr
  · rename_i gi hi
    have h2 := injL_dv ok _ vs a gi hp hi
    rw [hd] at h2
    have hS' := hS ⟨h1, ids⟩ (Nat.le_of_eq (argsR_refs ak ha))
    obtain ⟨k1, k2⟩ := argsGR_ok (ρ := rf0 ids) ak (gi a) ds ids as 0 h2 ha (fun k hk => by simp [rf0, Function.comp_def])
    have hids : (rf0 ids).map Rf.id = ids := by simp [rf0, Function.comp_def]
    have r0 : Rel x.U (rf0 ids) ⟨h1, ids⟩ ⟨envT 0 (argsGR ak (gi a) 0), [], initH x.U (AR.refs ak) cs⟩ ⟨env0 0 as, [], h1⟩ := by
      refine ⟨envT_okV 0 k1, ⟨fun _ _ => rfl, fun t e h => by simp [alook] at h, fun t e h => by simp [alook] at h, fun _ _ => rfl⟩, ⟨?_, by rw [hids]; exact hn, fun j o hj => initH_ok _ he j o hj, fun _ _ _ => rfl, Nat.le_refl _, fun j i hj hi => ?_, by rw [hids]; exact List.prefix_rfl⟩⟩
      · rw [initH_len]; simp only [rf0, List.length_map]; exact argsR_refs ak ha
      · have := (List.getElem?_eq_some_iff.1 hi).1
        simp only [Base.nr] at hj
        simp only [rf0, List.length_map] at this
        omega
    obtain ⟨o', o, σ, e1, e2, e4⟩ := evL_ok ok hT n (bodyOf fn) hS' rfl hr (rf0 ids) _ r0
    have fin : ∀ {s : TSt x.X} {a' : St}, Rel x.U σ ⟨h1, ids⟩ s a' → resK x true s fn.results.toList (fun l => pairO (prjL x.U rts l) (getRefs x.U s.heap (AR.refs ak) (upFrom 0 (AR.refs ak).length))) = some r → (∀ vs', evRes x.C a' fn.results.toList = some vs' → evEnd x.C fn (some o) = some (resVal vs', a'.heap)) →
        ∃ d h', (g r.1).dv x.U = some d ∧ callV x.C K f as h1 = some (.d d, h') ∧ EncRs x.U (AR.refs ak) r.2 ids h' ∧ (∀ (i : Nat), i < h1.length → i ∉ ids → h'[i]? = h1[i]?) ∧ h1.length ≤ h'.length := by
      intro s a' rr hres hend
      obtain ⟨ws', vs', m1, m2, m3⟩ := resK_ok ok rr hres
      unfold pairO at m1
      split at m1
      · rename_i y cs' hy hcs
        cases m1
        obtain ⟨d, m4, m5⟩ := res_ok ok m3 hy hg
        have hcv := callV_q (K := K) (r := (resVal vs', a'.heap)) n (hK _ _) hf (by rw [k2]; exact hok) e2 (hend vs' m2)
        have hrv : resVal vs' = .d d := by
          rcases m5 with q1 | ⟨q1, _⟩
          · exact q1
          · cases q1
        rw [hrv] at hcv
        have hpre := rr.heap.pre
        have hat : At σ (upFrom 0 (AR.refs ak).length) ids := by
          rw [← argsR_refs ak ha]
          refine at_up 0 fun k hk => ?_
          obtain ⟨tl, htl⟩ := hpre
          rw [← List.getElem?_map, ← htl, Nat.zero_add, List.getElem?_append_left hk]
        refine ⟨d, a'.heap, m4, hcv, getRefs_ok ok rr.heap hat hcs, fun i hi hm => ?_, rr.heap.grow⟩
        refine rr.heap.frame i hi fun hmem => ?_
        obtain ⟨f, hf, rfl⟩ := List.mem_map.1 hmem
        obtain ⟨j, hj, rfl⟩ := List.mem_iff_getElem.1 hf
        rcases Nat.lt_or_ge j ids.length with hlt | hge
        · obtain ⟨tl, htl⟩ := hpre
          refine hm (List.mem_iff_getElem?.2 ⟨j, ?_⟩)
          have : (σ.map Rf.id)[j]? = some σ[j].id := by rw [List.getElem?_map, List.getElem?_eq_getElem hj]; rfl
          rw [← this]
          conv => rhs; rw [← htl]
          exact (List.getElem?_append_left hlt).symm
        · have := rr.heap.fresh j _ hge (List.getElem?_eq_getElem hj)
          simp only at this hi
          omega
      · cases m1
    cases e4 with
    | norm s1 a1 ht1 r1 => exact fin r1 e1 (fun vs' hv => by simp only [evEnd, hv])
    | ret s1 a1 ht1 r1 => exact fin r1 e1 (fun vs' hv => by simp only [evEnd, hv])
    | exit => simp [endR] at e1
  · cases hr
end
end Go.Tev
namespace Go.Tev
open Go.Abs
section
variable {x : Cx} {h0 : Base}
theorem mall_nil {U : Uni} {call : CallT} : ∀ p ∈ ([] : List (Nat × TCall U.X)), Meets U call p.1 p.2 := fun p hp => by simp at hp
theorem mall_cons {U : Uni} {call : CallT} {f : Nat} {c : TCall U.X} {T : List (Nat × TCall U.X)} (h : Meets U call f c) (t : ∀ p ∈ T, Meets U call p.1 p.2) : ∀ p ∈ (f, c) :: T, Meets U call p.1 p.2 := fun p hp => by
  rcases List.mem_cons.1 hp with rfl | hp
  · exact h
  · exact t p hp
theorem rall_nil {U : Uni} {call : CallT} : ∀ p ∈ ([] : List (Nat × TCallR U.X)), MeetsR U call p.1 p.2 := fun p hp => by simp at hp
theorem rall_cons {U : Uni} {call : CallT} {f : Nat} {c : TCallR U.X} {T : List (Nat × TCallR U.X)} (h : MeetsR U call f c) (t : ∀ p ∈ T, MeetsR U call p.1 p.2) : ∀ p ∈ (f, c) :: T, MeetsR U call p.1 p.2 := fun p hp => by
  rcases List.mem_cons.1 hp with rfl | hp
  · exact h
  · exact t p hp
theorem laws_none {call : CallT} {fa : FA} {n : Nat} {R : Type} {sums : Sums x R} {id : Nat} {c : Code} (h : loopsOf id c = []) : ∀ i c' L, (i, c') ∈ loopsOf id c → alook sums i = some L → Law x h0 call fa n c' L := fun i c' L hm => by
  rw [h] at hm; simp at hm
def LawAt (x : Cx) (h0 : Base) (call : CallT) (fa : FA) (n : Nat) {R : Type} (sums : Sums x R) (id : Nat) (c : Code) (i : Nat) : Prop := ∀ L, alook sums i = some L → ∃ c2, alook (loopsOf id c) i = some c2 ∧ Law x h0 call fa n c2 L
theorem alook_nodup {α : Type} {i : Nat} {c' : α} : ∀ {l : List (Nat × α)}, (l.map Prod.fst).Nodup → (i, c') ∈ l → alook l i = some c'
  | [], _, h => by simp at h
  | (k, b) :: l, hn, hm => by
    simp only [List.map_cons, List.nodup_cons] at hn
    simp only [alook]
    rcases List.mem_cons.1 hm with hm | hm
    · simp only [Prod.mk.injEq] at hm; rw [hm.1, hm.2]; simp
    · have : k ≠ i := fun he => hn.1 (he ▸ List.mem_map.2 ⟨_, hm, rfl⟩)
      rw [beq_ne.2 this]
      exact alook_nodup hn.2 hm
theorem laws_ids {call : CallT} {fa : FA} {n : Nat} {R : Type} {sums : Sums x R} {id : Nat} {c : Code} {ids : List Nat} (h1 : (loopsOf id c).map Prod.fst = ids) (h2 : ids.Nodup) (h : ∀ i ∈ ids, LawAt x h0 call fa n sums id c i) :
    ∀ i c' L, (i, c') ∈ loopsOf id c → alook sums i = some L → Law x h0 call fa n c' L := by
  intro i c' L hm hL
  have hi : i ∈ ids := by rw [← h1]; exact List.mem_map.2 ⟨_, hm, rfl⟩
  obtain ⟨c2, h3, h4⟩ := h i hi L hL
  rw [alook_nodup (by rw [h1]; exact h2) hm] at h3
  cases h3
  exact h4
theorem laws_one {call : CallT} {fa : FA} {n : Nat} {R : Type} {sums : Sums x R} {id i : Nat} {c c2 : Code} {L0 : LRun x.U R} (h1 : alook (loopsOf id c) i = some c2) (h2 : alook sums i = some L0) (h3 : Law x h0 call fa n c2 L0) : LawAt x h0 call fa n sums id c i := by
  intro L hL
  rw [h2] at hL
  cases hL
  exact ⟨c2, h1, h3⟩
end
/-! bytes -/
def unbytes (l : List Int) : List UInt8 := l.map fun n => UInt8.ofNat n.toNat
def tobytes (b : List UInt8) : List Int := b.map fun c => (c.toNat : Int)
def loop1 {A R : Type} (g : A → (A → Option R) → Option R) (n : Nat) (a0 : A) : Option R :=
  loopT (fun y k => g y.1 (fun a0 => k (a0, ()))) n (a0, ())
theorem loop1_succ {A R : Type} (g : A → (A → Option R) → Option R) (n : Nat) (a0 : A) : loop1 g (n + 1) a0 = g a0 (loop1 g n) := rfl
def loop2 {A B R : Type} (g : A → B → (A → B → Option R) → Option R) (n : Nat) (a0 : A) (a1 : B) : Option R :=
  loopT (fun y k => g y.1 y.2.1 (fun a0 a1 => k (a0, a1, ()))) n (a0, a1, ())
theorem loop2_succ {A B R : Type} (g : A → B → (A → B → Option R) → Option R) (n : Nat) (a0 : A) (a1 : B) : loop2 g (n + 1) a0 a1 = g a0 a1 (loop2 g n) := rfl
def loop3 {A B C R : Type} (g : A → B → C → (A → B → C → Option R) → Option R) (n : Nat) (a0 : A) (a1 : B) (a2 : C) : Option R :=
  loopT (fun y k => g y.1 y.2.1 y.2.2.1 (fun a0 a1 a2 => k (a0, a1, a2, ()))) n (a0, a1, a2, ())
theorem loop3_succ {A B C R : Type} (g : A → B → C → (A → B → C → Option R) → Option R) (n : Nat) (a0 : A) (a1 : B) (a2 : C) : loop3 g (n + 1) a0 a1 a2 = g a0 a1 a2 (loop3 g n) := rfl
def loop4 {A B C D R : Type} (g : A → B → C → D → (A → B → C → D → Option R) → Option R) (n : Nat) (a0 : A) (a1 : B) (a2 : C) (a3 : D) : Option R :=
  loopT (fun y k => g y.1 y.2.1 y.2.2.1 y.2.2.2.1 (fun a0 a1 a2 a3 => k (a0, a1, a2, a3, ()))) n (a0, a1, a2, a3, ())
theorem loop4_succ {A B C D R : Type} (g : A → B → C → D → (A → B → C → D → Option R) → Option R) (n : Nat) (a0 : A) (a1 : B) (a2 : C) (a3 : D) : loop4 g (n + 1) a0 a1 a2 a3 = g a0 a1 a2 a3 (loop4 g n) := rfl
def loop5 {A B C D E R : Type} (g : A → B → C → D → E → (A → B → C → D → E → Option R) → Option R) (n : Nat) (a0 : A) (a1 : B) (a2 : C) (a3 : D) (a4 : E) : Option R :=
  loopT (fun y k => g y.1 y.2.1 y.2.2.1 y.2.2.2.1 y.2.2.2.2.1 (fun a0 a1 a2 a3 a4 => k (a0, a1, a2, a3, a4, ()))) n (a0, a1, a2, a3, a4, ())
theorem loop5_succ {A B C D E R : Type} (g : A → B → C → D → E → (A → B → C → D → E → Option R) → Option R) (n : Nat) (a0 : A) (a1 : B) (a2 : C) (a3 : D) (a4 : E) : loop5 g (n + 1) a0 a1 a2 a3 a4 = g a0 a1 a2 a3 a4 (loop5 g n) := rfl
def loop6 {A B C D E F R : Type} (g : A → B → C → D → E → F → (A → B → C → D → E → F → Option R) → Option R) (n : Nat) (a0 : A) (a1 : B) (a2 : C) (a3 : D) (a4 : E) (a5 : F) : Option R :=
  loopT (fun y k => g y.1 y.2.1 y.2.2.1 y.2.2.2.1 y.2.2.2.2.1 y.2.2.2.2.2.1 (fun a0 a1 a2 a3 a4 a5 => k (a0, a1, a2, a3, a4, a5, ()))) n (a0, a1, a2, a3, a4, a5, ())
theorem loop6_succ {A B C D E F R : Type} (g : A → B → C → D → E → F → (A → B → C → D → E → F → Option R) → Option R) (n : Nat) (a0 : A) (a1 : B) (a2 : C) (a3 : D) (a4 : E) (a5 : F) : loop6 g (n + 1) a0 a1 a2 a3 a4 a5 = g a0 a1 a2 a3 a4 a5 (loop6 g n) := rfl
def loop7 {A B C D E F G R : Type} (g : A → B → C → D → E → F → G → (A → B → C → D → E → F → G → Option R) → Option R) (n : Nat) (a0 : A) (a1 : B) (a2 : C) (a3 : D) (a4 : E) (a5 : F) (a6 : G) : Option R :=
  loopT (fun y k => g y.1 y.2.1 y.2.2.1 y.2.2.2.1 y.2.2.2.2.1 y.2.2.2.2.2.1 y.2.2.2.2.2.2.1 (fun a0 a1 a2 a3 a4 a5 a6 => k (a0, a1, a2, a3, a4, a5, a6, ()))) n (a0, a1, a2, a3, a4, a5, a6, ())
theorem loop7_succ {A B C D E F G R : Type} (g : A → B → C → D → E → F → G → (A → B → C → D → E → F → G → Option R) → Option R) (n : Nat) (a0 : A) (a1 : B) (a2 : C) (a3 : D) (a4 : E) (a5 : F) (a6 : G) : loop7 g (n + 1) a0 a1 a2 a3 a4 a5 a6 = g a0 a1 a2 a3 a4 a5 a6 (loop7 g n) := rfl
def loop8 {A B C D E F G H R : Type} (g : A → B → C → D → E → F → G → H → (A → B → C → D → E → F → G → H → Option R) → Option R) (n : Nat) (a0 : A) (a1 : B) (a2 : C) (a3 : D) (a4 : E) (a5 : F) (a6 : G) (a7 : H) : Option R :=
  loopT (fun y k => g y.1 y.2.1 y.2.2.1 y.2.2.2.1 y.2.2.2.2.1 y.2.2.2.2.2.1 y.2.2.2.2.2.2.1 y.2.2.2.2.2.2.2.1 (fun a0 a1 a2 a3 a4 a5 a6 a7 => k (a0, a1, a2, a3, a4, a5, a6, a7, ()))) n (a0, a1, a2, a3, a4, a5, a6, a7, ())
theorem loop8_succ {A B C D E F G H R : Type} (g : A → B → C → D → E → F → G → H → (A → B → C → D → E → F → G → H → Option R) → Option R) (n : Nat) (a0 : A) (a1 : B) (a2 : C) (a3 : D) (a4 : E) (a5 : F) (a6 : G) (a7 : H) : loop8 g (n + 1) a0 a1 a2 a3 a4 a5 a6 a7 = g a0 a1 a2 a3 a4 a5 a6 a7 (loop8 g n) := rfl
def loop9 {A B C D E F G H I R : Type} (g : A → B → C → D → E → F → G → H → I → (A → B → C → D → E → F → G → H → I → Option R) → Option R) (n : Nat) (a0 : A) (a1 : B) (a2 : C) (a3 : D) (a4 : E) (a5 : F) (a6 : G) (a7 : H) (a8 : I) : Option R :=
  loopT (fun y k => g y.1 y.2.1 y.2.2.1 y.2.2.2.1 y.2.2.2.2.1 y.2.2.2.2.2.1 y.2.2.2.2.2.2.1 y.2.2.2.2.2.2.2.1 y.2.2.2.2.2.2.2.2.1 (fun a0 a1 a2 a3 a4 a5 a6 a7 a8 => k (a0, a1, a2, a3, a4, a5, a6, a7, a8, ()))) n (a0, a1, a2, a3, a4, a5, a6, a7, a8, ())
theorem loop9_succ {A B C D E F G H I R : Type} (g : A → B → C → D → E → F → G → H → I → (A → B → C → D → E → F → G → H → I → Option R) → Option R) (n : Nat) (a0 : A) (a1 : B) (a2 : C) (a3 : D) (a4 : E) (a5 : F) (a6 : G) (a7 : H) (a8 : I) : loop9 g (n + 1) a0 a1 a2 a3 a4 a5 a6 a7 a8 = g a0 a1 a2 a3 a4 a5 a6 a7 a8 (loop9 g n) := rfl
def loop10 {A B C D E F G H I J R : Type} (g : A → B → C → D → E → F → G → H → I → J → (A → B → C → D → E → F → G → H → I → J → Option R) → Option R) (n : Nat) (a0 : A) (a1 : B) (a2 : C) (a3 : D) (a4 : E) (a5 : F) (a6 : G) (a7 : H) (a8 : I) (a9 : J) : Option R :=
  loopT (fun y k => g y.1 y.2.1 y.2.2.1 y.2.2.2.1 y.2.2.2.2.1 y.2.2.2.2.2.1 y.2.2.2.2.2.2.1 y.2.2.2.2.2.2.2.1 y.2.2.2.2.2.2.2.2.1 y.2.2.2.2.2.2.2.2.2.1 (fun a0 a1 a2 a3 a4 a5 a6 a7 a8 a9 => k (a0, a1, a2, a3, a4, a5, a6, a7, a8, a9, ()))) n (a0, a1, a2, a3, a4, a5, a6, a7, a8, a9, ())
theorem loop10_succ {A B C D E F G H I J R : Type} (g : A → B → C → D → E → F → G → H → I → J → (A → B → C → D → E → F → G → H → I → J → Option R) → Option R) (n : Nat) (a0 : A) (a1 : B) (a2 : C) (a3 : D) (a4 : E) (a5 : F) (a6 : G) (a7 : H) (a8 : I) (a9 : J) : loop10 g (n + 1) a0 a1 a2 a3 a4 a5 a6 a7 a8 a9 = g a0 a1 a2 a3 a4 a5 a6 a7 a8 a9 (loop10 g n) := rfl
def loop11 {A B C D E F G H I J K R : Type} (g : A → B → C → D → E → F → G → H → I → J → K → (A → B → C → D → E → F → G → H → I → J → K → Option R) → Option R) (n : Nat) (a0 : A) (a1 : B) (a2 : C) (a3 : D) (a4 : E) (a5 : F) (a6 : G) (a7 : H) (a8 : I) (a9 : J) (a10 : K) : Option R :=
  loopT (fun y k => g y.1 y.2.1 y.2.2.1 y.2.2.2.1 y.2.2.2.2.1 y.2.2.2.2.2.1 y.2.2.2.2.2.2.1 y.2.2.2.2.2.2.2.1 y.2.2.2.2.2.2.2.2.1 y.2.2.2.2.2.2.2.2.2.1 y.2.2.2.2.2.2.2.2.2.2.1 (fun a0 a1 a2 a3 a4 a5 a6 a7 a8 a9 a10 => k (a0, a1, a2, a3, a4, a5, a6, a7, a8, a9, a10, ()))) n (a0, a1, a2, a3, a4, a5, a6, a7, a8, a9, a10, ())
theorem loop11_succ {A B C D E F G H I J K R : Type} (g : A → B → C → D → E → F → G → H → I → J → K → (A → B → C → D → E → F → G → H → I → J → K → Option R) → Option R) (n : Nat) (a0 : A) (a1 : B) (a2 : C) (a3 : D) (a4 : E) (a5 : F) (a6 : G) (a7 : H) (a8 : I) (a9 : J) (a10 : K) : loop11 g (n + 1) a0 a1 a2 a3 a4 a5 a6 a7 a8 a9 a10 = g a0 a1 a2 a3 a4 a5 a6 a7 a8 a9 a10 (loop11 g n) := rfl
def loop12 {A B C D E F G H I J K L R : Type} (g : A → B → C → D → E → F → G → H → I → J → K → L → (A → B → C → D → E → F → G → H → I → J → K → L → Option R) → Option R) (n : Nat) (a0 : A) (a1 : B) (a2 : C) (a3 : D) (a4 : E) (a5 : F) (a6 : G) (a7 : H) (a8 : I) (a9 : J) (a10 : K) (a11 : L) : Option R :=
  loopT (fun y k => g y.1 y.2.1 y.2.2.1 y.2.2.2.1 y.2.2.2.2.1 y.2.2.2.2.2.1 y.2.2.2.2.2.2.1 y.2.2.2.2.2.2.2.1 y.2.2.2.2.2.2.2.2.1 y.2.2.2.2.2.2.2.2.2.1 y.2.2.2.2.2.2.2.2.2.2.1 y.2.2.2.2.2.2.2.2.2.2.2.1 (fun a0 a1 a2 a3 a4 a5 a6 a7 a8 a9 a10 a11 => k (a0, a1, a2, a3, a4, a5, a6, a7, a8, a9, a10, a11, ()))) n (a0, a1, a2, a3, a4, a5, a6, a7, a8, a9, a10, a11, ())
theorem loop12_succ {A B C D E F G H I J K L R : Type} (g : A → B → C → D → E → F → G → H → I → J → K → L → (A → B → C → D → E → F → G → H → I → J → K → L → Option R) → Option R) (n : Nat) (a0 : A) (a1 : B) (a2 : C) (a3 : D) (a4 : E) (a5 : F) (a6 : G) (a7 : H) (a8 : I) (a9 : J) (a10 : K) (a11 : L) : loop12 g (n + 1) a0 a1 a2 a3 a4 a5 a6 a7 a8 a9 a10 a11 = g a0 a1 a2 a3 a4 a5 a6 a7 a8 a9 a10 a11 (loop12 g n) := rfl
end Go.Tev
namespace Go.Tev
open Go.Abs

/-! rounds over a list -/
def runE {α β R : Type} (step : β → α → β ⊕ Option R) (kx : β → Option R) : List α → β → Option R
  | [], b => kx b
  | v :: r, b => match step b v with
    | .inl b' => runE step kx r b'
    | .inr z => z
theorem loopT_list {σ R α β : Type} {g : σ → (σ → Option R) → Option R} (l : List α) (S : Nat → β → σ) (step : β → α → β ⊕ Option R) (kx : β → Option R) (inv : Nat → β → Prop)
    (hstep : ∀ i b v k, l[i]? = some v → i < l.length → inv i b → g (S i b) k = (match step b v with | .inl b' => k (S (i + 1) b') | .inr z => z))
    (hinv : ∀ i b v b', l[i]? = some v → inv i b → step b v = .inl b' → inv (i + 1) b')
    (hend : ∀ b k, inv l.length b → g (S l.length b) k = kx b) :
    ∀ (r : List α) (fuel i : Nat) (b : β), l.drop i = r → i ≤ l.length → inv i b → r.length < fuel → loopT g fuel (S i b) = runE step kx r b
  | [], fuel, i, b, hr, hi, hb, hf => by
    obtain ⟨n, rfl⟩ : ∃ n, fuel = n + 1 := ⟨fuel - 1, by omega⟩
    have : i = l.length := by
      have := congrArg List.length hr
      simp at this; omega
    subst this
    simp only [loopT, runE]
    exact hend b _ hb
  | v :: r, fuel, i, b, hr, hi, hb, hf => by
    obtain ⟨n, rfl⟩ : ∃ n, fuel = n + 1 := ⟨fuel - 1, by omega⟩
    have hv : l[i]? = some v := by
      have := congrArg (fun x => x[0]?) hr
      simpa using this
    have hlt : i < l.length := (List.getElem?_eq_some_iff.1 hv).1
    have hr' : l.drop (i + 1) = r := by rw [← List.drop_drop, hr]; rfl
    simp only [loopT, runE]
    rw [hstep i b v _ hv hlt hb]
    cases hs : step b v with
    | inl b' =>
      simp only
      exact loopT_list l S step kx inv hstep hinv hend r n (i + 1) b' hr' (by omega) (hinv i b v b' hv hb hs) (by simp at hf; omega)
    | inr z => rfl
theorem runE_fold {α β R : Type} (f : β → α → β) (kx : β → Option R) : ∀ (l : List α) (b : β), runE (fun b v => .inl (f b v)) kx l b = kx (l.foldl f b)
  | [], b => rfl
  | v :: r, b => by simp only [runE, List.foldl_cons]; exact runE_fold f kx r (f b v)
theorem getI_nat {α : Type} {xs : List α} {i : Nat} {v : α} (h : xs[i]? = some v) : getI xs (i : Int) = some v := by
  unfold getI; rw [if_pos (by omega)]; simpa using h
theorem wrap_id {n : Int} (h1 : -(2 ^ 63) ≤ n) (h2 : n < 2 ^ 63) : IntKind.i64.wrap n = n := by
  simp [IntKind.wrap, IntKind.signed, IntKind.bits]
  omega
theorem wrap_nat {n : Nat} (h : n < 2 ^ 63) : IntKind.i64.wrap (n : Int) = (n : Int) := wrap_id (by omega) (by omega)
theorem wrap_add1 {n : Nat} (h : n + 1 < 2 ^ 63) : IntKind.i64.wrap ((n : Int) + 1) = ((n + 1 : Nat) : Int) := by rw [wrap_id (by omega) (by omega)]; rfl

/-! how much -/
mutual
def Val.tot : Val → Nat
  | .mk t l => 1 + t.t.length + t.u.length + totL l
def totL : List Val → Nat
  | [] => 0
  | v :: r => v.tot + totL r
end
theorem Val.tot_eq (v : Val) : v.tot = 1 + v.tok.t.length + v.tok.u.length + totL v.l := by cases v; simp [Val.tot, Val.tok, Val.l]
theorem totL_append (a b : List Val) : totL (a ++ b) = totL a + totL b := by
  induction a with
  | nil => simp [totL]
  | cons v a ih => simp [totL, ih]; omega
theorem tot_mem {l : List Val} {v : Val} (h : v ∈ l) : v.tot ≤ totL l := by
  induction l with
  | nil => simp at h
  | cons w l ih =>
    simp only [totL]
    rcases List.mem_cons.1 h with rfl | h
    · omega
    · have := ih h; omega
theorem tot_sub {l : List Val} {v : Val} (h : v ∈ l) : totL v.l < totL l := by
  have h1 := tot_mem h
  rw [Val.tot_eq] at h1
  omega
theorem len_tot (l : List Val) : l.length ≤ totL l := by
  induction l with
  | nil => simp [totL]
  | cons v l ih => simp only [totL, List.length_cons, Val.tot_eq]; omega
theorem Val.eta (v : Val) : Val.mk v.tok v.l = v := by cases v; rfl
/-- the bound -/
abbrev B : Nat := 2 ^ 36

/-! recursion: a contract for what is smaller -/
def below {A R : Type} (sz : A → Nat) (k : Nat) (f : A → Option R) : A → Option R := fun a => if sz a < k then f a else none
theorem below_of {A R : Type} {sz : A → Nat} {k : Nat} {f : A → Option R} {a : A} (h : sz a < k) : below sz k f a = f a := by simp [below, h]
theorem below_some {A R : Type} {sz : A → Nat} {k : Nat} {f : A → Option R} {a : A} {r : R} (h : below sz k f a = some r) : sz a < k ∧ f a = some r := by
  unfold below at h
  split at h
  · rename_i h1; exact ⟨h1, h⟩
  · cases h
theorem meets_rec {U : Uni} {call : CallT} {f : FuncId} {dir : Bool} {ak : List AK} {rts : List Nat} (sz : PX U.X (AK.tys ak) → Nat) (s : PX U.X (AK.tys ak) → Option (PX U.X rts))
    (h : ∀ k, Meets U call f ⟨dir, ak, rts, below sz k s⟩ → Meets U call f ⟨dir, ak, rts, below sz (k + 1) s⟩) : Meets U call f ⟨dir, ak, rts, s⟩ := by
  have all : ∀ k, Meets U call f ⟨dir, ak, rts, below sz k s⟩ := by
    intro k
    induction k with
    | zero => intro vs a r ds g _ _ ht _; simp [below] at ht
    | succ k ih => exact h k ih
  intro vs a r ds g hp hd ht hg
  exact all (sz a + 1) vs a r ds g hp hd (by simp only [below, Nat.lt_succ_self, if_true]; exact ht) hg
theorem meetsR_rec {U : Uni} {call : CallT} {f : FuncId} {ak : List AR} {rts : List Nat} (sz : PX U.X (AR.tys ak) → Nat) (s : PX U.X (AR.tys ak) → PR' U.X (AR.refs ak) → Option (PX U.X rts × PR' U.X (AR.refs ak)))
    (h : ∀ k, MeetsR U call f ⟨ak, rts, fun a cs => if sz a < k then s a cs else none⟩ → MeetsR U call f ⟨ak, rts, fun a cs => if sz a < k + 1 then s a cs else none⟩) : MeetsR U call f ⟨ak, rts, s⟩ := by
  have all : ∀ k, MeetsR U call f ⟨ak, rts, fun a cs => if sz a < k then s a cs else none⟩ := by
    intro k
    induction k with
    | zero => intro vs a ds ids as cs hh r g _ _ _ _ _ ht; simp at ht
    | succ k ih => exact h k ih
  intro vs a ds ids as cs hh r g hp hd ha hn he ht hg
  exact all (sz a + 1) vs a ds ids as cs hh r g hp hd ha hn he (by simp only [Nat.lt_succ_self, if_true]; exact ht) hg
theorem Meets.weak {U : Uni} {call : CallT} {f : FuncId} {dir : Bool} {ak : List AK} {rts : List Nat} {s t : PX U.X (AK.tys ak) → Option (PX U.X rts)} (h : Meets U call f ⟨dir, ak, rts, s⟩) (hst : ∀ a r, t a = some r → s a = some r) : Meets U call f ⟨dir, ak, rts, t⟩ :=
  fun vs a r ds g hp hd ht hg => h vs a r ds g hp hd (hst a r ht) hg
/-! loops whose last number counts -/
theorem loop1_list {R α : Type} {g : Int → (Int → Option R) → Option R} (l : List α) (step : Unit → α → Unit ⊕ Option R) (kx : Option R)
    (hstep : ∀ (i : Nat) v k, l[i]? = some v → i < l.length → g i k = (match step () v with | .inl _ => k ((i + 1 : Nat) : Int) | .inr z => z)) (hend : ∀ k, g (l.length : Int) k = kx) (n : Nat) (hn : l.length < n) :
    loop1 g n 0 = runE step (fun _ => kx) l () := by
  unfold loop1
  exact loopT_list l (fun i (_ : Unit) => ((i : Int), ())) step (fun _ => kx) (fun _ _ => True) (fun i b v k hv hl _ => by
    simp only
    rw [hstep i v _ hv hl]
    cases step () v <;> rfl) (fun _ _ _ _ _ _ _ => trivial) (fun b k _ => hend _) l n 0 () rfl (Nat.zero_le _) trivial hn
theorem loop2_list {A R α β : Type} {g : A → Int → (A → Int → Option R) → Option R} (l : List α) (enc : β → A) (step : β → α → β ⊕ Option R) (kx : β → Option R) (inv : Nat → β → Prop)
    (hstep : ∀ (i : Nat) b v k, l[i]? = some v → i < l.length → inv i b → g (enc b) i k = (match step b v with | .inl b' => k (enc b') ((i + 1 : Nat) : Int) | .inr z => z))
    (hinv : ∀ i b v b', l[i]? = some v → inv i b → step b v = .inl b' → inv (i + 1) b') (hend : ∀ b k, inv l.length b → g (enc b) (l.length : Int) k = kx b) (b0 : β) (h0 : inv 0 b0) (n : Nat) (hn : l.length < n) :
    loop2 g n (enc b0) 0 = runE step kx l b0 := by
  unfold loop2
  exact loopT_list l (fun i (b : β) => (enc b, (i : Int), ())) step kx inv (fun i b v k hv hl hb => by
    simp only
    rw [hstep i b v _ hv hl hb]) hinv (fun b k hb => hend b _ hb) l n 0 b0 rfl (Nat.zero_le _) h0 hn
theorem loop2r_list {A R α β : Type} {g : Int → A → (Int → A → Option R) → Option R} (l : List α) (enc : β → A) (step : β → α → β ⊕ Option R) (kx : β → Option R) (inv : Nat → β → Prop)
    (hstep : ∀ (i : Nat) b v k, l[i]? = some v → i < l.length → inv i b → g i (enc b) k = (match step b v with | .inl b' => k ((i + 1 : Nat) : Int) (enc b') | .inr z => z))
    (hinv : ∀ i b v b', l[i]? = some v → inv i b → step b v = .inl b' → inv (i + 1) b') (hend : ∀ b k, inv l.length b → g (l.length : Int) (enc b) k = kx b) (b0 : β) (h0 : inv 0 b0) (n : Nat) (hn : l.length < n) :
    loop2 g n 0 (enc b0) = runE step kx l b0 := by
  unfold loop2
  exact loopT_list l (fun i (b : β) => ((i : Int), enc b, ())) step kx inv (fun i b v k hv hl hb => by
    simp only
    rw [hstep i b v _ hv hl hb]) hinv (fun b k hb => hend b _ hb) l n 0 b0 rfl (Nat.zero_le _) h0 hn
theorem loop3_list {A A' R α β : Type} {g : A → A' → Int → (A → A' → Int → Option R) → Option R} (l : List α) (enc : β → A) (enc' : β → A') (step : β → α → β ⊕ Option R) (kx : β → Option R) (inv : Nat → β → Prop)
    (hstep : ∀ (i : Nat) b v k, l[i]? = some v → i < l.length → inv i b → g (enc b) (enc' b) i k = (match step b v with | .inl b' => k (enc b') (enc' b') ((i + 1 : Nat) : Int) | .inr z => z))
    (hinv : ∀ i b v b', l[i]? = some v → inv i b → step b v = .inl b' → inv (i + 1) b') (hend : ∀ b k, inv l.length b → g (enc b) (enc' b) (l.length : Int) k = kx b) (b0 : β) (h0 : inv 0 b0) (n : Nat) (hn : l.length < n) :
    loop3 g n (enc b0) (enc' b0) 0 = runE step kx l b0 := by
  unfold loop3
  exact loopT_list l (fun i (b : β) => (enc b, enc' b, (i : Int), ())) step kx inv (fun i b v k hv hl hb => by
    simp only
    rw [hstep i b v _ hv hl hb]) hinv (fun b k hb => hend b _ hb) l n 0 b0 rfl (Nat.zero_le _) h0 hn
theorem dlt {i n : Nat} (h : i < n) : decide ((i : Int) < (n : Int)) = true := by simp; omega
theorem dlt0 (n : Nat) : decide ((n : Int) < (n : Int)) = false := by simp
end Go.Tev
namespace Go.Tev
open Go.Abs
theorem tot_take {l : List Val} {i : Nat} {v : Val} (h : l[i]? = some v) : totL (l.take (i + 1)) = totL (l.take i) + v.tot := by
  rw [List.take_add_one, h, totL_append]; simp [totL]
theorem tot_take_le (l : List Val) (i : Nat) : totL (l.take i) ≤ totL l := by
  have := totL_append (l.take i) (l.drop i)
  rw [List.take_append_drop] at this
  omega
theorem foldl_snoc {α : Type} (l : List α) : l.foldl (fun b v => b ++ [v]) [] = l := by
  have : ∀ (l b : List α), l.foldl (fun b v => b ++ [v]) b = b ++ l := by
    intro l
    induction l with
    | nil => intro b; simp
    | cons v l ih => intro b; simp [ih]
  simpa using this l []
/-! closers -/
def closerK (k : Int) : Int := if k = 2 ∨ k = 21 then 22 else if k = 19 then 20 else if k = 23 then 24 else 0
/-! depth, tokens, shape -/
mutual
def Val.dep : Val → Nat
  | .mk t l => if closerK t.k = 0 then 0 else 1 + depL l
def depL : List Val → Nat
  | [] => 0
  | v :: r => max v.dep (depL r)
end
mutual
def Val.ntk : Val → Nat
  | .mk t l => if closerK t.k = 0 then 1 else 2 + ntkL l
def ntkL : List Val → Nat
  | [] => 0
  | v :: r => v.ntk + ntkL r
end
mutual
def Val.bad : Int → Val → Bool
  | cl, .mk t l => ((cl != 0 && t.k == cl) || (closerK t.k == 0 && decide (0 < l.length))) || (closerK t.k != 0 && badL (closerK t.k) l)
def badL : Int → List Val → Bool
  | _, [] => false
  | cl, v :: r => v.bad cl || badL cl r
end
theorem Val.dep_eq (v : Val) : v.dep = if closerK v.tok.k = 0 then 0 else 1 + depL v.l := by cases v; rfl
theorem Val.ntk_eq (v : Val) : v.ntk = if closerK v.tok.k = 0 then 1 else 2 + ntkL v.l := by cases v; rfl
theorem Val.bad_eq (cl : Int) (v : Val) : v.bad cl = (((cl != 0 && v.tok.k == cl) || (closerK v.tok.k == 0 && decide (0 < v.l.length))) || (closerK v.tok.k != 0 && badL (closerK v.tok.k) v.l)) := by cases v; rfl
mutual
theorem dep_tot : ∀ v : Val, v.dep ≤ v.tot
  | .mk t l => by
    have := depL_tot l
    simp only [Val.dep, Val.tot]
    split <;> omega
theorem depL_tot : ∀ l : List Val, depL l ≤ totL l
  | [] => Nat.le_refl _
  | v :: r => by
    have h1 := dep_tot v
    have h2 := depL_tot r
    simp only [depL, totL]; omega
end
mutual
theorem ntk_tot : ∀ v : Val, v.ntk ≤ 2 * v.tot
  | .mk t l => by
    have := ntkL_tot l
    simp only [Val.ntk, Val.tot]
    split <;> omega
theorem ntkL_tot : ∀ l : List Val, ntkL l ≤ 2 * totL l
  | [] => Nat.le_refl _
  | v :: r => by
    have h1 := ntk_tot v
    have h2 := ntkL_tot r
    simp only [ntkL, totL]; omega
end
def fndOf (cl : Int) (l : List Val) : Fnd := ⟨(depL l : Int), (ntkL l : Int), badL cl l⟩
theorem depL_append (a b : List Val) : depL (a ++ b) = max (depL a) (depL b) := by
  induction a with
  | nil => simp [depL]
  | cons v a ih => simp only [List.cons_append, depL, ih]; omega
theorem ntkL_append (a b : List Val) : ntkL (a ++ b) = ntkL a + ntkL b := by
  induction a with
  | nil => simp [ntkL]
  | cons v a ih => simp [ntkL, ih]; omega
theorem badL_append (cl : Int) (a b : List Val) : badL cl (a ++ b) = (badL cl a || badL cl b) := by
  induction a with
  | nil => simp [badL]
  | cons v a ih => simp [badL, ih, Bool.or_assoc]
theorem take_snoc {α : Type} {l : List α} {i : Nat} {v : α} (h : l[i]? = some v) : l.take (i + 1) = l.take i ++ [v] := by rw [List.take_add_one, h]; rfl
mutual
def Val.tks : Val → List Tok
  | .mk t l => t :: (if closerK t.k = 0 then [] else tksL l ++ [Tok.mk (closerK t.k) [] 0 [] false])
def tksL : List Val → List Tok
  | [] => []
  | v :: r => v.tks ++ tksL r
end
theorem Val.tks_eq (v : Val) : v.tks = v.tok :: (if closerK v.tok.k = 0 then [] else tksL v.l ++ [Tok.mk (closerK v.tok.k) [] 0 [] false]) := by cases v; rfl
theorem tksL_append (a b : List Val) : tksL (a ++ b) = tksL a ++ tksL b := by
  induction a with
  | nil => simp [tksL]
  | cons v a ih => simp only [List.cons_append, tksL, ih, List.append_assoc]
mutual
theorem tks_len : ∀ v : Val, v.tks.length = v.ntk
  | .mk t l => by
    have := tksL_len l
    simp only [Val.tks, Val.ntk]
    split
    · rfl
    · simp [this]; omega
theorem tksL_len : ∀ l : List Val, (tksL l).length = ntkL l
  | [] => rfl
  | v :: r => by simp only [tksL, ntkL, List.length_append, tks_len v, tksL_len r]
end
end Go.Tev
namespace Go.Tev.S1
open Go.Abs
structure TyB where
  T : Type
  enc : T → DV
  dflt : T
  keq : T → T → Bool
  nm : Bool
  key : Bool
  dok : Bool
def tyB : Nat → TyB
  | 2 => ⟨Int, fun v => .int .i64 v, (0 : Int), BEq.beq, true, true, true⟩
  | 3 => ⟨Int, fun v => .int .i64 v, (0 : Int), BEq.beq, true, true, true⟩
  | 4 => ⟨Bool, fun v => .bool v, false, fun _ _ => false, true, false, true⟩
  | 5 => ⟨Int, fun v => .int .u8 v, (0 : Int), BEq.beq, true, true, true⟩
  | 9 => ⟨(List UInt8), fun v => .str v, [], BEq.beq, true, true, true⟩
  | 22 => ⟨(List Cus), fun v => .slc (v.map Cus.enc), [], fun _ _ => false, true, false, true⟩
  | 25 => ⟨Int, fun v => .int .i64 v, (0 : Int), BEq.beq, true, true, true⟩
  | 33 => ⟨(List Val), fun v => .slc (v.map Val.enc), [], fun _ _ => false, true, false, true⟩
  | 40 => ⟨(List (List UInt8)), fun v => .slc (v.map (fun w => .str w)), [], fun _ _ => false, true, false, true⟩
  | 53 => ⟨Cus, fun v => v.enc, Cus.mk ([]) ([]), fun _ _ => false, true, false, true⟩
  | 58 => ⟨Tok, fun v => v.enc, Tok.mk ((0 : Int)) ([]) ((0 : Int)) ([]) (false), fun _ _ => false, true, false, true⟩
  | 60 => ⟨Val, fun v => v.enc, Val.mk (Tok.mk ((0 : Int)) ([]) ((0 : Int)) ([]) (false)) ([]), fun _ _ => false, true, false, true⟩
  | 61 => ⟨(List ((List UInt8) × Bool)), fun v => .fmap (v.map fun p => (.str p.1, .bool p.2)), [], fun _ _ => false, false, false, false⟩
  | 70 => ⟨(List ((List UInt8) × (List Val))), fun v => .fmap (v.map fun p => (.str p.1, .slc (p.2.map Val.enc))), [], fun _ _ => false, false, false, false⟩
  | 74 => ⟨Fnd, fun v => v.enc, Fnd.mk ((0 : Int)) ((0 : Int)) (false), fun _ _ => false, true, false, true⟩
  | 78 => ⟨(List Tok), fun v => .slc (v.map Tok.enc), [], fun _ _ => false, true, false, true⟩
  | 81 => ⟨(List (List Bool)), fun v => .slc (v.map (fun w => .slc (w.map (fun w => .bool w)))), [], fun _ _ => false, true, false, true⟩
  | 83 => ⟨(List Bool), fun v => .slc (v.map (fun w => .bool w)), [], fun _ _ => false, true, false, true⟩
  | 98 => ⟨(List ((List UInt8) × (List ((List UInt8) × Bool)))), fun v => .fmap (v.map fun p => (.str p.1, .fmap (p.2.map fun p => (.str p.1, .bool p.2)))), [], fun _ _ => false, false, false, false⟩
  | 102 => ⟨(List Int), fun v => .slc (v.map (fun w => .int .u8 w)), [], fun _ _ => false, true, false, true⟩
  | _ => ⟨Unit, fun _ => .nilf, (), fun _ _ => false, false, false, false⟩
abbrev X (t : Nat) : Type := (tyB t).T
def inj : (t : Nat) → Option (X t → TV X)
  | 2 => some fun (v : Int) => .i .i64 v
  | 3 => some fun (v : Int) => .i .i64 v
  | 4 => some fun (v : Bool) => .b v
  | 5 => some fun (v : Int) => .i .u8 v
  | 9 => some fun (v : (List UInt8)) => .s v
  | 22 => some fun (v : (List Cus)) => .l 53 v
  | 25 => some fun (v : Int) => .i .i64 v
  | 33 => some fun (v : (List Val)) => .l 60 v
  | 40 => some fun (v : (List (List UInt8))) => .l 9 v
  | 53 => some fun (v : Cus) => .t 53 v
  | 58 => some fun (v : Tok) => .t 58 v
  | 60 => some fun (v : Val) => .t 60 v
  | 61 => some fun (v : (List ((List UInt8) × Bool))) => .m 9 4 v
  | 70 => some fun (v : (List ((List UInt8) × (List Val)))) => .m 9 33 v
  | 74 => some fun (v : Fnd) => .t 74 v
  | 78 => some fun (v : (List Tok)) => .l 58 v
  | 81 => some fun (v : (List (List Bool))) => .l 83 v
  | 83 => some fun (v : (List Bool)) => .l 4 v
  | 98 => some fun (v : (List ((List UInt8) × (List ((List UInt8) × Bool))))) => .m 9 61 v
  | 102 => some fun (v : (List Int)) => .l 5 v
  | _ => none
def cells : (t : Nat) → Option (X t → List (TV X))
  | 2 => some fun (v : Int) => [.i .i64 v]
  | 3 => some fun (v : Int) => [.i .i64 v]
  | 4 => some fun (v : Bool) => [.b v]
  | 5 => some fun (v : Int) => [.i .u8 v]
  | 9 => some fun (v : (List UInt8)) => [.s v]
  | 22 => some fun (v : (List Cus)) => [.l 53 v]
  | 25 => some fun (v : Int) => [.i .i64 v]
  | 33 => some fun (v : (List Val)) => [.l 60 v]
  | 40 => some fun (v : (List (List UInt8))) => [.l 9 v]
  | 53 => some fun (v : Cus) => [.s v.name, .l 60 v.val]
  | 58 => some fun (v : Tok) => [.i .u8 v.k, .s v.t, .i .i64 v.n, .s v.u, .b v.f]
  | 60 => some fun (v : Val) => [.i .u8 v.tok.k, .s v.tok.t, .i .i64 v.tok.n, .s v.tok.u, .b v.tok.f, .l 60 v.l]
  | 61 => some fun (v : (List ((List UInt8) × Bool))) => [.m 9 4 v]
  | 70 => some fun (v : (List ((List UInt8) × (List Val)))) => [.m 9 33 v]
  | 74 => some fun (v : Fnd) => [.i .i64 v.d, .i .i64 v.t, .b v.b]
  | 78 => some fun (v : (List Tok)) => [.l 58 v]
  | 81 => some fun (v : (List (List Bool))) => [.l 83 v]
  | 83 => some fun (v : (List Bool)) => [.l 4 v]
  | 98 => some fun (v : (List ((List UInt8) × (List ((List UInt8) × Bool))))) => [.m 9 61 v]
  | 102 => some fun (v : (List Int)) => [.l 5 v]
  | _ => none
def csz : Nat → Option Nat
  | 2 => some 1
  | 3 => some 1
  | 4 => some 1
  | 5 => some 1
  | 9 => some 1
  | 22 => some 1
  | 25 => some 1
  | 33 => some 1
  | 40 => some 1
  | 53 => some 2
  | 58 => some 5
  | 60 => some 6
  | 61 => some 1
  | 70 => some 1
  | 74 => some 3
  | 78 => some 1
  | 81 => some 1
  | 83 => some 1
  | 98 => some 1
  | 102 => some 1
  | _ => none
def pack53 : List (TV X) → Option Cus
  | [x0, x1] => (match (asS x0 : Option (List UInt8)), (asL 60 x1 : Option (List Val)) with
    | some y0, some y1 => some (Cus.mk y0 y1)
    | _, _ => none)
  | _ => none
def pack58 : List (TV X) → Option Tok
  | [x0, x1, x2, x3, x4] => (match (asI .u8 x0 : Option Int), (asS x1 : Option (List UInt8)), (asI .i64 x2 : Option Int), (asS x3 : Option (List UInt8)), (asB x4 : Option Bool) with
    | some y0, some y1, some y2, some y3, some y4 => some (Tok.mk y0 y1 y2 y3 y4)
    | _, _, _, _, _ => none)
  | _ => none
def pack60 : List (TV X) → Option Val
  | [x0, x1, x2, x3, x4, x5] => (match (asI .u8 x0 : Option Int), (asS x1 : Option (List UInt8)), (asI .i64 x2 : Option Int), (asS x3 : Option (List UInt8)), (asB x4 : Option Bool), (asL 60 x5 : Option (List Val)) with
    | some y0, some y1, some y2, some y3, some y4, some y5 => some (Val.mk (Tok.mk y0 y1 y2 y3 y4) y5)
    | _, _, _, _, _, _ => none)
  | _ => none
def pack74 : List (TV X) → Option Fnd
  | [x0, x1, x2] => (match (asI .i64 x0 : Option Int), (asI .i64 x1 : Option Int), (asB x2 : Option Bool) with
    | some y0, some y1, some y2 => some (Fnd.mk y0 y1 y2)
    | _, _, _ => none)
  | _ => none
def tr {F : Nat → Type} {a t : Nat} (h : t = a) (v : F a) : F t := h ▸ v
def pack (t : Nat) : List (TV X) → Option (X t) :=
  if h : t = 53 then tr (F := fun t => List (TV X) → Option (X t)) h pack53 else
  if h : t = 58 then tr (F := fun t => List (TV X) → Option (X t)) h pack58 else
  if h : t = 60 then tr (F := fun t => List (TV X) → Option (X t)) h pack60 else
  if h : t = 74 then tr (F := fun t => List (TV X) → Option (X t)) h pack74 else
  fun _ => none
def prj (t : Nat) : TV X → Option (X t) :=
  if h : t = 2 then tr (F := fun t => TV X → Option (X t)) h (fun v => asI .i64 v) else
  if h : t = 3 then tr (F := fun t => TV X → Option (X t)) h (fun v => asI .i64 v) else
  if h : t = 4 then tr (F := fun t => TV X → Option (X t)) h (fun v => asB v) else
  if h : t = 5 then tr (F := fun t => TV X → Option (X t)) h (fun v => asI .u8 v) else
  if h : t = 9 then tr (F := fun t => TV X → Option (X t)) h (fun v => asS v) else
  if h : t = 22 then tr (F := fun t => TV X → Option (X t)) h (fun v => asL 53 v) else
  if h : t = 25 then tr (F := fun t => TV X → Option (X t)) h (fun v => asI .i64 v) else
  if h : t = 33 then tr (F := fun t => TV X → Option (X t)) h (fun v => asL 60 v) else
  if h : t = 40 then tr (F := fun t => TV X → Option (X t)) h (fun v => asL 9 v) else
  if h : t = 53 then tr (F := fun t => TV X → Option (X t)) h (fun v => asT 53 pack53 v) else
  if h : t = 58 then tr (F := fun t => TV X → Option (X t)) h (fun v => asT 58 pack58 v) else
  if h : t = 60 then tr (F := fun t => TV X → Option (X t)) h (fun v => asT 60 pack60 v) else
  if h : t = 61 then tr (F := fun t => TV X → Option (X t)) h (fun v => asM 9 4 v) else
  if h : t = 70 then tr (F := fun t => TV X → Option (X t)) h (fun v => asM 9 33 v) else
  if h : t = 74 then tr (F := fun t => TV X → Option (X t)) h (fun v => asT 74 pack74 v) else
  if h : t = 78 then tr (F := fun t => TV X → Option (X t)) h (fun v => asL 58 v) else
  if h : t = 81 then tr (F := fun t => TV X → Option (X t)) h (fun v => asL 83 v) else
  if h : t = 83 then tr (F := fun t => TV X → Option (X t)) h (fun v => asL 4 v) else
  if h : t = 98 then tr (F := fun t => TV X → Option (X t)) h (fun v => asM 9 61 v) else
  if h : t = 102 then tr (F := fun t => TV X → Option (X t)) h (fun v => asL 5 v) else
  fun _ => none
def zcells : (t : Nat) → Option (List (TV X))
  | 2 => some [.i .i64 0]
  | 3 => some [.i .i64 0]
  | 4 => some [.b false]
  | 5 => some [.i .u8 0]
  | 9 => some [.s []]
  | 22 => some [.e0]
  | 25 => some [.i .i64 0]
  | 33 => some [.e0]
  | 40 => some [.e0]
  | 53 => some [.s [], .e0]
  | 58 => some [.i .u8 0, .s [], .i .i64 0, .s [], .b false]
  | 60 => some [.i .u8 0, .s [], .i .i64 0, .s [], .b false, .e0]
  | 61 => some [.nilm]
  | 70 => some [.nilm]
  | 74 => some [.i .i64 0, .i .i64 0, .b false]
  | 78 => some [.e0]
  | 81 => some [.e0]
  | 83 => some [.e0]
  | 98 => some [.nilm]
  | 102 => some [.e0]
  | _ => none
def bytes : (e : Nat) → Option ((List UInt8 → List (X e)) × (List (X e) → List UInt8))
  | 5 => some (fun b => (b.map fun c => (c.toNat : Int) : List Int), fun (l : List Int) => l.map fun n => UInt8.ofNat n.toNat)
  | _ => none
def eqT : (t : Nat) → Option (X t → X t → Bool)
  | 58 => some fun (a b : Tok) => (a.k == b.k) && (a.t == b.t) && (a.n == b.n) && (a.u == b.u) && (a.f == b.f)
  | 74 => some fun (a b : Fnd) => (a.d == b.d) && (a.t == b.t) && (a.b == b.b)
  | _ => none
def U : Uni := ⟨X, fun t => (tyB t).enc, fun t => (tyB t).dflt, fun t => (tyB t).keq, fun t => (tyB t).nm, fun t => (tyB t).key, fun t => (tyB t).dok, inj, cells, csz, prj, pack, zcells, eqT, bytes⟩
def isT : Nat → Bool
  | 53 => true
  | 58 => true
  | 60 => true
  | 74 => true
  | _ => false
theorem ok_inj (t : Nat) (f : U.X t → TV U.X) (y : U.X t) (h : U.inj t = some f) : (f y).dv U = some (U.enc t y) := by
  change inj t = some f at h
  unfold inj at h
  split at h <;> cases h <;> rfl
theorem asI_dv {k : IntKind} {v : TV U.X} {n : Int} (h : asI k v = some n) : v.dv U = some (.int k n) := by
  cases v <;> simp only [asI] at h <;> (try (cases h; done))
  obtain ⟨h1, h2⟩ := bif_some h
  have := of_decide_eq_true h1
  subst this
  cases h2
  rfl
theorem asB_dv {v : TV U.X} {n : Bool} (h : asB v = some n) : v.dv U = some (.bool n) := by
  cases v <;> simp only [asB] at h <;> (try (cases h; done))
  cases h; rfl
theorem asS_dv {v : TV U.X} {n : List UInt8} (h : asS v = some n) : v.dv U = some (.str n) := by
  cases v <;> simp only [asS] at h <;> (try (cases h; done))
  cases h; rfl
theorem asL_dv {e : Nat} {v : TV U.X} {n : List (U.X e)} (h : asL e v = some n) : v.dv U = some (.slc (n.map (U.enc e))) := by
  cases v <;> simp only [asL] at h <;> (try (cases h; done))
  · obtain ⟨he, hc⟩ := castL_ok h
    subst he
    cases hc
    rfl
  · cases h; rfl
theorem asM_dv {k v : Nat} {w : TV U.X} {n : List (U.X k × U.X v)} (h : asM k v w = some n) : w.dv U = some (.fmap (n.map fun p => (U.enc k p.1, U.enc v p.2))) := by
  cases w <;> simp only [asM] at h <;> (try (cases h; done))
  split at h
  · rename_i e1 h1
    obtain ⟨he, h1⟩ := castX_ok h1
    subst he
    cases h1
    obtain ⟨he, h⟩ := castX_ok h
    subst he
    cases h
    rfl
  · cases h
theorem ok_pack53 (cs : List (TV X)) (y : Cus) (h : pack53 cs = some y) : ∃ ds, dvL U cs = some ds ∧ Cus.enc y = .agg ds := by
  unfold pack53 at h
  split at h
  · split at h
    · rename_i h0 h1
      cases h
      exact ⟨_, dvL_mk (asS_dv h0) (dvL_one (asL_dv h1)), by first | rfl | exact enc_val _⟩
    · cases h
  · cases h
theorem ok_pack58 (cs : List (TV X)) (y : Tok) (h : pack58 cs = some y) : ∃ ds, dvL U cs = some ds ∧ Tok.enc y = .agg ds := by
  unfold pack58 at h
  split at h
  · split at h
    · rename_i h0 h1 h2 h3 h4
      cases h
      exact ⟨_, dvL_mk (asI_dv h0) (dvL_mk (asS_dv h1) (dvL_mk (asI_dv h2) (dvL_mk (asS_dv h3) (dvL_one (asB_dv h4))))), by first | rfl | exact enc_val _⟩
    · cases h
  · cases h
theorem ok_pack60 (cs : List (TV X)) (y : Val) (h : pack60 cs = some y) : ∃ ds, dvL U cs = some ds ∧ Val.enc y = .agg ds := by
  unfold pack60 at h
  split at h
  · split at h
    · rename_i h0 h1 h2 h3 h4 h5
      cases h
      exact ⟨_, dvL_mk (asI_dv h0) (dvL_mk (asS_dv h1) (dvL_mk (asI_dv h2) (dvL_mk (asS_dv h3) (dvL_mk (asB_dv h4) (dvL_one (asL_dv h5)))))), by first | rfl | exact enc_val _⟩
    · cases h
  · cases h
theorem ok_pack74 (cs : List (TV X)) (y : Fnd) (h : pack74 cs = some y) : ∃ ds, dvL U cs = some ds ∧ Fnd.enc y = .agg ds := by
  unfold pack74 at h
  split at h
  · split at h
    · rename_i h0 h1 h2
      cases h
      exact ⟨_, dvL_mk (asI_dv h0) (dvL_mk (asI_dv h1) (dvL_one (asB_dv h2))), by first | rfl | exact enc_val _⟩
    · cases h
  · cases h
theorem ok_pack (t : Nat) (cs : List (TV X)) (y : X t) (h : pack t cs = some y) : ∃ ds, dvL U cs = some ds ∧ U.enc t y = .agg ds := by
  unfold pack at h
  repeat' (split at h)
  all_goals (try subst t)
  all_goals first | exact ok_pack53 _ _ h | exact ok_pack58 _ _ h | exact ok_pack60 _ _ h | exact ok_pack74 _ _ h | (cases h; done)
theorem ok_cells (t : Nat) (f : U.X t → List (TV U.X)) (y : U.X t) (h : U.cells t = some f) : dvL U (f y) = some (U.enc t y).cells := by
  change cells t = some f at h
  unfold cells at h
  split at h <;> cases h <;> first | rfl | (exact (congrArg (fun d => some (DV.cells d)) (enc_val y)).symm ▸ rfl)
theorem asT_dv {t : Nat} {pk : List (TV U.X) → Option (U.X t)} (hp : ∀ cs y, pk cs = some y → ∃ ds, dvL U cs = some ds ∧ U.enc t y = .agg ds) {v : TV U.X} {y : U.X t} (h : asT t pk v = some y) : v.dv U = some (U.enc t y) := by
  cases v <;> simp only [asT] at h <;> (try (cases h; done))
  · obtain ⟨he, hc⟩ := castX_ok h
    subst he
    cases hc
    rfl
  · obtain ⟨ds, h1, h2⟩ := hp _ _ h
    simp only [TV.dv]
    rw [h1, Option.map_some, ← h2]
theorem ok_prj (t : Nat) (v : TV X) (y : X t) (h : prj t v = some y) : v.dv U = some (U.enc t y) := by
  by_cases h2 : t = 2
  · subst h2; exact asI_dv h
  by_cases h3 : t = 3
  · subst h3; exact asI_dv h
  by_cases h4 : t = 4
  · subst h4; exact asB_dv h
  by_cases h5 : t = 5
  · subst h5; exact asI_dv h
  by_cases h9 : t = 9
  · subst h9; exact asS_dv h
  by_cases h22 : t = 22
  · subst h22; exact asL_dv (e := 53) h
  by_cases h25 : t = 25
  · subst h25; exact asI_dv h
  by_cases h33 : t = 33
  · subst h33; exact asL_dv (e := 60) h
  by_cases h40 : t = 40
  · subst h40; exact asL_dv (e := 9) h
  by_cases h53 : t = 53
  · subst h53; exact asT_dv (t := 53) (pk := pack53) ok_pack53 h
  by_cases h58 : t = 58
  · subst h58; exact asT_dv (t := 58) (pk := pack58) ok_pack58 h
  by_cases h60 : t = 60
  · subst h60; exact asT_dv (t := 60) (pk := pack60) ok_pack60 h
  by_cases h61 : t = 61
  · subst h61; exact asM_dv (k := 9) (v := 4) h
  by_cases h70 : t = 70
  · subst h70; exact asM_dv (k := 9) (v := 33) h
  by_cases h74 : t = 74
  · subst h74; exact asT_dv (t := 74) (pk := pack74) ok_pack74 h
  by_cases h78 : t = 78
  · subst h78; exact asL_dv (e := 58) h
  by_cases h81 : t = 81
  · subst h81; exact asL_dv (e := 83) h
  by_cases h83 : t = 83
  · subst h83; exact asL_dv (e := 4) h
  by_cases h98 : t = 98
  · subst h98; exact asM_dv (k := 9) (v := 61) h
  by_cases h102 : t = 102
  · subst h102; exact asL_dv (e := 5) h
  simp only [prj, h2, h3, h4, h5, h9, h22, h25, h33, h40, h53, h58, h60, h61, h70, h74, h78, h81, h83, h98, h102, dite_false] at h
  cases h
theorem ok_csz (t n : Nat) (y : U.X t) (h : U.csz t = some n) : (U.enc t y).cells.length = n := by
  change csz t = some n at h
  unfold csz at h
  split at h <;> cases h <;> first | rfl | exact (congrArg (fun d => (DV.cells d).length) (enc_val y))
theorem ok_ok (t : Nat) (y : U.X t) : (U.enc t y).cellOk = true := by
  obtain ⟨b, hb⟩ : ∃ b, tyB t = b := ⟨_, rfl⟩
  have h2 := hb
  unfold tyB at h2
  split at h2
  all_goals first | rfl | exact congrArg DV.cellOk (enc_val y) | (revert y; change ∀ y : (tyB _).T, ((tyB _).enc y).cellOk = true; rw [hb, ← h2]; intro y; rfl)
theorem ok_noagg (C : Abs.Ctx) (hC : ∀ t, (U.cells t).isSome = true → C.isAgg t = some (isT t)) (t n : Nat) (y : U.X t) (h : C.isAgg t = some false) (h2 : U.csz t = some n) : ∀ cs, U.enc t y ≠ .agg cs := by
  have h3 : (U.cells t).isSome = true → isT t = false := fun hs => by
    have := hC t hs
    rw [h] at this
    simpa using this.symm
  change csz t = some n at h2
  revert y h3
  change ∀ y : (tyB t).T, ((cells t).isSome = true → isT t = false) → ∀ cs, (tyB t).enc y ≠ .agg cs
  unfold csz at h2
  split at h2 <;> (try (cases h2; done)) <;> intro y h3 cs he <;> first | (cases he; done) | (have := h3 rfl; cases this; done)
theorem ok_agg (C : Abs.Ctx) (hC : ∀ t, (U.cells t).isSome = true → C.isAgg t = some (isT t)) (t : Nat) (f : U.X t → List (TV U.X)) (y : U.X t) (h : C.isAgg t = some true) (h2 : U.cells t = some f) : U.enc t y = .agg (U.enc t y).cells := by
  have h3 : isT t = true := by
    have := hC t (by rw [h2]; rfl)
    rw [h] at this
    simpa using this.symm
  change cells t = some f at h2
  revert y h3
  change ∀ y : (tyB t).T, isT t = true → (tyB t).enc y = .agg ((tyB t).enc y).cells
  clear h
  revert h2
  unfold cells
  split <;> intro h2 <;> (try (cases h2; done)) <;> intro y h3 <;> first | rfl | (cases h3; done) | (exact (enc_val y).trans (congrArg (fun d => DV.agg (DV.cells d)) (enc_val y).symm))
theorem ok_keq (t : Nat) (a b : U.X t) (h : U.isKey t = true) : keyEq (U.enc t a) (U.enc t b) = some (U.keq t a b) := by
  obtain ⟨c, hc⟩ : ∃ c, tyB t = c := ⟨_, rfl⟩
  have h2 := hc
  unfold tyB at h2
  split at h2
  all_goals first | rfl | (cases h; done) | (exfalso; change (tyB _).key = true at h; rw [hc, ← h2] at h; cases h; done) | skip
  all_goals (change keyEq (.int _ _) (.int _ _) = _; simp only [keyEq, if_true]; rfl)
theorem ok_noMap (t : Nat) (y : U.X t) (h : U.noMap t = true) : (U.enc t y).noMap = true := by
  obtain ⟨c, hc⟩ : ∃ c, tyB t = c := ⟨_, rfl⟩
  have h2 := hc
  unfold tyB at h2
  split at h2
  all_goals first | rfl | (cases h; done) | exact nm_vals y | exact nm_val y | exact nm_cus y | exact nm_cuss y | exact nm_toks y | exact nm_strs y | exact nm_bools y | exact nm_bools2 y | exact nm_u8s y | (exfalso; change (tyB _).nm = true at h; rw [hc, ← h2] at h; cases h; done)
theorem ok_bytes (e : Nat) (f : List UInt8 → List (U.X e)) (g : List (U.X e) → List UInt8) (h : U.bytes e = some (f, g)) : (∀ b, (f b).map (U.enc e) = b.map fun c => .int .u8 c.toNat) ∧ ∀ xs, bytesDs (xs.map (U.enc e)) = some (g xs) := by
  change bytes e = some (f, g) at h
  unfold bytes at h
  split at h <;> cases h
  refine ⟨fun b => ?_, fun xs => ?_⟩
  · change (b.map fun c => (c.toNat : Int)).map (fun v => DV.int .u8 v) = _
    rw [List.map_map]; rfl
  · have key : ∀ l : List Int, bytesDs (l.map fun v => DV.int .u8 v) = some (l.map fun n => UInt8.ofNat n.toNat) := by
      intro l
      induction l with
      | nil => rfl
      | cons n l ih => simp only [List.map_cons, bytesDs, ih, Option.map_some]
    exact key xs

end Go.Tev.S1
