/- A certified evaluator for the walked functions, and their contracts, for VarsReplaces. -/
import Derived.Test.YtnmlodkomklpfaaLG
import Derived.Test.YtnmlodkomklpfaaLH
set_option linter.unusedVariables false
set_option linter.unusedSimpArgs false
namespace Go.Tev
open Go.Abs
section
variable {x : Cx} {ρ : List Rf} {h0 : Base} {s : TSt x.X} {a : St}
/-- what is to be shown of a loop, its fuel and its outer slots apart -/
def LawP (x : Cx) (h0 : Base) (call : CallT) (fa : FA) (n m : Nat) (c : Code) {R : Type} (L : LRun x.U R) : Prop := ∀ (k : TOut x.X → Option R) (s : TSt x.X) (z : R), s.tmp = [] → L k s = some z → ∀ e0 ρ a, (∀ t, (alook s.env t).isSome = true → (alook e0 t).isSome = true) → Rel x.U ρ h0 s a →
  ∃ o' o σ, k o' = some z ∧ iter (evQ x.C call fa n c) e0 m a = some o ∧ TORel x σ h0 o' o
theorem LawP.law {call : CallT} {fa : FA} {n : Nat} {c : Code} {R : Type} {L : LRun x.U R} (h : LawP x h0 call fa n n c L) : Law x h0 call fa n c L := fun k s z ht hz ρ a r => h k s z ht hz a.env ρ a (fun t ht => by
  obtain ⟨v, hv⟩ := Option.isSome_iff_exists.1 ht
  obtain ⟨w, hw, _⟩ := r.env t v hv
  rw [hw]; rfl) r
/-- the first round apart -/
def peelL (x : Cx) (fa : FA) {R : Type} (sums : Sums x R) (id : Nat) (body : Code) (L : LRun x.U R) : LRun x.U R := fun k s =>
  evL x fa sums id body (fun o => match o with
    | .norm s' => L k { s' with env := trimT s.env s'.env }
    | .exit i s' => k (.exit i s')
    | .ret s' => k (.ret s')) s
theorem law_peel (ok : x.U.Ok x.C) {call : CallT} (hT : CallsOk x call) {R : Type} {fa : FA} {n m : Nat} {sums : Sums x R} {id : Nat} {body : Code} (hS : ∀ i c' L, (i, c') ∈ loopsOf id body → alook sums i = some L → Law x h0 call fa n c' L)
    {L : LRun x.U R} (hL : LawP x h0 call fa n m body L) : LawP x h0 call fa n (m + 1) body (peelL x fa sums id body L) := by
  intro k s z ht h e0 ρ a hcv r
  unfold peelL at h
  obtain ⟨o', o, σ, h1, h2, h3⟩ := evL_ok ok hT n body hS ht h ρ a r
  cases h3 with
  | norm s1 a1 ht1 r1 =>
    simp only at h1
    have hk : ∀ t v, alook (trimT s.env s1.env) t = some v → alook s1.env t = some v ∧ (alook s.env t).isSome = true := fun t v hv => by
      obtain ⟨h1, h2⟩ := alook_trimT _ _ _ _ hv
      exact ⟨h1, by first | exact h2 | simpa using h2⟩
    have r2 : Rel x.U σ h0 { s1 with env := trimT s.env s1.env } (a1.trim e0) := by
      refine ⟨fun t v hv => ?_, r1.tmp.same rfl, r1.heap⟩
      obtain ⟨g1, g2⟩ := hk t v hv
      obtain ⟨w, g3, g4⟩ := r1.env t v g1
      refine ⟨w, ?_, g4⟩
      simp only [St.trim]
      rw [alook_trimE _ _ _ (hcv t g2), g3]
    obtain ⟨o2', o2, τ, k1, k2, k3⟩ := hL k { s1 with env := trimT s.env s1.env } z ht1 h1 e0 σ (a1.trim e0) (fun t ht => by
      obtain ⟨v, hv⟩ := Option.isSome_iff_exists.1 ht
      exact hcv t (hk t v hv).2) r2
    exact ⟨o2', o2, τ, k1, by simp only [iter, h2, k2], k3⟩
  | exit i s1 a1 ht1 r1 => exact ⟨_, _, σ, h1, by simp only [iter, h2], .exit _ _ _ ht1 r1⟩
  | ret s1 a1 ht1 r1 => exact ⟨_, _, σ, h1, by simp only [iter, h2], .ret _ _ ht1 r1⟩
theorem law_ofP (ok : x.U.Ok x.C) {call : CallT} (hT : CallsOk x call) {R : Type} {fa : FA} {n q : Nat} {sums : Sums x R} {id : Nat} {body : Code} (hS : ∀ i c' L, (i, c') ∈ loopsOf id body → alook sums i = some L → Law x h0 call fa n c' L)
    (D : LD) (hnr : h0.nr ≤ D.nr) (g : LG x.U R D) (hg : ∀ c kx kr y k1, evL x fa sums id body (kontL x.U D kx kr k1) (encS x.U D.cap D.din c y) = g c (fun i z => kx i c z) kr y (fun y' => k1 c y')) : LawP x h0 call fa n q body (runL x.U D g q) := by
  intro k s z ht h e0 ρ a hcv r
  unfold runL at h
  split at h
  · rename_i c y hc hy
    obtain ⟨hb, hc⟩ := bif_some hc
    have hnd : h0.nr ≤ nHeap D.din := Nat.le_trans hnr (Nat.le_of_ble_eq_true hb)
    have key : ∀ (e0 : List (Nat × SV)), (∀ t ∈ slotsOf D.cap ++ slotsOf D.din, (alook e0 t).isSome = true) → ∀ (m : Nat) (c : PI x.X D.cap) (y : PI x.X D.din) ρ a,
        loopT (g c (fun i z => k (.exit i (encS x.U D.cap (D.ex i) c z))) (fun z => k (.ret (encS x.U [] D.ret () z)))) m y = some z → Rel x.U ρ h0 (encS x.U D.cap D.din c y) a →
        ∃ o' o σ, k o' = some z ∧ iter (evQ x.C call fa n body) e0 m a = some o ∧ TORel x σ h0 o' o := by
      intro e0 he0 m
      induction m with
      | zero => intro c y ρ a h; cases h
      | succ m ih =>
        intro c y ρ a h r
        simp only [loopT] at h
        have hgg := hg c (fun i c' z => k (.exit i (encS x.U D.cap (D.ex i) c' z))) (fun z => k (.ret (encS x.U [] D.ret () z))) y
          (fun c' y' => loopT (g c' (fun i z => k (.exit i (encS x.U D.cap (D.ex i) c' z))) (fun z => k (.ret (encS x.U [] D.ret () z)))) m y')
        have h' := hgg.trans h
        obtain ⟨o', o, σ, h1, h2, h3⟩ := evL_ok ok hT n body hS rfl h' ρ a r
        cases h3 with
        | norm s1 a1 ht1 r1 =>
          simp only [kontL] at h1
          split at h1
          · rename_i c' y' hc' hy'
            obtain ⟨_, hc'⟩ := bif_some hc'
            have r2 := enc_rel ok hc' hy' r1 ht1 hnd
            have r3 : Rel x.U ((upR s1.heap σ).take (nHeap D.din)) h0 (encS x.U D.cap D.din c' y') (a1.trim e0) := by
              refine ⟨fun t v hv => ?_, r2.tmp, r2.heap⟩
              obtain ⟨w, e1, e2⟩ := r2.env t v hv
              refine ⟨w, ?_, e2⟩
              simp only [St.trim]
              rw [alook_trimE _ _ _ (he0 t ?_), e1]
              have hm := alook_mem hv
              rcases List.mem_append.1 hm with hm | hm
              · exact List.mem_append_left _ (encE_slots hm)
              · exact List.mem_append_right _ (encE_slots hm)
            obtain ⟨o2', o2, τ, k1, k2, k3⟩ := ih c' y' _ _ h1 r3
            exact ⟨o2', o2, τ, k1, by simp only [iter, h2, k2], k3⟩
          · cases h1
        | exit i s1 a1 ht1 r1 =>
          simp only [kontL] at h1
          split at h1
          · rename_i c' y' hc' hy'
            obtain ⟨hb2, hc'⟩ := bif_some hc'
            exact ⟨_, _, _, h1, by simp only [iter, h2], .exit _ _ _ rfl (enc_rel ok hc' hy' r1 ht1 (Nat.le_trans hnr (Nat.le_of_ble_eq_true hb2)))⟩
          · cases h1
        | ret s1 a1 ht1 r1 =>
          simp only [kontL] at h1
          split at h1
          · rename_i y' hy'
            obtain ⟨hb2, hy'⟩ := bif_some hy'
            exact ⟨_, _, _, h1, by simp only [iter, h2], .ret _ _ rfl (enc_rel (cs := []) (c := ()) ok rfl hy' r1 ht1 (Nat.le_trans hnr (Nat.le_of_ble_eq_true hb2)))⟩
          · cases h1
    have hcov : ∀ t ∈ slotsOf D.cap ++ slotsOf D.din, (alook e0 t).isSome = true := by
      intro t hm
      apply hcv
      rcases List.mem_append.1 hm with hm | hm
      · exact dec_slots hc t hm
      · exact dec_slots hy t hm
    exact key e0 hcov q c y _ a h (enc_rel ok hc hy r ht hnd)
  · cases h
end
section
variable {C : Ctx} {call : CallT} {fa : FA}
theorem iter_succ {f : St → Option Out} {e0 : List (Nat × SV)} : ∀ (m : Nat) (st : St) (o : Out), iter f e0 m st = some o → iter f e0 (m + 1) st = some o
  | 0, st, o, h => by cases h
  | m + 1, st, o, h => by
    rw [iter] at h ⊢
    split at h
    · exact iter_succ m _ o h
    · exact h
theorem evQ_succ (n : Nat) : ∀ (c : Code) (st : St) (o : Out), evQ C call fa n c st = some o → evQ C call fa (n + 1) c st = some o := by
  intro c
  induction c with
  | seq p q ihp ihq =>
    intro st o h
    simp only [evQ] at h ⊢
    split at h
    · rename_i st' hs
      rw [ihp _ _ hs]
      exact ihq _ _ h
    · rename_i r hn
      rw [ihp _ _ h]
      split
      · rename_i st' hs
        cases hs
        exact absurd h (hn st')
      · rfl
  | cond c p q ihp ihq =>
    intro st o h
    simp only [evQ] at h ⊢
    split at h
    · rename_i t ht
      cases t with
      | true => exact ihp _ _ h
      | false => exact ihq _ _ h
    · cases h
  | block i c ih =>
    intro st o h
    simp only [evQ] at h ⊢
    cases hq : evQ C call fa n c st with
    | none => rw [hq] at h; cases h
    | some o1 =>
      rw [hq] at h
      rw [ih _ _ hq]
      exact h
  | loop c ih =>
    intro st o h
    simp only [evQ] at h ⊢
    exact iter_succ _ _ _ (iter_imp (fun st o hh => ih st o hh) _ _ _ h)
  | _ => intro st o h; exact h
end
section
variable {x : Cx} {h0 : Base}
theorem LawP.succ {call : CallT} {fa : FA} {n m : Nat} {c : Code} {R : Type} {L : LRun x.U R} (h : LawP x h0 call fa n m c L) : LawP x h0 call fa (n + 1) m c L := fun k s z ht hz e0 ρ a hc r => by
  obtain ⟨o', o, σ, h1, h2, h3⟩ := h k s z ht hz e0 ρ a hc r
  exact ⟨o', o, σ, h1, iter_imp (fun st o hh => evQ_succ n c st o hh) _ _ _ h2, h3⟩
theorem Law.succ {call : CallT} {fa : FA} {n : Nat} {c : Code} {R : Type} {L : LRun x.U R} (h : Law x h0 call fa n c L) : Law x h0 call fa (n + 1) c L := fun k s z ht hz ρ a r => by
  obtain ⟨o', o, σ, h1, h2, h3⟩ := h k s z ht hz ρ a r
  exact ⟨o', o, σ, h1, iter_succ _ _ _ (iter_imp (fun st o hh => evQ_succ n c st o hh) _ _ _ h2), h3⟩
end
end Go.Tev
namespace Go.Tev.S1
open Go.Abs Go.Proofs
-- 34 vitrine/vars.collect
def vars_collect_L0 (c_vars_isVar : Val → Option Bool) (c_vars_parts : Val → Option ((List UInt8) × (List Val) × Bool)) (c_vars_collect : (List Val) → ((List ((List UInt8) × Bool)) × Unit) → Option ((Unit) × ((List ((List UInt8) × Bool)) × Unit))) {R : Type} (n : Nat) (_ : Unit) (a9 : List Val) (a10 : Int) (kx0 : (List ((List UInt8) × Bool)) → Option R)  (y11 : Int) (h1 : List ((List UInt8) × Bool)) (k : Int → (List ((List UInt8) × Bool)) → Option R) : Option R :=
  cond (decide (y11 < a10))
  (Option.bind (getI a9 y11) fun x2 =>
  Option.bind (c_vars_isVar (Val.mk x2.tok x2.l)) fun r3 =>
  Option.bind (cond r3 (c_vars_parts (Val.mk x2.tok x2.l)) (some ([], [], false))) fun r4 =>
  Option.bind (some (cond (r4.1 != []) x2.tok.k x2.tok.k)) fun m5 =>
  Option.bind (some (cond (r4.1 != []) x2.tok.t x2.tok.t)) fun m6 =>
  Option.bind (some (cond (r4.1 != []) x2.tok.n x2.tok.n)) fun m7 =>
  Option.bind (some (cond (r4.1 != []) x2.tok.u x2.tok.u)) fun m8 =>
  Option.bind (some (cond (r4.1 != []) x2.tok.f x2.tok.f)) fun m9 =>
  Option.bind (some (cond (r4.1 != []) x2.l x2.l)) fun m10 =>
  Option.bind (some (cond (r4.1 != []) (mput BEq.beq r4.1 true h1) h1)) fun m11 =>
  Option.bind (some (cond r3 m5 x2.tok.k)) fun m12 =>
  Option.bind (some (cond r3 m6 x2.tok.t)) fun m13 =>
  Option.bind (some (cond r3 m7 x2.tok.n)) fun m14 =>
  Option.bind (some (cond r3 m8 x2.tok.u)) fun m15 =>
  Option.bind (some (cond r3 m9 x2.tok.f)) fun m16 =>
  Option.bind (some (cond r3 m10 x2.l)) fun m17 =>
  Option.bind (some (cond r3 m11 h1)) fun m18 =>
  Option.bind (c_vars_collect m17 (m18, ())) fun w19 =>
  k (IntKind.i64.wrap (y11 + (1 : Int))) w19.2.1)
  (kx0 h1)
def vars_collect (c_vars_isVar : Val → Option Bool) (c_vars_parts : Val → Option ((List UInt8) × (List Val) × Bool)) (c_vars_collect : (List Val) → ((List ((List UInt8) × Bool)) × Unit) → Option ((Unit) × ((List ((List UInt8) × Bool)) × Unit))) (n : Nat) (p0 : List Val) (q1 : List ((List UInt8) × Bool)) : Option ((Unit) × ((List ((List UInt8) × Bool)) × Unit)) :=
  loop2 (vars_collect_L0 c_vars_isVar c_vars_parts c_vars_collect n () p0 (p0.length : Int) (fun z1 =>
  some ((), (z1, ())))) n (0 : Int) q1
abbrev vars_collect_T (c_vars_isVar : Val → Option Bool) (c_vars_parts : Val → Option ((List UInt8) × (List Val) × Bool)) (c_vars_collect : (List Val) → ((List ((List UInt8) × Bool)) × Unit) → Option ((Unit) × ((List ((List UInt8) × Bool)) × Unit))) : List (Nat × TCall X) := [(55, ⟨true, [.ty 60], [4], c_vars_isVar⟩), (56, ⟨true, [.ty 60], [9, 33, 4], c_vars_parts⟩)]
noncomputable abbrev vars_collect_x (c_vars_isVar : Val → Option Bool) (c_vars_parts : Val → Option ((List UInt8) × (List Val) × Bool)) (c_vars_collect : (List Val) → ((List ((List UInt8) × Bool)) × Unit) → Option ((Unit) × ((List ((List UInt8) × Bool)) × Unit))) : Cx := ⟨C, U, vars_collect_T c_vars_isVar c_vars_parts c_vars_collect, [(34, ⟨[.ty 33, .ref (.map 9 4)], [], c_vars_collect⟩)], fun _ => []⟩
theorem vars_collect_ok : okF (C.ann 34) Try.f34 2 = true := by kernel_rfl
abbrev vars_collect_L0_D : LD := ⟨1, [.mp 1 0, .val 9 33, .val 10 2], [.val 11 2, .hmap 9 4], [(0, [.hmap 9 4])], []⟩
abbrev vars_collect_L0_g (c_vars_isVar : Val → Option Bool) (c_vars_parts : Val → Option ((List UInt8) × (List Val) × Bool)) (c_vars_collect : (List Val) → ((List ((List UInt8) × Bool)) × Unit) → Option ((Unit) × ((List ((List UInt8) × Bool)) × Unit))) (n : Nat) : LG U (PX X [] × PR' X (AR.refs [.ty 33, .ref (.map 9 4)])) vars_collect_L0_D := fun c kx kr y k => vars_collect_L0 c_vars_isVar c_vars_parts c_vars_collect n c.1 c.2.1 c.2.2.1 (fun z0 => kx 0 (z0, ())) y.1 y.2.1 (fun z0 z1 => k (z0, z1, ()))
noncomputable abbrev vars_collect_sums (c_vars_isVar : Val → Option Bool) (c_vars_parts : Val → Option ((List UInt8) × (List Val) × Bool)) (c_vars_collect : (List Val) → ((List ((List UInt8) × Bool)) × Unit) → Option ((Unit) × ((List ((List UInt8) × Bool)) × Unit))) (n : Nat) : Sums (vars_collect_x c_vars_isVar c_vars_parts c_vars_collect) (PX X [] × PR' X (AR.refs [.ty 33, .ref (.map 9 4)])) := [(0, runL U vars_collect_L0_D (vars_collect_L0_g c_vars_isVar c_vars_parts c_vars_collect n) n)]
theorem vars_collect_L0_e (c_vars_isVar : Val → Option Bool) (c_vars_parts : Val → Option ((List UInt8) × (List Val) × Bool)) (c_vars_collect : (List Val) → ((List ((List UInt8) × Bool)) × Unit) → Option ((Unit) × ((List ((List UInt8) × Bool)) × Unit))) (n : Nat) : ∀ c kx kr y k1, evL (vars_collect_x c_vars_isVar c_vars_parts c_vars_collect) (ann 34) (vars_collect_sums c_vars_isVar c_vars_parts c_vars_collect n) 0 (loopOf (bodyOf Try.f34) 0) (kontL U vars_collect_L0_D kx kr k1) (encS U vars_collect_L0_D.cap vars_collect_L0_D.din c y) = vars_collect_L0_g c_vars_isVar c_vars_parts c_vars_collect n c (fun i z => kx i c z) kr y (fun y2 => k1 c y2) := by
  intro c kx kr y k1
  kernel_rfl
theorem vars_collect_e (c_vars_isVar : Val → Option Bool) (c_vars_parts : Val → Option ((List UInt8) × (List Val) × Bool)) (c_vars_collect : (List Val) → ((List ((List UInt8) × Bool)) × Unit) → Option ((Unit) × ((List ((List UInt8) × Bool)) × Unit))) (n : Nat) : ∀ a cs, fnR (vars_collect_x c_vars_isVar c_vars_parts c_vars_collect) 34 Try.f34 [.ty 33, .ref (.map 9 4)] [] (vars_collect_sums c_vars_isVar c_vars_parts c_vars_collect n) a cs = vars_collect c_vars_isVar c_vars_parts c_vars_collect n a cs.1 := by
  intro a cs
  kernel_rfl
theorem vars_collect_hT {K : CallT} (c_vars_isVar : Val → Option Bool) (c_vars_parts : Val → Option ((List UInt8) × (List Val) × Bool)) (c_vars_collect : (List Val) → ((List ((List UInt8) × Bool)) × Unit) → Option ((Unit) × ((List ((List UInt8) × Bool)) × Unit))) (h0 : Meets U (callV C K) 55 ⟨true, [.ty 60], [4], c_vars_isVar⟩) (h1 : Meets U (callV C K) 56 ⟨true, [.ty 60], [9, 33, 4], c_vars_parts⟩) (g0 : MeetsR U (callV C K) 34 ⟨[.ty 33, .ref (.map 9 4)], [], c_vars_collect⟩) : CallsOk (vars_collect_x c_vars_isVar c_vars_parts c_vars_collect) (callV C K) :=
  ⟨(mall_cons h0 (mall_cons h1 mall_nil)), (rall_cons g0 rall_nil)⟩
theorem vars_collect_L0_law {K : CallT} (c_vars_isVar : Val → Option Bool) (c_vars_parts : Val → Option ((List UInt8) × (List Val) × Bool)) (c_vars_collect : (List Val) → ((List ((List UInt8) × Bool)) × Unit) → Option ((Unit) × ((List ((List UInt8) × Bool)) × Unit))) (h0 : Meets U (callV C K) 55 ⟨true, [.ty 60], [4], c_vars_isVar⟩) (h1 : Meets U (callV C K) 56 ⟨true, [.ty 60], [9, 33, 4], c_vars_parts⟩) (g0 : MeetsR U (callV C K) 34 ⟨[.ty 33, .ref (.map 9 4)], [], c_vars_collect⟩) (n : Nat) (b0 : Base) (bn0 : b0.nr ≤ 1) : Law (vars_collect_x c_vars_isVar c_vars_parts c_vars_collect) b0 (callV C K) (ann 34) n (loopOf (bodyOf Try.f34) 0) (runL U vars_collect_L0_D (vars_collect_L0_g c_vars_isVar c_vars_parts c_vars_collect n) n) :=
  law_of (x := vars_collect_x c_vars_isVar c_vars_parts c_vars_collect) (id := 0) ok (vars_collect_hT c_vars_isVar c_vars_parts c_vars_collect h0 h1 g0) (sums := vars_collect_sums c_vars_isVar c_vars_parts c_vars_collect n) (laws_none (show loopsOf 0 (loopOf (bodyOf Try.f34) 0) = [] by kernel_rfl)) vars_collect_L0_D bn0 (vars_collect_L0_g c_vars_isVar c_vars_parts c_vars_collect n) (vars_collect_L0_e c_vars_isVar c_vars_parts c_vars_collect n)
theorem vars_collect_meets {K : CallT} (hK : ∀ args h, K 34 args h = none) (c_vars_isVar : Val → Option Bool) (c_vars_parts : Val → Option ((List UInt8) × (List Val) × Bool)) (c_vars_collect : (List Val) → ((List ((List UInt8) × Bool)) × Unit) → Option ((Unit) × ((List ((List UInt8) × Bool)) × Unit))) (h0 : Meets U (callV C K) 55 ⟨true, [.ty 60], [4], c_vars_isVar⟩) (h1 : Meets U (callV C K) 56 ⟨true, [.ty 60], [9, 33, 4], c_vars_parts⟩) (g0 : MeetsR U (callV C K) 34 ⟨[.ty 33, .ref (.map 9 4)], [], c_vars_collect⟩) (t : PX X (AR.tys [.ty 33, .ref (.map 9 4)]) → PR' X (AR.refs [.ty 33, .ref (.map 9 4)]) → Option (PX X [] × PR' X (AR.refs [.ty 33, .ref (.map 9 4)]))) (h : ∀ a cs r, t a cs = some r → ∃ n, vars_collect c_vars_isVar c_vars_parts c_vars_collect n a cs.1 = some r) : MeetsR U (callV C K) 34 ⟨[.ty 33, .ref (.map 9 4)], [], t⟩ := by
  refine fnR_meets (x := vars_collect_x c_vars_isVar c_vars_parts c_vars_collect) (ak := [.ty 33, .ref (.map 9 4)]) (rts := []) ok (vars_collect_hT c_vars_isVar c_vars_parts c_vars_collect h0 h1 g0) hK Try.func34 vars_collect_ok fun a cs r hr => ?_
  obtain ⟨n, hn⟩ := h a cs r hr
  exact ⟨n, vars_collect_sums c_vars_isVar c_vars_parts c_vars_collect n, fun b0 bn0 => (laws_ids (ids := [0]) (by kernel_rfl) (by decide) (fun i hi => by
    simp only [List.mem_cons, List.not_mem_nil, or_false] at hi
    rcases hi with rfl
    · exact laws_one (c2 := loopOf (bodyOf Try.f34) 0) (by kernel_rfl) (by kernel_rfl) (vars_collect_L0_law c_vars_isVar c_vars_parts c_vars_collect h0 h1 g0 _ b0 bn0)
    )), (vars_collect_e c_vars_isVar c_vars_parts c_vars_collect n a cs).trans hn⟩
-- 38 vitrine/vitrineref30.uses
def ref30_uses_L0 (c_ref30_Reference : Val → Option Bool) (c_ref30_Named : Val → Option ((List UInt8) × (List Val) × Bool)) (c_ref30_uses : (List Val) → Option (List (List UInt8))) {R : Type} (n : Nat) (a0 : List Val) (a2 : List (List UInt8)) (kx0 : List (List UInt8) → Option R)  (y3 : List (List UInt8)) (y4 : Int) (k : List (List UInt8) → Int → Option R) : Option R :=
  cond (decide (y4 < (a0.length : Int)))
  (Option.bind (getI a0 y4) fun x2 =>
  Option.bind (c_ref30_Reference (Val.mk x2.tok x2.l)) fun r3 =>
  Option.bind (cond r3 (getI a0 y4) (some zVal)) fun x4 =>
  Option.bind (cond r3 (c_ref30_Named (Val.mk x4.tok x4.l)) (some ([], [], false))) fun r5 =>
  Option.bind (cond (r3 && (r5.1 != [])) (Option.bind (room 16 (y3.length + [r5.1].length)) (fun _ => some (y3 ++ [r5.1]))) (some y3)) fun o6 =>
  Option.bind (some (cond (r5.1 != []) o6 y3)) fun m7 =>
  Option.bind (some (cond r3 m7 y3)) fun m8 =>
  Option.bind (getI a0 y4) fun x9 =>
  Option.bind (c_ref30_uses x9.l) fun r10 =>
  Option.bind (Option.bind (room 16 (m8.length + r10.length)) (fun _ => some (m8 ++ r10))) fun o11 =>
  k o11 (IntKind.i64.wrap (y4 + (1 : Int))))
  (kx0 y3)
def ref30_uses (c_ref30_Reference : Val → Option Bool) (c_ref30_Named : Val → Option ((List UInt8) × (List Val) × Bool)) (c_ref30_uses : (List Val) → Option (List (List UInt8))) (n : Nat) (p0 : List Val)  : Option (List (List UInt8)) :=
  loop2 (ref30_uses_L0 c_ref30_Reference c_ref30_Named c_ref30_uses n p0 [] (fun z1 =>
  some z1)) n [] (0 : Int)
abbrev ref30_uses_T (c_ref30_Reference : Val → Option Bool) (c_ref30_Named : Val → Option ((List UInt8) × (List Val) × Bool)) (c_ref30_uses : (List Val) → Option (List (List UInt8))) : List (Nat × TCall X) := [(60, ⟨true, [.ty 60], [4], c_ref30_Reference⟩), (61, ⟨true, [.ty 60], [9, 33, 4], c_ref30_Named⟩), (38, ⟨true, [.ty 33], [40], c_ref30_uses⟩)]
noncomputable abbrev ref30_uses_x (c_ref30_Reference : Val → Option Bool) (c_ref30_Named : Val → Option ((List UInt8) × (List Val) × Bool)) (c_ref30_uses : (List Val) → Option (List (List UInt8))) : Cx := ⟨C, U, ref30_uses_T c_ref30_Reference c_ref30_Named c_ref30_uses, [], fun _ => []⟩
theorem ref30_uses_ok : okF (C.ann 38) Try.f38 1 = true := by kernel_rfl
abbrev ref30_uses_L0_D : LD := ⟨0, [.val 0 33, .val 2 40], [.own 3 9, .val 4 2], [(0, [.own 3 9])], []⟩
abbrev ref30_uses_L0_g (c_ref30_Reference : Val → Option Bool) (c_ref30_Named : Val → Option ((List UInt8) × (List Val) × Bool)) (c_ref30_uses : (List Val) → Option (List (List UInt8))) (n : Nat) : LG U (PX X [40]) ref30_uses_L0_D := fun c kx kr y k => ref30_uses_L0 c_ref30_Reference c_ref30_Named c_ref30_uses n c.1 c.2.1 (fun z0 => kx 0 (z0, ())) y.1 y.2.1 (fun z0 z1 => k (z0, z1, ()))
noncomputable abbrev ref30_uses_sums (c_ref30_Reference : Val → Option Bool) (c_ref30_Named : Val → Option ((List UInt8) × (List Val) × Bool)) (c_ref30_uses : (List Val) → Option (List (List UInt8))) (n : Nat) : Sums (ref30_uses_x c_ref30_Reference c_ref30_Named c_ref30_uses) (PX X [40]) := [(0, runL U ref30_uses_L0_D (ref30_uses_L0_g c_ref30_Reference c_ref30_Named c_ref30_uses n) n)]
theorem ref30_uses_L0_e (c_ref30_Reference : Val → Option Bool) (c_ref30_Named : Val → Option ((List UInt8) × (List Val) × Bool)) (c_ref30_uses : (List Val) → Option (List (List UInt8))) (n : Nat) : ∀ c kx kr y k1, evL (ref30_uses_x c_ref30_Reference c_ref30_Named c_ref30_uses) (ann 38) (ref30_uses_sums c_ref30_Reference c_ref30_Named c_ref30_uses n) 0 (loopOf (bodyOf Try.f38) 0) (kontL U ref30_uses_L0_D kx kr k1) (encS U ref30_uses_L0_D.cap ref30_uses_L0_D.din c y) = ref30_uses_L0_g c_ref30_Reference c_ref30_Named c_ref30_uses n c (fun i z => kx i c z) kr y (fun y2 => k1 c y2) := by
  intro c kx kr y k1
  kernel_rfl
theorem ref30_uses_e (c_ref30_Reference : Val → Option Bool) (c_ref30_Named : Val → Option ((List UInt8) × (List Val) × Bool)) (c_ref30_uses : (List Val) → Option (List (List UInt8))) (n : Nat) : ∀ a, fnL (ref30_uses_x c_ref30_Reference c_ref30_Named c_ref30_uses) true 38 Try.f38 [.ty 33] [40] (ref30_uses_sums c_ref30_Reference c_ref30_Named c_ref30_uses n) a = ref30_uses c_ref30_Reference c_ref30_Named c_ref30_uses n a := by
  intro a
  kernel_rfl
theorem ref30_uses_hT {K : CallT} (c_ref30_Reference : Val → Option Bool) (c_ref30_Named : Val → Option ((List UInt8) × (List Val) × Bool)) (c_ref30_uses : (List Val) → Option (List (List UInt8))) (h0 : Meets U (callV C K) 60 ⟨true, [.ty 60], [4], c_ref30_Reference⟩) (h1 : Meets U (callV C K) 61 ⟨true, [.ty 60], [9, 33, 4], c_ref30_Named⟩) (h2 : Meets U (callV C K) 38 ⟨true, [.ty 33], [40], c_ref30_uses⟩)  : CallsOk (ref30_uses_x c_ref30_Reference c_ref30_Named c_ref30_uses) (callV C K) :=
  ⟨(mall_cons h0 (mall_cons h1 (mall_cons h2 mall_nil))), rall_nil⟩
theorem ref30_uses_L0_law {K : CallT} (c_ref30_Reference : Val → Option Bool) (c_ref30_Named : Val → Option ((List UInt8) × (List Val) × Bool)) (c_ref30_uses : (List Val) → Option (List (List UInt8))) (h0 : Meets U (callV C K) 60 ⟨true, [.ty 60], [4], c_ref30_Reference⟩) (h1 : Meets U (callV C K) 61 ⟨true, [.ty 60], [9, 33, 4], c_ref30_Named⟩) (h2 : Meets U (callV C K) 38 ⟨true, [.ty 33], [40], c_ref30_uses⟩)  (n : Nat) (b0 : Base) (bn0 : b0.nr ≤ 0) : Law (ref30_uses_x c_ref30_Reference c_ref30_Named c_ref30_uses) b0 (callV C K) (ann 38) n (loopOf (bodyOf Try.f38) 0) (runL U ref30_uses_L0_D (ref30_uses_L0_g c_ref30_Reference c_ref30_Named c_ref30_uses n) n) :=
  law_of (x := ref30_uses_x c_ref30_Reference c_ref30_Named c_ref30_uses) (id := 0) ok (ref30_uses_hT c_ref30_Reference c_ref30_Named c_ref30_uses h0 h1 h2) (sums := ref30_uses_sums c_ref30_Reference c_ref30_Named c_ref30_uses n) (laws_none (show loopsOf 0 (loopOf (bodyOf Try.f38) 0) = [] by kernel_rfl)) ref30_uses_L0_D bn0 (ref30_uses_L0_g c_ref30_Reference c_ref30_Named c_ref30_uses n) (ref30_uses_L0_e c_ref30_Reference c_ref30_Named c_ref30_uses n)
theorem ref30_uses_meets {K : CallT} (hK : ∀ args h, K 38 args h = none) (c_ref30_Reference : Val → Option Bool) (c_ref30_Named : Val → Option ((List UInt8) × (List Val) × Bool)) (c_ref30_uses : (List Val) → Option (List (List UInt8))) (h0 : Meets U (callV C K) 60 ⟨true, [.ty 60], [4], c_ref30_Reference⟩) (h1 : Meets U (callV C K) 61 ⟨true, [.ty 60], [9, 33, 4], c_ref30_Named⟩) (h2 : Meets U (callV C K) 38 ⟨true, [.ty 33], [40], c_ref30_uses⟩)  (t : PX X (AK.tys [.ty 33]) → Option (PX X [40])) (h : ∀ a r, t a = some r → ∃ n, ref30_uses c_ref30_Reference c_ref30_Named c_ref30_uses n a = some r) : Meets U (callV C K) 38 ⟨true, [.ty 33], [40], t⟩ := by
  refine fnL_meets (x := ref30_uses_x c_ref30_Reference c_ref30_Named c_ref30_uses) (ak := [.ty 33]) (rts := [40]) (dir := true) ok (ref30_uses_hT c_ref30_Reference c_ref30_Named c_ref30_uses h0 h1 h2) hK Try.func38 ref30_uses_ok fun a r hr => ?_
  obtain ⟨n, hn⟩ := h a r hr
  exact ⟨n, ref30_uses_sums c_ref30_Reference c_ref30_Named c_ref30_uses n, (laws_ids (ids := [0]) (by kernel_rfl) (by decide) (fun i hi => by
    simp only [List.mem_cons, List.not_mem_nil, or_false] at hi
    rcases hi with rfl
    · exact laws_one (c2 := loopOf (bodyOf Try.f38) 0) (by kernel_rfl) (by kernel_rfl) (ref30_uses_L0_law c_ref30_Reference c_ref30_Named c_ref30_uses h0 h1 h2 _ _ (Nat.le_refl _))
    )), (ref30_uses_e c_ref30_Reference c_ref30_Named c_ref30_uses n a).trans hn⟩
-- 17 vitrine/vitrineref30.Uses
def ref30_Uses (c_ref04_Check : (List Val) → Option Int) (c_ref30_uses : (List Val) → Option (List (List UInt8))) (c_ref30_Sorted : (List (List UInt8)) → Option (List (List UInt8))) (n : Nat) (p0 : List Val)  : Option ((List (List UInt8)) × Int) :=
  Option.bind (c_ref04_Check p0) fun r1 =>
  cond (r1 != (0 : Int))
  (some ([], r1))
  (Option.bind (c_ref30_uses p0) fun r2 =>
  Option.bind (c_ref30_Sorted r2) fun r3 =>
  some (r3, (0 : Int)))
abbrev ref30_Uses_T (c_ref04_Check : (List Val) → Option Int) (c_ref30_uses : (List Val) → Option (List (List UInt8))) (c_ref30_Sorted : (List (List UInt8)) → Option (List (List UInt8))) : List (Nat × TCall X) := [(27, ⟨true, [.ty 33], [3], c_ref04_Check⟩), (38, ⟨true, [.ty 33], [40], c_ref30_uses⟩), (37, ⟨false, [.ty 40], [40], c_ref30_Sorted⟩)]
noncomputable abbrev ref30_Uses_x (c_ref04_Check : (List Val) → Option Int) (c_ref30_uses : (List Val) → Option (List (List UInt8))) (c_ref30_Sorted : (List (List UInt8)) → Option (List (List UInt8))) : Cx := ⟨C, U, ref30_Uses_T c_ref04_Check c_ref30_uses c_ref30_Sorted, [], fun _ => []⟩
theorem ref30_Uses_ok : okF (C.ann 17) Try.f17 1 = true := by kernel_rfl
noncomputable abbrev ref30_Uses_sums (c_ref04_Check : (List Val) → Option Int) (c_ref30_uses : (List Val) → Option (List (List UInt8))) (c_ref30_Sorted : (List (List UInt8)) → Option (List (List UInt8))) (n : Nat) : Sums (ref30_Uses_x c_ref04_Check c_ref30_uses c_ref30_Sorted) (PX X [40, 3]) := []
theorem ref30_Uses_e (c_ref04_Check : (List Val) → Option Int) (c_ref30_uses : (List Val) → Option (List (List UInt8))) (c_ref30_Sorted : (List (List UInt8)) → Option (List (List UInt8))) (n : Nat) : ∀ a, fnL (ref30_Uses_x c_ref04_Check c_ref30_uses c_ref30_Sorted) true 17 Try.f17 [.ty 33] [40, 3] (ref30_Uses_sums c_ref04_Check c_ref30_uses c_ref30_Sorted n) a = ref30_Uses c_ref04_Check c_ref30_uses c_ref30_Sorted n a := by
  intro a
  kernel_rfl
theorem ref30_Uses_hT {K : CallT} (c_ref04_Check : (List Val) → Option Int) (c_ref30_uses : (List Val) → Option (List (List UInt8))) (c_ref30_Sorted : (List (List UInt8)) → Option (List (List UInt8))) (h0 : Meets U (callV C K) 27 ⟨true, [.ty 33], [3], c_ref04_Check⟩) (h1 : Meets U (callV C K) 38 ⟨true, [.ty 33], [40], c_ref30_uses⟩) (h2 : Meets U (callV C K) 37 ⟨false, [.ty 40], [40], c_ref30_Sorted⟩)  : CallsOk (ref30_Uses_x c_ref04_Check c_ref30_uses c_ref30_Sorted) (callV C K) :=
  ⟨(mall_cons h0 (mall_cons h1 (mall_cons h2 mall_nil))), rall_nil⟩
theorem ref30_Uses_meets {K : CallT} (hK : ∀ args h, K 17 args h = none) (c_ref04_Check : (List Val) → Option Int) (c_ref30_uses : (List Val) → Option (List (List UInt8))) (c_ref30_Sorted : (List (List UInt8)) → Option (List (List UInt8))) (h0 : Meets U (callV C K) 27 ⟨true, [.ty 33], [3], c_ref04_Check⟩) (h1 : Meets U (callV C K) 38 ⟨true, [.ty 33], [40], c_ref30_uses⟩) (h2 : Meets U (callV C K) 37 ⟨false, [.ty 40], [40], c_ref30_Sorted⟩)  (t : PX X (AK.tys [.ty 33]) → Option (PX X [40, 3])) (h : ∀ a r, t a = some r → ∃ n, ref30_Uses c_ref04_Check c_ref30_uses c_ref30_Sorted n a = some r) : Meets U (callV C K) 17 ⟨true, [.ty 33], [40, 3], t⟩ := by
  refine fnL_meets (x := ref30_Uses_x c_ref04_Check c_ref30_uses c_ref30_Sorted) (ak := [.ty 33]) (rts := [40, 3]) (dir := true) ok (ref30_Uses_hT c_ref04_Check c_ref30_uses c_ref30_Sorted h0 h1 h2) hK Try.func17 ref30_Uses_ok fun a r hr => ?_
  obtain ⟨n, hn⟩ := h a r hr
  exact ⟨n, ref30_Uses_sums c_ref04_Check c_ref30_uses c_ref30_Sorted n, (laws_none (show loopsOf 0 (bodyOf Try.f17) = [] by kernel_rfl)), (ref30_Uses_e c_ref04_Check c_ref30_uses c_ref30_Sorted n a).trans hn⟩
-- 62 vitrine/vars.measure
def vars_measure_L0 (c_vars_isVar : Val → Option Bool) (c_vars_measure : (List Val) × (List ((List UInt8) × (List Val))) → Option Int) (c_vars_parts : Val → Option ((List UInt8) × (List Val) × Bool)) (c_vars_length : (List Val) → Option Int) {R : Type} (n : Nat) (a1 : List ((List UInt8) × (List Val))) (a14 : List Val) (a15 : Int) (kx0 : Int → Int → Option R) (kr : Int → Option R) (y4 : Int) (y5 : Int) (y16 : Int) (k : Int → Int → Int → Option R) : Option R :=
  cond (decide (y16 < a15))
  (Option.bind (getI a14 y16) fun x4 =>
  Option.bind (c_vars_isVar (Val.mk x4.tok x4.l)) fun r5 =>
  Option.bind (cond (!r5) (c_vars_measure (x4.l, a1)) (some (0 : Int))) fun r6 =>
  Option.bind (cond (!(!r5)) (c_vars_parts (Val.mk x4.tok x4.l)) (some ([], [], false))) fun r7 =>
  Option.bind (cond ((!(!r5)) && ((mget BEq.beq r7.1 a1).isSome)) (c_vars_length (mgetD [] (mget BEq.beq r7.1 a1))) (some (0 : Int))) fun r8 =>
  Option.bind (cond (((!(!r5)) && (!((mget BEq.beq r7.1 a1).isSome))) && r7.2.2) (c_vars_measure (r7.2.1, a1)) (some (0 : Int))) fun r9 =>
  Option.bind (some (cond r7.2.2 x4.tok.k x4.tok.k)) fun m10 =>
  Option.bind (some (cond r7.2.2 x4.tok.t x4.tok.t)) fun m11 =>
  Option.bind (some (cond r7.2.2 x4.tok.n x4.tok.n)) fun m12 =>
  Option.bind (some (cond r7.2.2 x4.tok.u x4.tok.u)) fun m13 =>
  Option.bind (some (cond r7.2.2 x4.tok.f x4.tok.f)) fun m14 =>
  Option.bind (some (cond r7.2.2 x4.l x4.l)) fun m15 =>
  Option.bind (some (cond r7.2.2 r9 (-1 : Int))) fun m16 =>
  Option.bind (some (cond ((mget BEq.beq r7.1 a1).isSome) x4.tok.k m10)) fun m17 =>
  Option.bind (some (cond ((mget BEq.beq r7.1 a1).isSome) x4.tok.t m11)) fun m18 =>
  Option.bind (some (cond ((mget BEq.beq r7.1 a1).isSome) x4.tok.n m12)) fun m19 =>
  Option.bind (some (cond ((mget BEq.beq r7.1 a1).isSome) x4.tok.u m13)) fun m20 =>
  Option.bind (some (cond ((mget BEq.beq r7.1 a1).isSome) x4.tok.f m14)) fun m21 =>
  Option.bind (some (cond ((mget BEq.beq r7.1 a1).isSome) x4.l m15)) fun m22 =>
  Option.bind (some (cond ((mget BEq.beq r7.1 a1).isSome) r8 m16)) fun m23 =>
  Option.bind (some (cond (!r5) (IntKind.i64.wrap (y5 + (IntKind.i64.wrap ((IntKind.i64.wrap ((1 : Int) + (x4.tok.t.length : Int))) + (x4.tok.u.length : Int))))) y5)) fun m24 =>
  Option.bind (some (cond (!r5) x4.tok.k m17)) fun m25 =>
  Option.bind (some (cond (!r5) x4.tok.t m18)) fun m26 =>
  Option.bind (some (cond (!r5) x4.tok.n m19)) fun m27 =>
  Option.bind (some (cond (!r5) x4.tok.u m20)) fun m28 =>
  Option.bind (some (cond (!r5) x4.tok.f m21)) fun m29 =>
  Option.bind (some (cond (!r5) x4.l m22)) fun m30 =>
  Option.bind (some (cond (!r5) r6 m23)) fun m31 =>
  cond (decide (m31 < (0 : Int)))
  (kr (-1 : Int))
  (k y4 (IntKind.i64.wrap (m24 + m31)) (IntKind.i64.wrap (y16 + (1 : Int)))))
  (kx0 y4 y5)
def vars_measure (c_vars_isVar : Val → Option Bool) (c_vars_measure : (List Val) × (List ((List UInt8) × (List Val))) → Option Int) (c_vars_parts : Val → Option ((List UInt8) × (List Val) × Bool)) (c_vars_length : (List Val) → Option Int) (n : Nat) (p0 : List Val) (p1 : List ((List UInt8) × (List Val)))  : Option Int :=
  loop3 (vars_measure_L0 c_vars_isVar c_vars_measure c_vars_parts c_vars_length n p1 p0 (p0.length : Int) (fun z1 z2 =>
  some z2) (fun z3 =>
  some z3)) n (0 : Int) (0 : Int) (0 : Int)
abbrev vars_measure_T (c_vars_isVar : Val → Option Bool) (c_vars_measure : (List Val) × (List ((List UInt8) × (List Val))) → Option Int) (c_vars_parts : Val → Option ((List UInt8) × (List Val) × Bool)) (c_vars_length : (List Val) → Option Int) : List (Nat × TCall X) := [(55, ⟨true, [.ty 60], [4], c_vars_isVar⟩), (62, ⟨true, [.ty 33, .ty 70], [3], c_vars_measure⟩), (56, ⟨true, [.ty 60], [9, 33, 4], c_vars_parts⟩), (30, ⟨true, [.ty 33], [3], c_vars_length⟩)]
noncomputable abbrev vars_measure_x (c_vars_isVar : Val → Option Bool) (c_vars_measure : (List Val) × (List ((List UInt8) × (List Val))) → Option Int) (c_vars_parts : Val → Option ((List UInt8) × (List Val) × Bool)) (c_vars_length : (List Val) → Option Int) : Cx := ⟨C, U, vars_measure_T c_vars_isVar c_vars_measure c_vars_parts c_vars_length, [], fun _ => []⟩
theorem vars_measure_ok : okF (C.ann 62) Try.f62 2 = true := by kernel_rfl
abbrev vars_measure_L0_D : LD := ⟨0, [.val 1 70, .val 14 33, .val 15 2], [.val 4 2, .val 5 2, .val 16 2], [(0, [.val 4 2, .val 5 2])], [.val 4 3]⟩
abbrev vars_measure_L0_g (c_vars_isVar : Val → Option Bool) (c_vars_measure : (List Val) × (List ((List UInt8) × (List Val))) → Option Int) (c_vars_parts : Val → Option ((List UInt8) × (List Val) × Bool)) (c_vars_length : (List Val) → Option Int) (n : Nat) : LG U (PX X [3]) vars_measure_L0_D := fun c kx kr y k => vars_measure_L0 c_vars_isVar c_vars_measure c_vars_parts c_vars_length n c.1 c.2.1 c.2.2.1 (fun z0 z1 => kx 0 (z0, z1, ())) (fun z0 => kr (z0, ())) y.1 y.2.1 y.2.2.1 (fun z0 z1 z2 => k (z0, z1, z2, ()))
noncomputable abbrev vars_measure_sums (c_vars_isVar : Val → Option Bool) (c_vars_measure : (List Val) × (List ((List UInt8) × (List Val))) → Option Int) (c_vars_parts : Val → Option ((List UInt8) × (List Val) × Bool)) (c_vars_length : (List Val) → Option Int) (n : Nat) : Sums (vars_measure_x c_vars_isVar c_vars_measure c_vars_parts c_vars_length) (PX X [3]) := [(0, runL U vars_measure_L0_D (vars_measure_L0_g c_vars_isVar c_vars_measure c_vars_parts c_vars_length n) n)]
theorem vars_measure_L0_e (c_vars_isVar : Val → Option Bool) (c_vars_measure : (List Val) × (List ((List UInt8) × (List Val))) → Option Int) (c_vars_parts : Val → Option ((List UInt8) × (List Val) × Bool)) (c_vars_length : (List Val) → Option Int) (n : Nat) : ∀ c kx kr y k1, evL (vars_measure_x c_vars_isVar c_vars_measure c_vars_parts c_vars_length) (ann 62) (vars_measure_sums c_vars_isVar c_vars_measure c_vars_parts c_vars_length n) 0 (loopOf (bodyOf Try.f62) 0) (kontL U vars_measure_L0_D kx kr k1) (encS U vars_measure_L0_D.cap vars_measure_L0_D.din c y) = vars_measure_L0_g c_vars_isVar c_vars_measure c_vars_parts c_vars_length n c (fun i z => kx i c z) kr y (fun y2 => k1 c y2) := by
  intro c kx kr y k1
  kernel_rfl
theorem vars_measure_e (c_vars_isVar : Val → Option Bool) (c_vars_measure : (List Val) × (List ((List UInt8) × (List Val))) → Option Int) (c_vars_parts : Val → Option ((List UInt8) × (List Val) × Bool)) (c_vars_length : (List Val) → Option Int) (n : Nat) : ∀ a, fnL (vars_measure_x c_vars_isVar c_vars_measure c_vars_parts c_vars_length) true 62 Try.f62 [.ty 33, .ty 70] [3] (vars_measure_sums c_vars_isVar c_vars_measure c_vars_parts c_vars_length n) a = vars_measure c_vars_isVar c_vars_measure c_vars_parts c_vars_length n a.1 a.2 := by
  intro a
  kernel_rfl
theorem vars_measure_hT {K : CallT} (c_vars_isVar : Val → Option Bool) (c_vars_measure : (List Val) × (List ((List UInt8) × (List Val))) → Option Int) (c_vars_parts : Val → Option ((List UInt8) × (List Val) × Bool)) (c_vars_length : (List Val) → Option Int) (h0 : Meets U (callV C K) 55 ⟨true, [.ty 60], [4], c_vars_isVar⟩) (h1 : Meets U (callV C K) 62 ⟨true, [.ty 33, .ty 70], [3], c_vars_measure⟩) (h2 : Meets U (callV C K) 56 ⟨true, [.ty 60], [9, 33, 4], c_vars_parts⟩) (h3 : Meets U (callV C K) 30 ⟨true, [.ty 33], [3], c_vars_length⟩)  : CallsOk (vars_measure_x c_vars_isVar c_vars_measure c_vars_parts c_vars_length) (callV C K) :=
  ⟨(mall_cons h0 (mall_cons h1 (mall_cons h2 (mall_cons h3 mall_nil)))), rall_nil⟩
theorem vars_measure_L0_law {K : CallT} (c_vars_isVar : Val → Option Bool) (c_vars_measure : (List Val) × (List ((List UInt8) × (List Val))) → Option Int) (c_vars_parts : Val → Option ((List UInt8) × (List Val) × Bool)) (c_vars_length : (List Val) → Option Int) (h0 : Meets U (callV C K) 55 ⟨true, [.ty 60], [4], c_vars_isVar⟩) (h1 : Meets U (callV C K) 62 ⟨true, [.ty 33, .ty 70], [3], c_vars_measure⟩) (h2 : Meets U (callV C K) 56 ⟨true, [.ty 60], [9, 33, 4], c_vars_parts⟩) (h3 : Meets U (callV C K) 30 ⟨true, [.ty 33], [3], c_vars_length⟩)  (n : Nat) (b0 : Base) (bn0 : b0.nr ≤ 0) : Law (vars_measure_x c_vars_isVar c_vars_measure c_vars_parts c_vars_length) b0 (callV C K) (ann 62) n (loopOf (bodyOf Try.f62) 0) (runL U vars_measure_L0_D (vars_measure_L0_g c_vars_isVar c_vars_measure c_vars_parts c_vars_length n) n) :=
  law_of (x := vars_measure_x c_vars_isVar c_vars_measure c_vars_parts c_vars_length) (id := 0) ok (vars_measure_hT c_vars_isVar c_vars_measure c_vars_parts c_vars_length h0 h1 h2 h3) (sums := vars_measure_sums c_vars_isVar c_vars_measure c_vars_parts c_vars_length n) (laws_none (show loopsOf 0 (loopOf (bodyOf Try.f62) 0) = [] by kernel_rfl)) vars_measure_L0_D bn0 (vars_measure_L0_g c_vars_isVar c_vars_measure c_vars_parts c_vars_length n) (vars_measure_L0_e c_vars_isVar c_vars_measure c_vars_parts c_vars_length n)
theorem vars_measure_meets {K : CallT} (hK : ∀ args h, K 62 args h = none) (c_vars_isVar : Val → Option Bool) (c_vars_measure : (List Val) × (List ((List UInt8) × (List Val))) → Option Int) (c_vars_parts : Val → Option ((List UInt8) × (List Val) × Bool)) (c_vars_length : (List Val) → Option Int) (h0 : Meets U (callV C K) 55 ⟨true, [.ty 60], [4], c_vars_isVar⟩) (h1 : Meets U (callV C K) 62 ⟨true, [.ty 33, .ty 70], [3], c_vars_measure⟩) (h2 : Meets U (callV C K) 56 ⟨true, [.ty 60], [9, 33, 4], c_vars_parts⟩) (h3 : Meets U (callV C K) 30 ⟨true, [.ty 33], [3], c_vars_length⟩)  (t : PX X (AK.tys [.ty 33, .ty 70]) → Option (PX X [3])) (h : ∀ a r, t a = some r → ∃ n, vars_measure c_vars_isVar c_vars_measure c_vars_parts c_vars_length n a.1 a.2 = some r) : Meets U (callV C K) 62 ⟨true, [.ty 33, .ty 70], [3], t⟩ := by
  refine fnL_meets (x := vars_measure_x c_vars_isVar c_vars_measure c_vars_parts c_vars_length) (ak := [.ty 33, .ty 70]) (rts := [3]) (dir := true) ok (vars_measure_hT c_vars_isVar c_vars_measure c_vars_parts c_vars_length h0 h1 h2 h3) hK Try.func62 vars_measure_ok fun a r hr => ?_
  obtain ⟨n, hn⟩ := h a r hr
  exact ⟨n, vars_measure_sums c_vars_isVar c_vars_measure c_vars_parts c_vars_length n, (laws_ids (ids := [0]) (by kernel_rfl) (by decide) (fun i hi => by
    simp only [List.mem_cons, List.not_mem_nil, or_false] at hi
    rcases hi with rfl
    · exact laws_one (c2 := loopOf (bodyOf Try.f62) 0) (by kernel_rfl) (by kernel_rfl) (vars_measure_L0_law c_vars_isVar c_vars_measure c_vars_parts c_vars_length h0 h1 h2 h3 _ _ (Nat.le_refl _))
    )), (vars_measure_e c_vars_isVar c_vars_measure c_vars_parts c_vars_length n a).trans hn⟩
-- 64 vitrine/vitrineref30.measured
def ref30_measured_L0 (c_ref30_Reference : Val → Option Bool) (c_ref30_measured : (List Val) × (List Cus) → Option (Int × Bool)) (c_ref30_Named : Val → Option ((List UInt8) × (List Val) × Bool)) (c_ref30_Find : (List Cus) × (List UInt8) → Option Int) (c_ref30_Long : (List Val) → Option Int) {R : Type} (n : Nat) (a0 : List Val) (a1 : List Cus) (kx0 : Int → Bool → Int → Option R) (kr : Int → Bool → Option R) (y4 : Int) (y5 : Bool) (y6 : Int) (y7 : Int) (k : Int → Bool → Int → Int → Option R) : Option R :=
  cond (decide (y7 < (a0.length : Int)))
  (Option.bind (getI a0 y7) fun x6 =>
  Option.bind (c_ref30_Reference (Val.mk x6.tok x6.l)) fun r7 =>
  cond (!r7)
  (Option.bind (getI a0 y7) fun x8 =>
  Option.bind (c_ref30_measured (x8.l, a1)) fun r9 =>
  cond (!r9.2)
  (kr (0 : Int) false)
  (Option.bind (getI a0 y7) fun x10 =>
  Option.bind (getI a0 y7) fun x11 =>
  k y4 y5 (IntKind.i64.wrap (y6 + (IntKind.i64.wrap ((IntKind.i64.wrap ((IntKind.i64.wrap ((1 : Int) + (x10.tok.t.length : Int))) + (x11.tok.u.length : Int))) + r9.1)))) (IntKind.i64.wrap (y7 + (1 : Int)))))
  (Option.bind (getI a0 y7) fun x12 =>
  Option.bind (c_ref30_Named (Val.mk x12.tok x12.l)) fun r13 =>
  Option.bind (c_ref30_Find (a1, r13.1)) fun r14 =>
  cond (decide (r14 ≥ (0 : Int)))
  (Option.bind (getI a1 r14) fun x15 =>
  Option.bind (c_ref30_Long x15.val) fun r16 =>
  k y4 y5 (IntKind.i64.wrap (y6 + r16)) (IntKind.i64.wrap (y7 + (1 : Int))))
  (cond (!r13.2.2)
  (kr (0 : Int) false)
  (Option.bind (c_ref30_measured (r13.2.1, a1)) fun r17 =>
  cond (!r17.2)
  (kr (0 : Int) false)
  (k y4 y5 (IntKind.i64.wrap (y6 + r17.1)) (IntKind.i64.wrap (y7 + (1 : Int))))))))
  (kx0 y4 y5 y6)
def ref30_measured (c_ref30_Reference : Val → Option Bool) (c_ref30_measured : (List Val) × (List Cus) → Option (Int × Bool)) (c_ref30_Named : Val → Option ((List UInt8) × (List Val) × Bool)) (c_ref30_Find : (List Cus) × (List UInt8) → Option Int) (c_ref30_Long : (List Val) → Option Int) (n : Nat) (p0 : List Val) (p1 : List Cus)  : Option (Int × Bool) :=
  loop4 (ref30_measured_L0 c_ref30_Reference c_ref30_measured c_ref30_Named c_ref30_Find c_ref30_Long n p0 p1 (fun z1 z2 z3 =>
  some (z3, true)) (fun z4 z5 =>
  some (z4, z5))) n (0 : Int) false (0 : Int) (0 : Int)
abbrev ref30_measured_T (c_ref30_Reference : Val → Option Bool) (c_ref30_measured : (List Val) × (List Cus) → Option (Int × Bool)) (c_ref30_Named : Val → Option ((List UInt8) × (List Val) × Bool)) (c_ref30_Find : (List Cus) × (List UInt8) → Option Int) (c_ref30_Long : (List Val) → Option Int) : List (Nat × TCall X) := [(60, ⟨true, [.ty 60], [4], c_ref30_Reference⟩), (64, ⟨true, [.ty 33, .ty 22], [3, 4], c_ref30_measured⟩), (61, ⟨true, [.ty 60], [9, 33, 4], c_ref30_Named⟩), (69, ⟨true, [.ty 22, .ty 9], [3], c_ref30_Find⟩), (32, ⟨true, [.ty 33], [3], c_ref30_Long⟩)]
noncomputable abbrev ref30_measured_x (c_ref30_Reference : Val → Option Bool) (c_ref30_measured : (List Val) × (List Cus) → Option (Int × Bool)) (c_ref30_Named : Val → Option ((List UInt8) × (List Val) × Bool)) (c_ref30_Find : (List Cus) × (List UInt8) → Option Int) (c_ref30_Long : (List Val) → Option Int) : Cx := ⟨C, U, ref30_measured_T c_ref30_Reference c_ref30_measured c_ref30_Named c_ref30_Find c_ref30_Long, [], fun _ => []⟩
theorem ref30_measured_ok : okF (C.ann 64) Try.f64 2 = true := by kernel_rfl
abbrev ref30_measured_L0_D : LD := ⟨0, [.val 0 33, .val 1 22], [.val 4 2, .val 5 4, .val 6 2, .val 7 2], [(0, [.val 4 2, .val 5 4, .val 6 2])], [.val 4 3, .val 5 4]⟩
abbrev ref30_measured_L0_g (c_ref30_Reference : Val → Option Bool) (c_ref30_measured : (List Val) × (List Cus) → Option (Int × Bool)) (c_ref30_Named : Val → Option ((List UInt8) × (List Val) × Bool)) (c_ref30_Find : (List Cus) × (List UInt8) → Option Int) (c_ref30_Long : (List Val) → Option Int) (n : Nat) : LG U (PX X [3, 4]) ref30_measured_L0_D := fun c kx kr y k => ref30_measured_L0 c_ref30_Reference c_ref30_measured c_ref30_Named c_ref30_Find c_ref30_Long n c.1 c.2.1 (fun z0 z1 z2 => kx 0 (z0, z1, z2, ())) (fun z0 z1 => kr (z0, z1, ())) y.1 y.2.1 y.2.2.1 y.2.2.2.1 (fun z0 z1 z2 z3 => k (z0, z1, z2, z3, ()))
noncomputable abbrev ref30_measured_sums (c_ref30_Reference : Val → Option Bool) (c_ref30_measured : (List Val) × (List Cus) → Option (Int × Bool)) (c_ref30_Named : Val → Option ((List UInt8) × (List Val) × Bool)) (c_ref30_Find : (List Cus) × (List UInt8) → Option Int) (c_ref30_Long : (List Val) → Option Int) (n : Nat) : Sums (ref30_measured_x c_ref30_Reference c_ref30_measured c_ref30_Named c_ref30_Find c_ref30_Long) (PX X [3, 4]) := [(0, runL U ref30_measured_L0_D (ref30_measured_L0_g c_ref30_Reference c_ref30_measured c_ref30_Named c_ref30_Find c_ref30_Long n) n)]
theorem ref30_measured_L0_e (c_ref30_Reference : Val → Option Bool) (c_ref30_measured : (List Val) × (List Cus) → Option (Int × Bool)) (c_ref30_Named : Val → Option ((List UInt8) × (List Val) × Bool)) (c_ref30_Find : (List Cus) × (List UInt8) → Option Int) (c_ref30_Long : (List Val) → Option Int) (n : Nat) : ∀ c kx kr y k1, evL (ref30_measured_x c_ref30_Reference c_ref30_measured c_ref30_Named c_ref30_Find c_ref30_Long) (ann 64) (ref30_measured_sums c_ref30_Reference c_ref30_measured c_ref30_Named c_ref30_Find c_ref30_Long n) 0 (loopOf (bodyOf Try.f64) 0) (kontL U ref30_measured_L0_D kx kr k1) (encS U ref30_measured_L0_D.cap ref30_measured_L0_D.din c y) = ref30_measured_L0_g c_ref30_Reference c_ref30_measured c_ref30_Named c_ref30_Find c_ref30_Long n c (fun i z => kx i c z) kr y (fun y2 => k1 c y2) := by
  intro c kx kr y k1
  kernel_rfl
theorem ref30_measured_e (c_ref30_Reference : Val → Option Bool) (c_ref30_measured : (List Val) × (List Cus) → Option (Int × Bool)) (c_ref30_Named : Val → Option ((List UInt8) × (List Val) × Bool)) (c_ref30_Find : (List Cus) × (List UInt8) → Option Int) (c_ref30_Long : (List Val) → Option Int) (n : Nat) : ∀ a, fnL (ref30_measured_x c_ref30_Reference c_ref30_measured c_ref30_Named c_ref30_Find c_ref30_Long) true 64 Try.f64 [.ty 33, .ty 22] [3, 4] (ref30_measured_sums c_ref30_Reference c_ref30_measured c_ref30_Named c_ref30_Find c_ref30_Long n) a = ref30_measured c_ref30_Reference c_ref30_measured c_ref30_Named c_ref30_Find c_ref30_Long n a.1 a.2 := by
  intro a
  kernel_rfl
theorem ref30_measured_hT {K : CallT} (c_ref30_Reference : Val → Option Bool) (c_ref30_measured : (List Val) × (List Cus) → Option (Int × Bool)) (c_ref30_Named : Val → Option ((List UInt8) × (List Val) × Bool)) (c_ref30_Find : (List Cus) × (List UInt8) → Option Int) (c_ref30_Long : (List Val) → Option Int) (h0 : Meets U (callV C K) 60 ⟨true, [.ty 60], [4], c_ref30_Reference⟩) (h1 : Meets U (callV C K) 64 ⟨true, [.ty 33, .ty 22], [3, 4], c_ref30_measured⟩) (h2 : Meets U (callV C K) 61 ⟨true, [.ty 60], [9, 33, 4], c_ref30_Named⟩) (h3 : Meets U (callV C K) 69 ⟨true, [.ty 22, .ty 9], [3], c_ref30_Find⟩) (h4 : Meets U (callV C K) 32 ⟨true, [.ty 33], [3], c_ref30_Long⟩)  : CallsOk (ref30_measured_x c_ref30_Reference c_ref30_measured c_ref30_Named c_ref30_Find c_ref30_Long) (callV C K) :=
  ⟨(mall_cons h0 (mall_cons h1 (mall_cons h2 (mall_cons h3 (mall_cons h4 mall_nil))))), rall_nil⟩
theorem ref30_measured_L0_law {K : CallT} (c_ref30_Reference : Val → Option Bool) (c_ref30_measured : (List Val) × (List Cus) → Option (Int × Bool)) (c_ref30_Named : Val → Option ((List UInt8) × (List Val) × Bool)) (c_ref30_Find : (List Cus) × (List UInt8) → Option Int) (c_ref30_Long : (List Val) → Option Int) (h0 : Meets U (callV C K) 60 ⟨true, [.ty 60], [4], c_ref30_Reference⟩) (h1 : Meets U (callV C K) 64 ⟨true, [.ty 33, .ty 22], [3, 4], c_ref30_measured⟩) (h2 : Meets U (callV C K) 61 ⟨true, [.ty 60], [9, 33, 4], c_ref30_Named⟩) (h3 : Meets U (callV C K) 69 ⟨true, [.ty 22, .ty 9], [3], c_ref30_Find⟩) (h4 : Meets U (callV C K) 32 ⟨true, [.ty 33], [3], c_ref30_Long⟩)  (n : Nat) (b0 : Base) (bn0 : b0.nr ≤ 0) : Law (ref30_measured_x c_ref30_Reference c_ref30_measured c_ref30_Named c_ref30_Find c_ref30_Long) b0 (callV C K) (ann 64) n (loopOf (bodyOf Try.f64) 0) (runL U ref30_measured_L0_D (ref30_measured_L0_g c_ref30_Reference c_ref30_measured c_ref30_Named c_ref30_Find c_ref30_Long n) n) :=
  law_of (x := ref30_measured_x c_ref30_Reference c_ref30_measured c_ref30_Named c_ref30_Find c_ref30_Long) (id := 0) ok (ref30_measured_hT c_ref30_Reference c_ref30_measured c_ref30_Named c_ref30_Find c_ref30_Long h0 h1 h2 h3 h4) (sums := ref30_measured_sums c_ref30_Reference c_ref30_measured c_ref30_Named c_ref30_Find c_ref30_Long n) (laws_none (show loopsOf 0 (loopOf (bodyOf Try.f64) 0) = [] by kernel_rfl)) ref30_measured_L0_D bn0 (ref30_measured_L0_g c_ref30_Reference c_ref30_measured c_ref30_Named c_ref30_Find c_ref30_Long n) (ref30_measured_L0_e c_ref30_Reference c_ref30_measured c_ref30_Named c_ref30_Find c_ref30_Long n)
theorem ref30_measured_meets {K : CallT} (hK : ∀ args h, K 64 args h = none) (c_ref30_Reference : Val → Option Bool) (c_ref30_measured : (List Val) × (List Cus) → Option (Int × Bool)) (c_ref30_Named : Val → Option ((List UInt8) × (List Val) × Bool)) (c_ref30_Find : (List Cus) × (List UInt8) → Option Int) (c_ref30_Long : (List Val) → Option Int) (h0 : Meets U (callV C K) 60 ⟨true, [.ty 60], [4], c_ref30_Reference⟩) (h1 : Meets U (callV C K) 64 ⟨true, [.ty 33, .ty 22], [3, 4], c_ref30_measured⟩) (h2 : Meets U (callV C K) 61 ⟨true, [.ty 60], [9, 33, 4], c_ref30_Named⟩) (h3 : Meets U (callV C K) 69 ⟨true, [.ty 22, .ty 9], [3], c_ref30_Find⟩) (h4 : Meets U (callV C K) 32 ⟨true, [.ty 33], [3], c_ref30_Long⟩)  (t : PX X (AK.tys [.ty 33, .ty 22]) → Option (PX X [3, 4])) (h : ∀ a r, t a = some r → ∃ n, ref30_measured c_ref30_Reference c_ref30_measured c_ref30_Named c_ref30_Find c_ref30_Long n a.1 a.2 = some r) : Meets U (callV C K) 64 ⟨true, [.ty 33, .ty 22], [3, 4], t⟩ := by
  refine fnL_meets (x := ref30_measured_x c_ref30_Reference c_ref30_measured c_ref30_Named c_ref30_Find c_ref30_Long) (ak := [.ty 33, .ty 22]) (rts := [3, 4]) (dir := true) ok (ref30_measured_hT c_ref30_Reference c_ref30_measured c_ref30_Named c_ref30_Find c_ref30_Long h0 h1 h2 h3 h4) hK Try.func64 ref30_measured_ok fun a r hr => ?_
  obtain ⟨n, hn⟩ := h a r hr
  exact ⟨n, ref30_measured_sums c_ref30_Reference c_ref30_measured c_ref30_Named c_ref30_Find c_ref30_Long n, (laws_ids (ids := [0]) (by kernel_rfl) (by decide) (fun i hi => by
    simp only [List.mem_cons, List.not_mem_nil, or_false] at hi
    rcases hi with rfl
    · exact laws_one (c2 := loopOf (bodyOf Try.f64) 0) (by kernel_rfl) (by kernel_rfl) (ref30_measured_L0_law c_ref30_Reference c_ref30_measured c_ref30_Named c_ref30_Find c_ref30_Long h0 h1 h2 h3 h4 _ _ (Nat.le_refl _))
    )), (ref30_measured_e c_ref30_Reference c_ref30_measured c_ref30_Named c_ref30_Find c_ref30_Long n a).trans hn⟩
-- 63 vitrine/vars.put
def vars_put_L0 (c_vars_isVar : Val → Option Bool) (c_vars_put : (List Val) × (List ((List UInt8) × (List Val))) → Option (List Val)) (c_vars_parts : Val → Option ((List UInt8) × (List Val) × Bool)) {R : Type} (n : Nat) (a1 : List ((List UInt8) × (List Val))) (a4 : List Val) (a13 : List Val) (a14 : Int) (kx0 : List Val → Option R)  (y5 : List Val) (y15 : Int) (k : List Val → Int → Option R) : Option R :=
  cond (decide (y15 < a14))
  (Option.bind (getI a13 y15) fun x2 =>
  Option.bind (c_vars_isVar (Val.mk x2.tok x2.l)) fun r3 =>
  cond (!r3)
  (Option.bind (c_vars_put (x2.l, a1)) fun r4 =>
  Option.bind (Option.bind (room 80 (y5.length + [(Val.mk x2.tok r4)].length)) (fun _ => some (y5 ++ [(Val.mk x2.tok r4)]))) fun o5 =>
  k o5 (IntKind.i64.wrap (y15 + (1 : Int))))
  (Option.bind (c_vars_parts (Val.mk x2.tok x2.l)) fun r6 =>
  Option.bind (some (cond ((mget BEq.beq r6.1 a1).isSome) y5 y5)) fun m7 =>
  Option.bind (some (cond ((mget BEq.beq r6.1 a1).isSome) x2.tok.k x2.tok.k)) fun m8 =>
  Option.bind (some (cond ((mget BEq.beq r6.1 a1).isSome) x2.tok.t x2.tok.t)) fun m9 =>
  Option.bind (some (cond ((mget BEq.beq r6.1 a1).isSome) x2.tok.n x2.tok.n)) fun m10 =>
  Option.bind (some (cond ((mget BEq.beq r6.1 a1).isSome) x2.tok.u x2.tok.u)) fun m11 =>
  Option.bind (some (cond ((mget BEq.beq r6.1 a1).isSome) x2.tok.f x2.tok.f)) fun m12 =>
  Option.bind (some (cond ((mget BEq.beq r6.1 a1).isSome) x2.l x2.l)) fun m13 =>
  Option.bind (some (cond ((mget BEq.beq r6.1 a1).isSome) (mgetD [] (mget BEq.beq r6.1 a1)) r6.2.1)) fun m14 =>
  Option.bind (c_vars_put (m14, a1)) fun r15 =>
  Option.bind (Option.bind (room 80 (m7.length + r15.length)) (fun _ => some (m7 ++ r15))) fun o16 =>
  k o16 (IntKind.i64.wrap (y15 + (1 : Int)))))
  (kx0 y5)
def vars_put (c_vars_isVar : Val → Option Bool) (c_vars_put : (List Val) × (List ((List UInt8) × (List Val))) → Option (List Val)) (c_vars_parts : Val → Option ((List UInt8) × (List Val) × Bool)) (n : Nat) (p0 : List Val) (p1 : List ((List UInt8) × (List Val)))  : Option (List Val) :=
  loop2 (vars_put_L0 c_vars_isVar c_vars_put c_vars_parts n p1 [] p0 (p0.length : Int) (fun z1 =>
  some z1)) n [] (0 : Int)
abbrev vars_put_T (c_vars_isVar : Val → Option Bool) (c_vars_put : (List Val) × (List ((List UInt8) × (List Val))) → Option (List Val)) (c_vars_parts : Val → Option ((List UInt8) × (List Val) × Bool)) : List (Nat × TCall X) := [(55, ⟨true, [.ty 60], [4], c_vars_isVar⟩), (63, ⟨true, [.ty 33, .ty 70], [33], c_vars_put⟩), (56, ⟨true, [.ty 60], [9, 33, 4], c_vars_parts⟩)]
noncomputable abbrev vars_put_x (c_vars_isVar : Val → Option Bool) (c_vars_put : (List Val) × (List ((List UInt8) × (List Val))) → Option (List Val)) (c_vars_parts : Val → Option ((List UInt8) × (List Val) × Bool)) : Cx := ⟨C, U, vars_put_T c_vars_isVar c_vars_put c_vars_parts, [], fun _ => []⟩
theorem vars_put_ok : okF (C.ann 63) Try.f63 2 = true := by kernel_rfl
abbrev vars_put_L0_D : LD := ⟨0, [.val 1 70, .val 4 33, .val 13 33, .val 14 2], [.own 5 60, .val 15 2], [(0, [.own 5 60])], []⟩
abbrev vars_put_L0_g (c_vars_isVar : Val → Option Bool) (c_vars_put : (List Val) × (List ((List UInt8) × (List Val))) → Option (List Val)) (c_vars_parts : Val → Option ((List UInt8) × (List Val) × Bool)) (n : Nat) : LG U (PX X [33]) vars_put_L0_D := fun c kx kr y k => vars_put_L0 c_vars_isVar c_vars_put c_vars_parts n c.1 c.2.1 c.2.2.1 c.2.2.2.1 (fun z0 => kx 0 (z0, ())) y.1 y.2.1 (fun z0 z1 => k (z0, z1, ()))
noncomputable abbrev vars_put_sums (c_vars_isVar : Val → Option Bool) (c_vars_put : (List Val) × (List ((List UInt8) × (List Val))) → Option (List Val)) (c_vars_parts : Val → Option ((List UInt8) × (List Val) × Bool)) (n : Nat) : Sums (vars_put_x c_vars_isVar c_vars_put c_vars_parts) (PX X [33]) := [(0, runL U vars_put_L0_D (vars_put_L0_g c_vars_isVar c_vars_put c_vars_parts n) n)]
theorem vars_put_L0_e (c_vars_isVar : Val → Option Bool) (c_vars_put : (List Val) × (List ((List UInt8) × (List Val))) → Option (List Val)) (c_vars_parts : Val → Option ((List UInt8) × (List Val) × Bool)) (n : Nat) : ∀ c kx kr y k1, evL (vars_put_x c_vars_isVar c_vars_put c_vars_parts) (ann 63) (vars_put_sums c_vars_isVar c_vars_put c_vars_parts n) 0 (loopOf (bodyOf Try.f63) 0) (kontL U vars_put_L0_D kx kr k1) (encS U vars_put_L0_D.cap vars_put_L0_D.din c y) = vars_put_L0_g c_vars_isVar c_vars_put c_vars_parts n c (fun i z => kx i c z) kr y (fun y2 => k1 c y2) := by
  intro c kx kr y k1
  kernel_rfl
theorem vars_put_e (c_vars_isVar : Val → Option Bool) (c_vars_put : (List Val) × (List ((List UInt8) × (List Val))) → Option (List Val)) (c_vars_parts : Val → Option ((List UInt8) × (List Val) × Bool)) (n : Nat) : ∀ a, fnL (vars_put_x c_vars_isVar c_vars_put c_vars_parts) true 63 Try.f63 [.ty 33, .ty 70] [33] (vars_put_sums c_vars_isVar c_vars_put c_vars_parts n) a = vars_put c_vars_isVar c_vars_put c_vars_parts n a.1 a.2 := by
  intro a
  kernel_rfl
theorem vars_put_hT {K : CallT} (c_vars_isVar : Val → Option Bool) (c_vars_put : (List Val) × (List ((List UInt8) × (List Val))) → Option (List Val)) (c_vars_parts : Val → Option ((List UInt8) × (List Val) × Bool)) (h0 : Meets U (callV C K) 55 ⟨true, [.ty 60], [4], c_vars_isVar⟩) (h1 : Meets U (callV C K) 63 ⟨true, [.ty 33, .ty 70], [33], c_vars_put⟩) (h2 : Meets U (callV C K) 56 ⟨true, [.ty 60], [9, 33, 4], c_vars_parts⟩)  : CallsOk (vars_put_x c_vars_isVar c_vars_put c_vars_parts) (callV C K) :=
  ⟨(mall_cons h0 (mall_cons h1 (mall_cons h2 mall_nil))), rall_nil⟩
theorem vars_put_L0_law {K : CallT} (c_vars_isVar : Val → Option Bool) (c_vars_put : (List Val) × (List ((List UInt8) × (List Val))) → Option (List Val)) (c_vars_parts : Val → Option ((List UInt8) × (List Val) × Bool)) (h0 : Meets U (callV C K) 55 ⟨true, [.ty 60], [4], c_vars_isVar⟩) (h1 : Meets U (callV C K) 63 ⟨true, [.ty 33, .ty 70], [33], c_vars_put⟩) (h2 : Meets U (callV C K) 56 ⟨true, [.ty 60], [9, 33, 4], c_vars_parts⟩)  (n : Nat) (b0 : Base) (bn0 : b0.nr ≤ 0) : Law (vars_put_x c_vars_isVar c_vars_put c_vars_parts) b0 (callV C K) (ann 63) n (loopOf (bodyOf Try.f63) 0) (runL U vars_put_L0_D (vars_put_L0_g c_vars_isVar c_vars_put c_vars_parts n) n) :=
  law_of (x := vars_put_x c_vars_isVar c_vars_put c_vars_parts) (id := 0) ok (vars_put_hT c_vars_isVar c_vars_put c_vars_parts h0 h1 h2) (sums := vars_put_sums c_vars_isVar c_vars_put c_vars_parts n) (laws_none (show loopsOf 0 (loopOf (bodyOf Try.f63) 0) = [] by kernel_rfl)) vars_put_L0_D bn0 (vars_put_L0_g c_vars_isVar c_vars_put c_vars_parts n) (vars_put_L0_e c_vars_isVar c_vars_put c_vars_parts n)
theorem vars_put_meets {K : CallT} (hK : ∀ args h, K 63 args h = none) (c_vars_isVar : Val → Option Bool) (c_vars_put : (List Val) × (List ((List UInt8) × (List Val))) → Option (List Val)) (c_vars_parts : Val → Option ((List UInt8) × (List Val) × Bool)) (h0 : Meets U (callV C K) 55 ⟨true, [.ty 60], [4], c_vars_isVar⟩) (h1 : Meets U (callV C K) 63 ⟨true, [.ty 33, .ty 70], [33], c_vars_put⟩) (h2 : Meets U (callV C K) 56 ⟨true, [.ty 60], [9, 33, 4], c_vars_parts⟩)  (t : PX X (AK.tys [.ty 33, .ty 70]) → Option (PX X [33])) (h : ∀ a r, t a = some r → ∃ n, vars_put c_vars_isVar c_vars_put c_vars_parts n a.1 a.2 = some r) : Meets U (callV C K) 63 ⟨true, [.ty 33, .ty 70], [33], t⟩ := by
  refine fnL_meets (x := vars_put_x c_vars_isVar c_vars_put c_vars_parts) (ak := [.ty 33, .ty 70]) (rts := [33]) (dir := true) ok (vars_put_hT c_vars_isVar c_vars_put c_vars_parts h0 h1 h2) hK Try.func63 vars_put_ok fun a r hr => ?_
  obtain ⟨n, hn⟩ := h a r hr
  exact ⟨n, vars_put_sums c_vars_isVar c_vars_put c_vars_parts n, (laws_ids (ids := [0]) (by kernel_rfl) (by decide) (fun i hi => by
    simp only [List.mem_cons, List.not_mem_nil, or_false] at hi
    rcases hi with rfl
    · exact laws_one (c2 := loopOf (bodyOf Try.f63) 0) (by kernel_rfl) (by kernel_rfl) (vars_put_L0_law c_vars_isVar c_vars_put c_vars_parts h0 h1 h2 _ _ (Nat.le_refl _))
    )), (vars_put_e c_vars_isVar c_vars_put c_vars_parts n a).trans hn⟩
-- 65 vitrine/vitrineref30.replaced
def ref30_replaced_L0 (c_ref30_Reference : Val → Option Bool) (c_ref30_replaced : (List Val) × (List Cus) → Option (List Val)) (c_ref30_Named : Val → Option ((List UInt8) × (List Val) × Bool)) (c_ref30_Find : (List Cus) × (List UInt8) → Option Int) (c_ref26_Twin : (List Val) → Option (List Val)) {R : Type} (n : Nat) (a0 : List Val) (a1 : List Cus) (a4 : List Val) (kx0 : List Val → Option R)  (y5 : List Val) (y6 : Int) (k : List Val → Int → Option R) : Option R :=
  cond (decide (y6 < (a0.length : Int)))
  (Option.bind (getI a0 y6) fun x2 =>
  Option.bind (c_ref30_Reference (Val.mk x2.tok x2.l)) fun r3 =>
  cond (!r3)
  (Option.bind (getI a0 y6) fun x4 =>
  Option.bind (getI a0 y6) fun x5 =>
  Option.bind (c_ref30_replaced (x5.l, a1)) fun r6 =>
  Option.bind (Option.bind (room 80 (y5.length + [(Val.mk x4.tok r6)].length)) (fun _ => some (y5 ++ [(Val.mk x4.tok r6)]))) fun o7 =>
  k o7 (IntKind.i64.wrap (y6 + (1 : Int))))
  (Option.bind (getI a0 y6) fun x8 =>
  Option.bind (c_ref30_Named (Val.mk x8.tok x8.l)) fun r9 =>
  Option.bind (c_ref30_Find (a1, r9.1)) fun r10 =>
  Option.bind (cond (decide (r10 ≥ (0 : Int))) (getI a1 r10) (some zCus)) fun x11 =>
  Option.bind (cond (decide (r10 ≥ (0 : Int))) (c_ref26_Twin x11.val) (some [])) fun r12 =>
  Option.bind (cond (decide (r10 ≥ (0 : Int))) (Option.bind (room 80 (y5.length + r12.length)) (fun _ => some (y5 ++ r12))) (some y5)) fun o13 =>
  Option.bind (cond (!(decide (r10 ≥ (0 : Int)))) (c_ref30_replaced (r9.2.1, a1)) (some [])) fun r14 =>
  Option.bind (cond (!(decide (r10 ≥ (0 : Int)))) (Option.bind (room 80 (y5.length + r14.length)) (fun _ => some (y5 ++ r14))) (some y5)) fun o15 =>
  Option.bind (some (cond (decide (r10 ≥ (0 : Int))) o13 o15)) fun m16 =>
  k m16 (IntKind.i64.wrap (y6 + (1 : Int)))))
  (kx0 y5)
def ref30_replaced (c_ref30_Reference : Val → Option Bool) (c_ref30_replaced : (List Val) × (List Cus) → Option (List Val)) (c_ref30_Named : Val → Option ((List UInt8) × (List Val) × Bool)) (c_ref30_Find : (List Cus) × (List UInt8) → Option Int) (c_ref26_Twin : (List Val) → Option (List Val)) (n : Nat) (p0 : List Val) (p1 : List Cus)  : Option (List Val) :=
  loop2 (ref30_replaced_L0 c_ref30_Reference c_ref30_replaced c_ref30_Named c_ref30_Find c_ref26_Twin n p0 p1 [] (fun z1 =>
  some z1)) n [] (0 : Int)
abbrev ref30_replaced_T (c_ref30_Reference : Val → Option Bool) (c_ref30_replaced : (List Val) × (List Cus) → Option (List Val)) (c_ref30_Named : Val → Option ((List UInt8) × (List Val) × Bool)) (c_ref30_Find : (List Cus) × (List UInt8) → Option Int) (c_ref26_Twin : (List Val) → Option (List Val)) : List (Nat × TCall X) := [(60, ⟨true, [.ty 60], [4], c_ref30_Reference⟩), (65, ⟨true, [.ty 33, .ty 22], [33], c_ref30_replaced⟩), (61, ⟨true, [.ty 60], [9, 33, 4], c_ref30_Named⟩), (69, ⟨true, [.ty 22, .ty 9], [3], c_ref30_Find⟩), (13, ⟨true, [.ty 33], [33], c_ref26_Twin⟩)]
noncomputable abbrev ref30_replaced_x (c_ref30_Reference : Val → Option Bool) (c_ref30_replaced : (List Val) × (List Cus) → Option (List Val)) (c_ref30_Named : Val → Option ((List UInt8) × (List Val) × Bool)) (c_ref30_Find : (List Cus) × (List UInt8) → Option Int) (c_ref26_Twin : (List Val) → Option (List Val)) : Cx := ⟨C, U, ref30_replaced_T c_ref30_Reference c_ref30_replaced c_ref30_Named c_ref30_Find c_ref26_Twin, [], fun _ => []⟩
theorem ref30_replaced_ok : okF (C.ann 65) Try.f65 2 = true := by kernel_rfl
abbrev ref30_replaced_L0_D : LD := ⟨0, [.val 0 33, .val 1 22, .val 4 33], [.own 5 60, .val 6 2], [(0, [.own 5 60])], []⟩
abbrev ref30_replaced_L0_g (c_ref30_Reference : Val → Option Bool) (c_ref30_replaced : (List Val) × (List Cus) → Option (List Val)) (c_ref30_Named : Val → Option ((List UInt8) × (List Val) × Bool)) (c_ref30_Find : (List Cus) × (List UInt8) → Option Int) (c_ref26_Twin : (List Val) → Option (List Val)) (n : Nat) : LG U (PX X [33]) ref30_replaced_L0_D := fun c kx kr y k => ref30_replaced_L0 c_ref30_Reference c_ref30_replaced c_ref30_Named c_ref30_Find c_ref26_Twin n c.1 c.2.1 c.2.2.1 (fun z0 => kx 0 (z0, ())) y.1 y.2.1 (fun z0 z1 => k (z0, z1, ()))
noncomputable abbrev ref30_replaced_sums (c_ref30_Reference : Val → Option Bool) (c_ref30_replaced : (List Val) × (List Cus) → Option (List Val)) (c_ref30_Named : Val → Option ((List UInt8) × (List Val) × Bool)) (c_ref30_Find : (List Cus) × (List UInt8) → Option Int) (c_ref26_Twin : (List Val) → Option (List Val)) (n : Nat) : Sums (ref30_replaced_x c_ref30_Reference c_ref30_replaced c_ref30_Named c_ref30_Find c_ref26_Twin) (PX X [33]) := [(0, runL U ref30_replaced_L0_D (ref30_replaced_L0_g c_ref30_Reference c_ref30_replaced c_ref30_Named c_ref30_Find c_ref26_Twin n) n)]
theorem ref30_replaced_L0_e (c_ref30_Reference : Val → Option Bool) (c_ref30_replaced : (List Val) × (List Cus) → Option (List Val)) (c_ref30_Named : Val → Option ((List UInt8) × (List Val) × Bool)) (c_ref30_Find : (List Cus) × (List UInt8) → Option Int) (c_ref26_Twin : (List Val) → Option (List Val)) (n : Nat) : ∀ c kx kr y k1, evL (ref30_replaced_x c_ref30_Reference c_ref30_replaced c_ref30_Named c_ref30_Find c_ref26_Twin) (ann 65) (ref30_replaced_sums c_ref30_Reference c_ref30_replaced c_ref30_Named c_ref30_Find c_ref26_Twin n) 0 (loopOf (bodyOf Try.f65) 0) (kontL U ref30_replaced_L0_D kx kr k1) (encS U ref30_replaced_L0_D.cap ref30_replaced_L0_D.din c y) = ref30_replaced_L0_g c_ref30_Reference c_ref30_replaced c_ref30_Named c_ref30_Find c_ref26_Twin n c (fun i z => kx i c z) kr y (fun y2 => k1 c y2) := by
  intro c kx kr y k1
  kernel_rfl
theorem ref30_replaced_e (c_ref30_Reference : Val → Option Bool) (c_ref30_replaced : (List Val) × (List Cus) → Option (List Val)) (c_ref30_Named : Val → Option ((List UInt8) × (List Val) × Bool)) (c_ref30_Find : (List Cus) × (List UInt8) → Option Int) (c_ref26_Twin : (List Val) → Option (List Val)) (n : Nat) : ∀ a, fnL (ref30_replaced_x c_ref30_Reference c_ref30_replaced c_ref30_Named c_ref30_Find c_ref26_Twin) true 65 Try.f65 [.ty 33, .ty 22] [33] (ref30_replaced_sums c_ref30_Reference c_ref30_replaced c_ref30_Named c_ref30_Find c_ref26_Twin n) a = ref30_replaced c_ref30_Reference c_ref30_replaced c_ref30_Named c_ref30_Find c_ref26_Twin n a.1 a.2 := by
  intro a
  kernel_rfl
theorem ref30_replaced_hT {K : CallT} (c_ref30_Reference : Val → Option Bool) (c_ref30_replaced : (List Val) × (List Cus) → Option (List Val)) (c_ref30_Named : Val → Option ((List UInt8) × (List Val) × Bool)) (c_ref30_Find : (List Cus) × (List UInt8) → Option Int) (c_ref26_Twin : (List Val) → Option (List Val)) (h0 : Meets U (callV C K) 60 ⟨true, [.ty 60], [4], c_ref30_Reference⟩) (h1 : Meets U (callV C K) 65 ⟨true, [.ty 33, .ty 22], [33], c_ref30_replaced⟩) (h2 : Meets U (callV C K) 61 ⟨true, [.ty 60], [9, 33, 4], c_ref30_Named⟩) (h3 : Meets U (callV C K) 69 ⟨true, [.ty 22, .ty 9], [3], c_ref30_Find⟩) (h4 : Meets U (callV C K) 13 ⟨true, [.ty 33], [33], c_ref26_Twin⟩)  : CallsOk (ref30_replaced_x c_ref30_Reference c_ref30_replaced c_ref30_Named c_ref30_Find c_ref26_Twin) (callV C K) :=
  ⟨(mall_cons h0 (mall_cons h1 (mall_cons h2 (mall_cons h3 (mall_cons h4 mall_nil))))), rall_nil⟩
theorem ref30_replaced_L0_law {K : CallT} (c_ref30_Reference : Val → Option Bool) (c_ref30_replaced : (List Val) × (List Cus) → Option (List Val)) (c_ref30_Named : Val → Option ((List UInt8) × (List Val) × Bool)) (c_ref30_Find : (List Cus) × (List UInt8) → Option Int) (c_ref26_Twin : (List Val) → Option (List Val)) (h0 : Meets U (callV C K) 60 ⟨true, [.ty 60], [4], c_ref30_Reference⟩) (h1 : Meets U (callV C K) 65 ⟨true, [.ty 33, .ty 22], [33], c_ref30_replaced⟩) (h2 : Meets U (callV C K) 61 ⟨true, [.ty 60], [9, 33, 4], c_ref30_Named⟩) (h3 : Meets U (callV C K) 69 ⟨true, [.ty 22, .ty 9], [3], c_ref30_Find⟩) (h4 : Meets U (callV C K) 13 ⟨true, [.ty 33], [33], c_ref26_Twin⟩)  (n : Nat) (b0 : Base) (bn0 : b0.nr ≤ 0) : Law (ref30_replaced_x c_ref30_Reference c_ref30_replaced c_ref30_Named c_ref30_Find c_ref26_Twin) b0 (callV C K) (ann 65) n (loopOf (bodyOf Try.f65) 0) (runL U ref30_replaced_L0_D (ref30_replaced_L0_g c_ref30_Reference c_ref30_replaced c_ref30_Named c_ref30_Find c_ref26_Twin n) n) :=
  law_of (x := ref30_replaced_x c_ref30_Reference c_ref30_replaced c_ref30_Named c_ref30_Find c_ref26_Twin) (id := 0) ok (ref30_replaced_hT c_ref30_Reference c_ref30_replaced c_ref30_Named c_ref30_Find c_ref26_Twin h0 h1 h2 h3 h4) (sums := ref30_replaced_sums c_ref30_Reference c_ref30_replaced c_ref30_Named c_ref30_Find c_ref26_Twin n) (laws_none (show loopsOf 0 (loopOf (bodyOf Try.f65) 0) = [] by kernel_rfl)) ref30_replaced_L0_D bn0 (ref30_replaced_L0_g c_ref30_Reference c_ref30_replaced c_ref30_Named c_ref30_Find c_ref26_Twin n) (ref30_replaced_L0_e c_ref30_Reference c_ref30_replaced c_ref30_Named c_ref30_Find c_ref26_Twin n)
theorem ref30_replaced_meets {K : CallT} (hK : ∀ args h, K 65 args h = none) (c_ref30_Reference : Val → Option Bool) (c_ref30_replaced : (List Val) × (List Cus) → Option (List Val)) (c_ref30_Named : Val → Option ((List UInt8) × (List Val) × Bool)) (c_ref30_Find : (List Cus) × (List UInt8) → Option Int) (c_ref26_Twin : (List Val) → Option (List Val)) (h0 : Meets U (callV C K) 60 ⟨true, [.ty 60], [4], c_ref30_Reference⟩) (h1 : Meets U (callV C K) 65 ⟨true, [.ty 33, .ty 22], [33], c_ref30_replaced⟩) (h2 : Meets U (callV C K) 61 ⟨true, [.ty 60], [9, 33, 4], c_ref30_Named⟩) (h3 : Meets U (callV C K) 69 ⟨true, [.ty 22, .ty 9], [3], c_ref30_Find⟩) (h4 : Meets U (callV C K) 13 ⟨true, [.ty 33], [33], c_ref26_Twin⟩)  (t : PX X (AK.tys [.ty 33, .ty 22]) → Option (PX X [33])) (h : ∀ a r, t a = some r → ∃ n, ref30_replaced c_ref30_Reference c_ref30_replaced c_ref30_Named c_ref30_Find c_ref26_Twin n a.1 a.2 = some r) : Meets U (callV C K) 65 ⟨true, [.ty 33, .ty 22], [33], t⟩ := by
  refine fnL_meets (x := ref30_replaced_x c_ref30_Reference c_ref30_replaced c_ref30_Named c_ref30_Find c_ref26_Twin) (ak := [.ty 33, .ty 22]) (rts := [33]) (dir := true) ok (ref30_replaced_hT c_ref30_Reference c_ref30_replaced c_ref30_Named c_ref30_Find c_ref26_Twin h0 h1 h2 h3 h4) hK Try.func65 ref30_replaced_ok fun a r hr => ?_
  obtain ⟨n, hn⟩ := h a r hr
  exact ⟨n, ref30_replaced_sums c_ref30_Reference c_ref30_replaced c_ref30_Named c_ref30_Find c_ref26_Twin n, (laws_ids (ids := [0]) (by kernel_rfl) (by decide) (fun i hi => by
    simp only [List.mem_cons, List.not_mem_nil, or_false] at hi
    rcases hi with rfl
    · exact laws_one (c2 := loopOf (bodyOf Try.f65) 0) (by kernel_rfl) (by kernel_rfl) (ref30_replaced_L0_law c_ref30_Reference c_ref30_replaced c_ref30_Named c_ref30_Find c_ref26_Twin h0 h1 h2 h3 h4 _ _ (Nat.le_refl _))
    )), (ref30_replaced_e c_ref30_Reference c_ref30_replaced c_ref30_Named c_ref30_Find c_ref26_Twin n a).trans hn⟩
-- 39 vitrine/vars.replace
def vars_replace (c_vars_measure : (List Val) × (List ((List UInt8) × (List Val))) → Option Int) (c_short_Var : (List Val) → Option Bool) (c_vars_put : (List Val) × (List ((List UInt8) × (List Val))) → Option (List Val)) (c_nest_Check : (List Val) → Option Int) (n : Nat) (p0 : List Val) (p1 : List ((List UInt8) × (List Val)))  : Option ((List Val) × Int) :=
  Option.bind (c_vars_measure (p0, p1)) fun r1 =>
  cond (decide (r1 < (0 : Int)))
  (some ([], (6 : Int)))
  (Option.bind (cond (decide (r1 > (2000 : Int))) (c_short_Var p0) (some false)) fun r2 =>
  Option.bind (some (cond (decide (r1 > (2000 : Int))) r2 false)) fun m3 =>
  cond m3
  (some ([], (28 : Int)))
  (Option.bind (c_vars_put (p0, p1)) fun r4 =>
  Option.bind (c_nest_Check r4) fun r5 =>
  cond (r5 != (0 : Int))
  (some ([], r5))
  (some (r4, (0 : Int)))))
abbrev vars_replace_T (c_vars_measure : (List Val) × (List ((List UInt8) × (List Val))) → Option Int) (c_short_Var : (List Val) → Option Bool) (c_vars_put : (List Val) × (List ((List UInt8) × (List Val))) → Option (List Val)) (c_nest_Check : (List Val) → Option Int) : List (Nat × TCall X) := [(62, ⟨true, [.ty 33, .ty 70], [3], c_vars_measure⟩), (29, ⟨true, [.ty 33], [4], c_short_Var⟩), (63, ⟨true, [.ty 33, .ty 70], [33], c_vars_put⟩), (24, ⟨true, [.ty 33], [25], c_nest_Check⟩)]
noncomputable abbrev vars_replace_x (c_vars_measure : (List Val) × (List ((List UInt8) × (List Val))) → Option Int) (c_short_Var : (List Val) → Option Bool) (c_vars_put : (List Val) × (List ((List UInt8) × (List Val))) → Option (List Val)) (c_nest_Check : (List Val) → Option Int) : Cx := ⟨C, U, vars_replace_T c_vars_measure c_short_Var c_vars_put c_nest_Check, [], fun _ => []⟩
theorem vars_replace_ok : okF (C.ann 39) Try.f39 2 = true := by kernel_rfl
noncomputable abbrev vars_replace_sums (c_vars_measure : (List Val) × (List ((List UInt8) × (List Val))) → Option Int) (c_short_Var : (List Val) → Option Bool) (c_vars_put : (List Val) × (List ((List UInt8) × (List Val))) → Option (List Val)) (c_nest_Check : (List Val) → Option Int) (n : Nat) : Sums (vars_replace_x c_vars_measure c_short_Var c_vars_put c_nest_Check) (PX X [33, 25]) := []
theorem vars_replace_e (c_vars_measure : (List Val) × (List ((List UInt8) × (List Val))) → Option Int) (c_short_Var : (List Val) → Option Bool) (c_vars_put : (List Val) × (List ((List UInt8) × (List Val))) → Option (List Val)) (c_nest_Check : (List Val) → Option Int) (n : Nat) : ∀ a, fnL (vars_replace_x c_vars_measure c_short_Var c_vars_put c_nest_Check) true 39 Try.f39 [.ty 33, .ty 70] [33, 25] (vars_replace_sums c_vars_measure c_short_Var c_vars_put c_nest_Check n) a = vars_replace c_vars_measure c_short_Var c_vars_put c_nest_Check n a.1 a.2 := by
  intro a
  kernel_rfl
theorem vars_replace_hT {K : CallT} (c_vars_measure : (List Val) × (List ((List UInt8) × (List Val))) → Option Int) (c_short_Var : (List Val) → Option Bool) (c_vars_put : (List Val) × (List ((List UInt8) × (List Val))) → Option (List Val)) (c_nest_Check : (List Val) → Option Int) (h0 : Meets U (callV C K) 62 ⟨true, [.ty 33, .ty 70], [3], c_vars_measure⟩) (h1 : Meets U (callV C K) 29 ⟨true, [.ty 33], [4], c_short_Var⟩) (h2 : Meets U (callV C K) 63 ⟨true, [.ty 33, .ty 70], [33], c_vars_put⟩) (h3 : Meets U (callV C K) 24 ⟨true, [.ty 33], [25], c_nest_Check⟩)  : CallsOk (vars_replace_x c_vars_measure c_short_Var c_vars_put c_nest_Check) (callV C K) :=
  ⟨(mall_cons h0 (mall_cons h1 (mall_cons h2 (mall_cons h3 mall_nil)))), rall_nil⟩
theorem vars_replace_meets {K : CallT} (hK : ∀ args h, K 39 args h = none) (c_vars_measure : (List Val) × (List ((List UInt8) × (List Val))) → Option Int) (c_short_Var : (List Val) → Option Bool) (c_vars_put : (List Val) × (List ((List UInt8) × (List Val))) → Option (List Val)) (c_nest_Check : (List Val) → Option Int) (h0 : Meets U (callV C K) 62 ⟨true, [.ty 33, .ty 70], [3], c_vars_measure⟩) (h1 : Meets U (callV C K) 29 ⟨true, [.ty 33], [4], c_short_Var⟩) (h2 : Meets U (callV C K) 63 ⟨true, [.ty 33, .ty 70], [33], c_vars_put⟩) (h3 : Meets U (callV C K) 24 ⟨true, [.ty 33], [25], c_nest_Check⟩)  (t : PX X (AK.tys [.ty 33, .ty 70]) → Option (PX X [33, 25])) (h : ∀ a r, t a = some r → ∃ n, vars_replace c_vars_measure c_short_Var c_vars_put c_nest_Check n a.1 a.2 = some r) : Meets U (callV C K) 39 ⟨true, [.ty 33, .ty 70], [33, 25], t⟩ := by
  refine fnL_meets (x := vars_replace_x c_vars_measure c_short_Var c_vars_put c_nest_Check) (ak := [.ty 33, .ty 70]) (rts := [33, 25]) (dir := true) ok (vars_replace_hT c_vars_measure c_short_Var c_vars_put c_nest_Check h0 h1 h2 h3) hK Try.func39 vars_replace_ok fun a r hr => ?_
  obtain ⟨n, hn⟩ := h a r hr
  exact ⟨n, vars_replace_sums c_vars_measure c_short_Var c_vars_put c_nest_Check n, (laws_none (show loopsOf 0 (bodyOf Try.f39) = [] by kernel_rfl)), (vars_replace_e c_vars_measure c_short_Var c_vars_put c_nest_Check n a).trans hn⟩
-- 41 vitrine/vitrineref30.Put
def ref30_Put (c_ref30_measured : (List Val) × (List Cus) → Option (Int × Bool)) (c_ref27_Var : (List Val) → Option Bool) (c_ref30_replaced : (List Val) × (List Cus) → Option (List Val)) (c_ref04_Check : (List Val) → Option Int) (n : Nat) (p0 : List Val) (p1 : List Cus)  : Option ((List Val) × Int) :=
  Option.bind (c_ref30_measured (p0, p1)) fun r1 =>
  cond (!r1.2)
  (some ([], (6 : Int)))
  (Option.bind (cond (decide (r1.1 > (2000 : Int))) (c_ref27_Var p0) (some false)) fun r2 =>
  Option.bind (some (cond (decide (r1.1 > (2000 : Int))) r2 false)) fun m3 =>
  cond m3
  (some ([], (28 : Int)))
  (Option.bind (c_ref30_replaced (p0, p1)) fun r4 =>
  Option.bind (c_ref04_Check r4) fun r5 =>
  cond (r5 != (0 : Int))
  (some ([], r5))
  (some (r4, (0 : Int)))))
abbrev ref30_Put_T (c_ref30_measured : (List Val) × (List Cus) → Option (Int × Bool)) (c_ref27_Var : (List Val) → Option Bool) (c_ref30_replaced : (List Val) × (List Cus) → Option (List Val)) (c_ref04_Check : (List Val) → Option Int) : List (Nat × TCall X) := [(64, ⟨true, [.ty 33, .ty 22], [3, 4], c_ref30_measured⟩), (31, ⟨true, [.ty 33], [4], c_ref27_Var⟩), (65, ⟨true, [.ty 33, .ty 22], [33], c_ref30_replaced⟩), (27, ⟨true, [.ty 33], [3], c_ref04_Check⟩)]
noncomputable abbrev ref30_Put_x (c_ref30_measured : (List Val) × (List Cus) → Option (Int × Bool)) (c_ref27_Var : (List Val) → Option Bool) (c_ref30_replaced : (List Val) × (List Cus) → Option (List Val)) (c_ref04_Check : (List Val) → Option Int) : Cx := ⟨C, U, ref30_Put_T c_ref30_measured c_ref27_Var c_ref30_replaced c_ref04_Check, [], fun _ => []⟩
theorem ref30_Put_ok : okF (C.ann 41) Try.f41 2 = true := by kernel_rfl
noncomputable abbrev ref30_Put_sums (c_ref30_measured : (List Val) × (List Cus) → Option (Int × Bool)) (c_ref27_Var : (List Val) → Option Bool) (c_ref30_replaced : (List Val) × (List Cus) → Option (List Val)) (c_ref04_Check : (List Val) → Option Int) (n : Nat) : Sums (ref30_Put_x c_ref30_measured c_ref27_Var c_ref30_replaced c_ref04_Check) (PX X [33, 3]) := []
theorem ref30_Put_e (c_ref30_measured : (List Val) × (List Cus) → Option (Int × Bool)) (c_ref27_Var : (List Val) → Option Bool) (c_ref30_replaced : (List Val) × (List Cus) → Option (List Val)) (c_ref04_Check : (List Val) → Option Int) (n : Nat) : ∀ a, fnL (ref30_Put_x c_ref30_measured c_ref27_Var c_ref30_replaced c_ref04_Check) true 41 Try.f41 [.ty 33, .ty 22] [33, 3] (ref30_Put_sums c_ref30_measured c_ref27_Var c_ref30_replaced c_ref04_Check n) a = ref30_Put c_ref30_measured c_ref27_Var c_ref30_replaced c_ref04_Check n a.1 a.2 := by
  intro a
  kernel_rfl
theorem ref30_Put_hT {K : CallT} (c_ref30_measured : (List Val) × (List Cus) → Option (Int × Bool)) (c_ref27_Var : (List Val) → Option Bool) (c_ref30_replaced : (List Val) × (List Cus) → Option (List Val)) (c_ref04_Check : (List Val) → Option Int) (h0 : Meets U (callV C K) 64 ⟨true, [.ty 33, .ty 22], [3, 4], c_ref30_measured⟩) (h1 : Meets U (callV C K) 31 ⟨true, [.ty 33], [4], c_ref27_Var⟩) (h2 : Meets U (callV C K) 65 ⟨true, [.ty 33, .ty 22], [33], c_ref30_replaced⟩) (h3 : Meets U (callV C K) 27 ⟨true, [.ty 33], [3], c_ref04_Check⟩)  : CallsOk (ref30_Put_x c_ref30_measured c_ref27_Var c_ref30_replaced c_ref04_Check) (callV C K) :=
  ⟨(mall_cons h0 (mall_cons h1 (mall_cons h2 (mall_cons h3 mall_nil)))), rall_nil⟩
theorem ref30_Put_meets {K : CallT} (hK : ∀ args h, K 41 args h = none) (c_ref30_measured : (List Val) × (List Cus) → Option (Int × Bool)) (c_ref27_Var : (List Val) → Option Bool) (c_ref30_replaced : (List Val) × (List Cus) → Option (List Val)) (c_ref04_Check : (List Val) → Option Int) (h0 : Meets U (callV C K) 64 ⟨true, [.ty 33, .ty 22], [3, 4], c_ref30_measured⟩) (h1 : Meets U (callV C K) 31 ⟨true, [.ty 33], [4], c_ref27_Var⟩) (h2 : Meets U (callV C K) 65 ⟨true, [.ty 33, .ty 22], [33], c_ref30_replaced⟩) (h3 : Meets U (callV C K) 27 ⟨true, [.ty 33], [3], c_ref04_Check⟩)  (t : PX X (AK.tys [.ty 33, .ty 22]) → Option (PX X [33, 3])) (h : ∀ a r, t a = some r → ∃ n, ref30_Put c_ref30_measured c_ref27_Var c_ref30_replaced c_ref04_Check n a.1 a.2 = some r) : Meets U (callV C K) 41 ⟨true, [.ty 33, .ty 22], [33, 3], t⟩ := by
  refine fnL_meets (x := ref30_Put_x c_ref30_measured c_ref27_Var c_ref30_replaced c_ref04_Check) (ak := [.ty 33, .ty 22]) (rts := [33, 3]) (dir := true) ok (ref30_Put_hT c_ref30_measured c_ref27_Var c_ref30_replaced c_ref04_Check h0 h1 h2 h3) hK Try.func41 ref30_Put_ok fun a r hr => ?_
  obtain ⟨n, hn⟩ := h a r hr
  exact ⟨n, ref30_Put_sums c_ref30_measured c_ref27_Var c_ref30_replaced c_ref04_Check n, (laws_none (show loopsOf 0 (bodyOf Try.f41) = [] by kernel_rfl)), (ref30_Put_e c_ref30_measured c_ref27_Var c_ref30_replaced c_ref04_Check n a).trans hn⟩
-- 69 vitrine/vitrineref30.Find
def ref30_Find_L0  {R : Type} (n : Nat) (a0 : List Cus) (a1 : List UInt8) (kx0 : Int → Option R) (kr : Int → Option R) (y4 : Int) (y5 : Int) (k : Int → Int → Option R) : Option R :=
  cond (decide (y5 < (a0.length : Int)))
  (Option.bind (getI a0 y5) fun x3 =>
  cond (x3.name == a1)
  (kr y5)
  (k y4 (IntKind.i64.wrap (y5 + (1 : Int)))))
  (kx0 y4)
def ref30_Find  (n : Nat) (p0 : List Cus) (p1 : List UInt8)  : Option Int :=
  loop2 (ref30_Find_L0  n p0 p1 (fun z1 =>
  some (-1 : Int)) (fun z2 =>
  some z2)) n (0 : Int) (0 : Int)
abbrev ref30_Find_T  : List (Nat × TCall X) := []
noncomputable abbrev ref30_Find_x  : Cx := ⟨C, U, ref30_Find_T , [], fun _ => []⟩
theorem ref30_Find_ok : okF (C.ann 69) Try.f69 2 = true := by kernel_rfl
abbrev ref30_Find_L0_D : LD := ⟨0, [.val 0 22, .val 1 9], [.val 4 2, .val 5 2], [(0, [.val 4 2])], [.val 4 3]⟩
abbrev ref30_Find_L0_g  (n : Nat) : LG U (PX X [3]) ref30_Find_L0_D := fun c kx kr y k => ref30_Find_L0  n c.1 c.2.1 (fun z0 => kx 0 (z0, ())) (fun z0 => kr (z0, ())) y.1 y.2.1 (fun z0 z1 => k (z0, z1, ()))
noncomputable abbrev ref30_Find_sums  (n : Nat) : Sums (ref30_Find_x ) (PX X [3]) := [(0, runL U ref30_Find_L0_D (ref30_Find_L0_g  n) n)]
theorem ref30_Find_L0_e  (n : Nat) : ∀ c kx kr y k1, evL (ref30_Find_x ) (ann 69) (ref30_Find_sums  n) 0 (loopOf (bodyOf Try.f69) 0) (kontL U ref30_Find_L0_D kx kr k1) (encS U ref30_Find_L0_D.cap ref30_Find_L0_D.din c y) = ref30_Find_L0_g  n c (fun i z => kx i c z) kr y (fun y2 => k1 c y2) := by
  intro c kx kr y k1
  kernel_rfl
theorem ref30_Find_e  (n : Nat) : ∀ a, fnL (ref30_Find_x ) true 69 Try.f69 [.ty 22, .ty 9] [3] (ref30_Find_sums  n) a = ref30_Find  n a.1 a.2 := by
  intro a
  kernel_rfl
theorem ref30_Find_hT {K : CallT}    : CallsOk (ref30_Find_x ) (callV C K) :=
  ⟨mall_nil, rall_nil⟩
theorem ref30_Find_L0_law {K : CallT}    (n : Nat) (b0 : Base) (bn0 : b0.nr ≤ 0) : Law (ref30_Find_x ) b0 (callV C K) (ann 69) n (loopOf (bodyOf Try.f69) 0) (runL U ref30_Find_L0_D (ref30_Find_L0_g  n) n) :=
  law_of (x := ref30_Find_x ) (id := 0) ok (ref30_Find_hT  ) (sums := ref30_Find_sums  n) (laws_none (show loopsOf 0 (loopOf (bodyOf Try.f69) 0) = [] by kernel_rfl)) ref30_Find_L0_D bn0 (ref30_Find_L0_g  n) (ref30_Find_L0_e  n)
theorem ref30_Find_meets {K : CallT} (hK : ∀ args h, K 69 args h = none)    (t : PX X (AK.tys [.ty 22, .ty 9]) → Option (PX X [3])) (h : ∀ a r, t a = some r → ∃ n, ref30_Find  n a.1 a.2 = some r) : Meets U (callV C K) 69 ⟨true, [.ty 22, .ty 9], [3], t⟩ := by
  refine fnL_meets (x := ref30_Find_x ) (ak := [.ty 22, .ty 9]) (rts := [3]) (dir := true) ok (ref30_Find_hT  ) hK Try.func69 ref30_Find_ok fun a r hr => ?_
  obtain ⟨n, hn⟩ := h a r hr
  exact ⟨n, ref30_Find_sums  n, (laws_ids (ids := [0]) (by kernel_rfl) (by decide) (fun i hi => by
    simp only [List.mem_cons, List.not_mem_nil, or_false] at hi
    rcases hi with rfl
    · exact laws_one (c2 := loopOf (bodyOf Try.f69) 0) (by kernel_rfl) (by kernel_rfl) (ref30_Find_L0_law   _ _ (Nat.le_refl _))
    )), (ref30_Find_e  n a).trans hn⟩
-- 40 vitrine/vars.table
def vars_table_L0  {R : Type} (n : Nat) (_ : Unit) (a7 : List Cus) (a8 : Int) (kx0 : (List ((List UInt8) × (List Val))) → Option R)  (y9 : Int) (h1 : List ((List UInt8) × (List Val))) (k : Int → (List ((List UInt8) × (List Val))) → Option R) : Option R :=
  cond (decide (y9 < a8))
  (Option.bind (getI a7 y9) fun x2 =>
  k (IntKind.i64.wrap (y9 + (1 : Int))) (mput BEq.beq x2.name x2.val h1))
  (kx0 h1)
def vars_table  (n : Nat) (p0 : List Cus)  : Option (List ((List UInt8) × (List Val))) :=
  loop2 (vars_table_L0  n () p0 (p0.length : Int) (fun z1 =>
  some z1)) n (0 : Int) []
abbrev vars_table_T  : List (Nat × TCall X) := []
noncomputable abbrev vars_table_x  : Cx := ⟨C, U, vars_table_T , [], fun _ => []⟩
theorem vars_table_ok : okF (C.ann 40) Try.f40 1 = true := by kernel_rfl
abbrev vars_table_L0_D : LD := ⟨0, [.mp 3 0, .val 7 22, .val 8 2], [.val 9 2, .hmap 9 33], [(0, [.hmap 9 33])], []⟩
abbrev vars_table_L0_g  (n : Nat) : LG U (PX X [70]) vars_table_L0_D := fun c kx kr y k => vars_table_L0  n c.1 c.2.1 c.2.2.1 (fun z0 => kx 0 (z0, ())) y.1 y.2.1 (fun z0 z1 => k (z0, z1, ()))
noncomputable abbrev vars_table_sums  (n : Nat) : Sums (vars_table_x ) (PX X [70]) := [(0, runL U vars_table_L0_D (vars_table_L0_g  n) n)]
theorem vars_table_L0_e  (n : Nat) : ∀ c kx kr y k1, evL (vars_table_x ) (ann 40) (vars_table_sums  n) 0 (loopOf (bodyOf Try.f40) 0) (kontL U vars_table_L0_D kx kr k1) (encS U vars_table_L0_D.cap vars_table_L0_D.din c y) = vars_table_L0_g  n c (fun i z => kx i c z) kr y (fun y2 => k1 c y2) := by
  intro c kx kr y k1
  kernel_rfl
theorem vars_table_e  (n : Nat) : ∀ a, fnL (vars_table_x ) false 40 Try.f40 [.ty 22] [70] (vars_table_sums  n) a = vars_table  n a := by
  intro a
  kernel_rfl
theorem vars_table_hT {K : CallT}    : CallsOk (vars_table_x ) (callV C K) :=
  ⟨mall_nil, rall_nil⟩
theorem vars_table_L0_law {K : CallT}    (n : Nat) (b0 : Base) (bn0 : b0.nr ≤ 0) : Law (vars_table_x ) b0 (callV C K) (ann 40) n (loopOf (bodyOf Try.f40) 0) (runL U vars_table_L0_D (vars_table_L0_g  n) n) :=
  law_of (x := vars_table_x ) (id := 0) ok (vars_table_hT  ) (sums := vars_table_sums  n) (laws_none (show loopsOf 0 (loopOf (bodyOf Try.f40) 0) = [] by kernel_rfl)) vars_table_L0_D bn0 (vars_table_L0_g  n) (vars_table_L0_e  n)
theorem vars_table_meets {K : CallT} (hK : ∀ args h, K 40 args h = none)    (t : PX X (AK.tys [.ty 22]) → Option (PX X [70])) (h : ∀ a r, t a = some r → ∃ n, vars_table  n a = some r) : Meets U (callV C K) 40 ⟨false, [.ty 22], [70], t⟩ := by
  refine fnL_meets (x := vars_table_x ) (ak := [.ty 22]) (rts := [70]) (dir := false) ok (vars_table_hT  ) hK Try.func40 vars_table_ok fun a r hr => ?_
  obtain ⟨n, hn⟩ := h a r hr
  exact ⟨n, vars_table_sums  n, (laws_ids (ids := [0]) (by kernel_rfl) (by decide) (fun i hi => by
    simp only [List.mem_cons, List.not_mem_nil, or_false] at hi
    rcases hi with rfl
    · exact laws_one (c2 := loopOf (bodyOf Try.f40) 0) (by kernel_rfl) (by kernel_rfl) (vars_table_L0_law   _ _ (Nat.le_refl _))
    )), (vars_table_e  n a).trans hn⟩
-- 18 vitrine/vars.Replace
def vars_Replace (c_nest_Check : (List Val) → Option Int) (c_vars_Check : (List Cus) → Option Int) (c_vars_table : (List Cus) → Option (List ((List UInt8) × (List Val)))) (c_vars_replace : (List Val) × (List ((List UInt8) × (List Val))) → Option ((List Val) × Int)) (n : Nat) (p0 : List Val) (p1 : List Cus)  : Option ((List Val) × Int) :=
  Option.bind (c_nest_Check p0) fun r1 =>
  cond (r1 != (0 : Int))
  (some ([], r1))
  (Option.bind (c_vars_Check p1) fun r2 =>
  cond (r2 != (0 : Int))
  (some ([], r2))
  (Option.bind (c_vars_table p1) fun r3 =>
  Option.bind (c_vars_replace (p0, r3)) fun r4 =>
  some (r4.1, r4.2)))
abbrev vars_Replace_T (c_nest_Check : (List Val) → Option Int) (c_vars_Check : (List Cus) → Option Int) (c_vars_table : (List Cus) → Option (List ((List UInt8) × (List Val)))) (c_vars_replace : (List Val) × (List ((List UInt8) × (List Val))) → Option ((List Val) × Int)) : List (Nat × TCall X) := [(24, ⟨true, [.ty 33], [25], c_nest_Check⟩), (10, ⟨true, [.ty 22], [25], c_vars_Check⟩), (40, ⟨false, [.ty 22], [70], c_vars_table⟩), (39, ⟨true, [.ty 33, .ty 70], [33, 25], c_vars_replace⟩)]
noncomputable abbrev vars_Replace_x (c_nest_Check : (List Val) → Option Int) (c_vars_Check : (List Cus) → Option Int) (c_vars_table : (List Cus) → Option (List ((List UInt8) × (List Val)))) (c_vars_replace : (List Val) × (List ((List UInt8) × (List Val))) → Option ((List Val) × Int)) : Cx := ⟨C, U, vars_Replace_T c_nest_Check c_vars_Check c_vars_table c_vars_replace, [], fun _ => []⟩
theorem vars_Replace_ok : okF (C.ann 18) Try.f18 2 = true := by kernel_rfl
noncomputable abbrev vars_Replace_sums (c_nest_Check : (List Val) → Option Int) (c_vars_Check : (List Cus) → Option Int) (c_vars_table : (List Cus) → Option (List ((List UInt8) × (List Val)))) (c_vars_replace : (List Val) × (List ((List UInt8) × (List Val))) → Option ((List Val) × Int)) (n : Nat) : Sums (vars_Replace_x c_nest_Check c_vars_Check c_vars_table c_vars_replace) (PX X [33, 25]) := []
theorem vars_Replace_e (c_nest_Check : (List Val) → Option Int) (c_vars_Check : (List Cus) → Option Int) (c_vars_table : (List Cus) → Option (List ((List UInt8) × (List Val)))) (c_vars_replace : (List Val) × (List ((List UInt8) × (List Val))) → Option ((List Val) × Int)) (n : Nat) : ∀ a, fnL (vars_Replace_x c_nest_Check c_vars_Check c_vars_table c_vars_replace) true 18 Try.f18 [.ty 33, .ty 22] [33, 25] (vars_Replace_sums c_nest_Check c_vars_Check c_vars_table c_vars_replace n) a = vars_Replace c_nest_Check c_vars_Check c_vars_table c_vars_replace n a.1 a.2 := by
  intro a
  kernel_rfl
theorem vars_Replace_hT {K : CallT} (c_nest_Check : (List Val) → Option Int) (c_vars_Check : (List Cus) → Option Int) (c_vars_table : (List Cus) → Option (List ((List UInt8) × (List Val)))) (c_vars_replace : (List Val) × (List ((List UInt8) × (List Val))) → Option ((List Val) × Int)) (h0 : Meets U (callV C K) 24 ⟨true, [.ty 33], [25], c_nest_Check⟩) (h1 : Meets U (callV C K) 10 ⟨true, [.ty 22], [25], c_vars_Check⟩) (h2 : Meets U (callV C K) 40 ⟨false, [.ty 22], [70], c_vars_table⟩) (h3 : Meets U (callV C K) 39 ⟨true, [.ty 33, .ty 70], [33, 25], c_vars_replace⟩)  : CallsOk (vars_Replace_x c_nest_Check c_vars_Check c_vars_table c_vars_replace) (callV C K) :=
  ⟨(mall_cons h0 (mall_cons h1 (mall_cons h2 (mall_cons h3 mall_nil)))), rall_nil⟩
theorem vars_Replace_meets {K : CallT} (hK : ∀ args h, K 18 args h = none) (c_nest_Check : (List Val) → Option Int) (c_vars_Check : (List Cus) → Option Int) (c_vars_table : (List Cus) → Option (List ((List UInt8) × (List Val)))) (c_vars_replace : (List Val) × (List ((List UInt8) × (List Val))) → Option ((List Val) × Int)) (h0 : Meets U (callV C K) 24 ⟨true, [.ty 33], [25], c_nest_Check⟩) (h1 : Meets U (callV C K) 10 ⟨true, [.ty 22], [25], c_vars_Check⟩) (h2 : Meets U (callV C K) 40 ⟨false, [.ty 22], [70], c_vars_table⟩) (h3 : Meets U (callV C K) 39 ⟨true, [.ty 33, .ty 70], [33, 25], c_vars_replace⟩)  (t : PX X (AK.tys [.ty 33, .ty 22]) → Option (PX X [33, 25])) (h : ∀ a r, t a = some r → ∃ n, vars_Replace c_nest_Check c_vars_Check c_vars_table c_vars_replace n a.1 a.2 = some r) : Meets U (callV C K) 18 ⟨true, [.ty 33, .ty 22], [33, 25], t⟩ := by
  refine fnL_meets (x := vars_Replace_x c_nest_Check c_vars_Check c_vars_table c_vars_replace) (ak := [.ty 33, .ty 22]) (rts := [33, 25]) (dir := true) ok (vars_Replace_hT c_nest_Check c_vars_Check c_vars_table c_vars_replace h0 h1 h2 h3) hK Try.func18 vars_Replace_ok fun a r hr => ?_
  obtain ⟨n, hn⟩ := h a r hr
  exact ⟨n, vars_Replace_sums c_nest_Check c_vars_Check c_vars_table c_vars_replace n, (laws_none (show loopsOf 0 (bodyOf Try.f18) = [] by kernel_rfl)), (vars_Replace_e c_nest_Check c_vars_Check c_vars_table c_vars_replace n a).trans hn⟩
-- 19 vitrine/vitrineref30.Replace
def ref30_Replace (c_ref04_Check : (List Val) → Option Int) (c_ref30_Check : (List Cus) → Option Int) (c_ref30_Put : (List Val) × (List Cus) → Option ((List Val) × Int)) (n : Nat) (p0 : List Val) (p1 : List Cus)  : Option ((List Val) × Int) :=
  Option.bind (c_ref04_Check p0) fun r1 =>
  cond (r1 != (0 : Int))
  (some ([], r1))
  (Option.bind (c_ref30_Check p1) fun r2 =>
  cond (r2 != (0 : Int))
  (some ([], r2))
  (Option.bind (c_ref30_Put (p0, p1)) fun r3 =>
  some (r3.1, r3.2)))
abbrev ref30_Replace_T (c_ref04_Check : (List Val) → Option Int) (c_ref30_Check : (List Cus) → Option Int) (c_ref30_Put : (List Val) × (List Cus) → Option ((List Val) × Int)) : List (Nat × TCall X) := [(27, ⟨true, [.ty 33], [3], c_ref04_Check⟩), (11, ⟨true, [.ty 22], [3], c_ref30_Check⟩), (41, ⟨true, [.ty 33, .ty 22], [33, 3], c_ref30_Put⟩)]
noncomputable abbrev ref30_Replace_x (c_ref04_Check : (List Val) → Option Int) (c_ref30_Check : (List Cus) → Option Int) (c_ref30_Put : (List Val) × (List Cus) → Option ((List Val) × Int)) : Cx := ⟨C, U, ref30_Replace_T c_ref04_Check c_ref30_Check c_ref30_Put, [], fun _ => []⟩
theorem ref30_Replace_ok : okF (C.ann 19) Try.f19 2 = true := by kernel_rfl
noncomputable abbrev ref30_Replace_sums (c_ref04_Check : (List Val) → Option Int) (c_ref30_Check : (List Cus) → Option Int) (c_ref30_Put : (List Val) × (List Cus) → Option ((List Val) × Int)) (n : Nat) : Sums (ref30_Replace_x c_ref04_Check c_ref30_Check c_ref30_Put) (PX X [33, 3]) := []
theorem ref30_Replace_e (c_ref04_Check : (List Val) → Option Int) (c_ref30_Check : (List Cus) → Option Int) (c_ref30_Put : (List Val) × (List Cus) → Option ((List Val) × Int)) (n : Nat) : ∀ a, fnL (ref30_Replace_x c_ref04_Check c_ref30_Check c_ref30_Put) true 19 Try.f19 [.ty 33, .ty 22] [33, 3] (ref30_Replace_sums c_ref04_Check c_ref30_Check c_ref30_Put n) a = ref30_Replace c_ref04_Check c_ref30_Check c_ref30_Put n a.1 a.2 := by
  intro a
  kernel_rfl
theorem ref30_Replace_hT {K : CallT} (c_ref04_Check : (List Val) → Option Int) (c_ref30_Check : (List Cus) → Option Int) (c_ref30_Put : (List Val) × (List Cus) → Option ((List Val) × Int)) (h0 : Meets U (callV C K) 27 ⟨true, [.ty 33], [3], c_ref04_Check⟩) (h1 : Meets U (callV C K) 11 ⟨true, [.ty 22], [3], c_ref30_Check⟩) (h2 : Meets U (callV C K) 41 ⟨true, [.ty 33, .ty 22], [33, 3], c_ref30_Put⟩)  : CallsOk (ref30_Replace_x c_ref04_Check c_ref30_Check c_ref30_Put) (callV C K) :=
  ⟨(mall_cons h0 (mall_cons h1 (mall_cons h2 mall_nil))), rall_nil⟩
theorem ref30_Replace_meets {K : CallT} (hK : ∀ args h, K 19 args h = none) (c_ref04_Check : (List Val) → Option Int) (c_ref30_Check : (List Cus) → Option Int) (c_ref30_Put : (List Val) × (List Cus) → Option ((List Val) × Int)) (h0 : Meets U (callV C K) 27 ⟨true, [.ty 33], [3], c_ref04_Check⟩) (h1 : Meets U (callV C K) 11 ⟨true, [.ty 22], [3], c_ref30_Check⟩) (h2 : Meets U (callV C K) 41 ⟨true, [.ty 33, .ty 22], [33, 3], c_ref30_Put⟩)  (t : PX X (AK.tys [.ty 33, .ty 22]) → Option (PX X [33, 3])) (h : ∀ a r, t a = some r → ∃ n, ref30_Replace c_ref04_Check c_ref30_Check c_ref30_Put n a.1 a.2 = some r) : Meets U (callV C K) 19 ⟨true, [.ty 33, .ty 22], [33, 3], t⟩ := by
  refine fnL_meets (x := ref30_Replace_x c_ref04_Check c_ref30_Check c_ref30_Put) (ak := [.ty 33, .ty 22]) (rts := [33, 3]) (dir := true) ok (ref30_Replace_hT c_ref04_Check c_ref30_Check c_ref30_Put h0 h1 h2) hK Try.func19 ref30_Replace_ok fun a r hr => ?_
  obtain ⟨n, hn⟩ := h a r hr
  exact ⟨n, ref30_Replace_sums c_ref04_Check c_ref30_Check c_ref30_Put n, (laws_none (show loopsOf 0 (bodyOf Try.f19) = [] by kernel_rfl)), (ref30_Replace_e c_ref04_Check c_ref30_Check c_ref30_Put n a).trans hn⟩
-- 37 vitrine/vitrineref30.Sorted
def ref30_Sorted_L102  {R : Type} (n : Nat) (a0 : List (List UInt8)) (a2 : List (List UInt8)) (a3 : List (List UInt8)) (a4 : Int) (a10 : Bool) (kx102 : Int → Option R)  (y5 : Int) (k : Int → Option R) : Option R :=
  Option.bind (cond (decide (y5 < (a3.length : Int))) (getI a3 y5) (some [])) fun x38 =>
  Option.bind (cond (decide (y5 < (a3.length : Int))) (getI a0 a4) (some [])) fun x39 =>
  Option.bind (some (cond (decide (y5 < (a3.length : Int))) (Op.bytesLess x38 x39) false)) fun m40 =>
  cond m40
  (k (IntKind.i64.wrap (y5 + (1 : Int))))
  (kx102 y5)
def ref30_Sorted_L104  {R : Type} (n : Nat) (a0 : List (List UInt8)) (a2 : List (List UInt8)) (a3 : Nat) (a4 : Int) (a10 : Bool) (a5 : Int) (a44 : Bool) (kx104 : Int → List (List UInt8) → Option R)  (y6 : Int) (h1 : List (List UInt8)) (k : Int → List (List UInt8) → Option R) : Option R :=
  cond (decide (y6 > a5))
  (Option.bind (if 0 ≤ (IntKind.i64.wrap (y6 - (1 : Int))) ∧ (IntKind.i64.wrap (y6 - (1 : Int))) < a3 ∧ (IntKind.i64.wrap (y6 - (1 : Int))) < h1.length then some (IntKind.i64.wrap (y6 - (1 : Int))).toNat else none) fun i34 =>
  Option.bind (h1[i34]?) fun e35 =>
  Option.bind (if 0 ≤ y6 ∧ y6 < a3 ∧ y6 < h1.length then some y6.toNat else none) fun i36 =>
  Option.bind (if i36 < h1.length then some (h1.set i36 e35) else none) fun a37 =>
  k (IntKind.i64.wrap (y6 - (1 : Int))) a37)
  (kx104 y6 h1)
def ref30_Sorted_L2  {R : Type} (n : Nat) (a0 : List (List UInt8)) (a2 : List (List UInt8)) (a3 : Nat) (a4 : Int) (a10 : Bool) (kx2 : Int → List (List UInt8) → Option R)  (y5 : Int) (h1 : List (List UInt8)) (k : Int → List (List UInt8) → Option R) : Option R :=
  Option.bind (cond (decide (y5 < (a3 : Int))) (if 0 ≤ y5 ∧ y5 < a3 ∧ y5 < h1.length then some y5.toNat else none) (some 0)) fun i30 =>
  Option.bind (cond (decide (y5 < (a3 : Int))) (h1[i30]?) (some [])) fun e31 =>
  Option.bind (cond (decide (y5 < (a3 : Int))) (getI a0 a4) (some [])) fun x32 =>
  Option.bind (some (cond (decide (y5 < (a3 : Int))) (Op.bytesLess e31 x32) false)) fun m33 =>
  cond m33
  (k (IntKind.i64.wrap (y5 + (1 : Int))) h1)
  (kx2 y5 h1)
def ref30_Sorted_L4  {R : Type} (n : Nat) (a0 : List (List UInt8)) (a2 : List (List UInt8)) (a3 : Nat) (a4 : Int) (a10 : Bool) (a5 : Int) (a44 : Bool) (kx4 : Int → List (List UInt8) → Option R)  (y6 : Int) (h1 : List (List UInt8)) (k : Int → List (List UInt8) → Option R) : Option R :=
  cond (decide (y6 > a5))
  (Option.bind (if 0 ≤ (IntKind.i64.wrap (y6 - (1 : Int))) ∧ (IntKind.i64.wrap (y6 - (1 : Int))) < a3 ∧ (IntKind.i64.wrap (y6 - (1 : Int))) < h1.length then some (IntKind.i64.wrap (y6 - (1 : Int))).toNat else none) fun i26 =>
  Option.bind (h1[i26]?) fun e27 =>
  Option.bind (if 0 ≤ y6 ∧ y6 < a3 ∧ y6 < h1.length then some y6.toNat else none) fun i28 =>
  Option.bind (if i28 < h1.length then some (h1.set i28 e27) else none) fun a29 =>
  k (IntKind.i64.wrap (y6 - (1 : Int))) a29)
  (kx4 y6 h1)
def ref30_Sorted_L0  {R : Type} (n : Nat) (a0 : List (List UInt8)) (a2 : List (List UInt8)) (kx0 : Nat → List (List UInt8) → Option R)  (y3 : Nat) (y4 : Int) (h2 : List (List UInt8)) (k : Nat → Int → List (List UInt8) → Option R) : Option R :=
  cond (decide (y4 < (a0.length : Int)))
  (loop2 (ref30_Sorted_L2  n a0 a2 y3 y4 (decide (y4 < (a0.length : Int))) (fun z14 z15 =>
  Option.bind (cond (decide (z14 < (y3 : Int))) (if 0 ≤ z14 ∧ z14 < y3 ∧ z14 < z15.length then some z14.toNat else none) (some 0)) fun i16 =>
  Option.bind (cond (decide (z14 < (y3 : Int))) (z15[i16]?) (some [])) fun e17 =>
  Option.bind (cond (decide (z14 < (y3 : Int))) (getI a0 y4) (some [])) fun x18 =>
  Option.bind (some (cond (decide (z14 < (y3 : Int))) (e17 == x18) false)) fun m19 =>
  cond m19
  (k y3 (IntKind.i64.wrap (y4 + (1 : Int))) z15)
  (Option.bind (if y3 = z15.length then Option.bind (room 16 (z15.length + [([] : List UInt8)].length)) (fun _ => some (z15 ++ [([] : List UInt8)])) else none) fun a20 =>
  loop2 (ref30_Sorted_L4  n a0 a2 a20.length y4 (decide (y4 < (a0.length : Int))) z14 m19 (fun z21 z22 =>
  Option.bind (getI a0 y4) fun x23 =>
  Option.bind (if 0 ≤ z14 ∧ z14 < a20.length ∧ z14 < z22.length then some z14.toNat else none) fun i24 =>
  Option.bind (if i24 < z22.length then some (z22.set i24 x23) else none) fun a25 =>
  k a20.length (IntKind.i64.wrap (y4 + (1 : Int))) a25)) n (IntKind.i64.wrap ((a20.length : Int) - (1 : Int))) a20))) n (0 : Int) h2)
  (kx0 y3 h2)
def ref30_Sorted  (n : Nat) (p0 : List (List UInt8))  : Option (List (List UInt8)) :=
  cond (decide ((0 : Int) < (p0.length : Int)))
  (loop1 (ref30_Sorted_L102  n p0 [] [] (0 : Int) (decide ((0 : Int) < (p0.length : Int))) (fun z1 =>
  Option.bind (cond (decide (z1 < (([] : List (List UInt8)).length : Int))) (getI ([] : List (List UInt8)) z1) (some [])) fun x2 =>
  Option.bind (cond (decide (z1 < (([] : List (List UInt8)).length : Int))) (getI p0 (0 : Int)) (some [])) fun x3 =>
  Option.bind (some (cond (decide (z1 < (([] : List (List UInt8)).length : Int))) (x2 == x3) false)) fun m4 =>
  cond m4
  (none)
  (Option.bind (room 16 ([([] : List UInt8)].length)) fun u5 =>
  loop2 (ref30_Sorted_L104  n p0 [] ([([] : List UInt8)].length) (0 : Int) (decide ((0 : Int) < (p0.length : Int))) z1 m4 (fun z6 z7 =>
  Option.bind (getI p0 (0 : Int)) fun x8 =>
  Option.bind (if 0 ≤ z1 ∧ z1 < ([([] : List UInt8)].length) ∧ z1 < z7.length then some z1.toNat else none) fun i9 =>
  Option.bind (if i9 < z7.length then some (z7.set i9 x8) else none) fun a10 =>
  loop3 (ref30_Sorted_L0  n p0 [] (fun z11 z12 =>
  Option.bind (if z11 ≤ z12.length then some (z12.take z11) else none) fun f13 =>
  some f13)) n ([([] : List UInt8)].length) (IntKind.i64.wrap ((0 : Int) + (1 : Int))) a10)) n (IntKind.i64.wrap ((([([] : List UInt8)].length) : Int) - (1 : Int))) [([] : List UInt8)]))) n (0 : Int))
  (some [])
abbrev ref30_Sorted_T  : List (Nat × TCall X) := []
noncomputable abbrev ref30_Sorted_x  : Cx := ⟨C, U, ref30_Sorted_T , [], fun _ => []⟩
theorem ref30_Sorted_ok : okF (C.ann 37) Try.f37 1 = true := by kernel_rfl
abbrev ref30_Sorted_L102_D : LD := ⟨0, [.val 0 40, .val 2 40, .own 3 9, .val 4 2, .val 10 4], [.val 5 2], [(2, [.val 5 2])], []⟩
abbrev ref30_Sorted_L102_g  (n : Nat) : LG U (PX X [40]) ref30_Sorted_L102_D := fun c kx kr y k => ref30_Sorted_L102  n c.1 c.2.1 c.2.2.1 c.2.2.2.1 c.2.2.2.2.1 (fun z0 => kx 2 (z0, ())) y.1 (fun z0 => k (z0, ()))
abbrev ref30_Sorted_L104_D : LD := ⟨0, [.val 0 40, .val 2 40, .osl 3 0 9, .val 4 2, .val 10 4, .val 5 2, .val 44 4], [.val 6 2, .harr true 9], [(4, [.val 6 2, .harr true 9])], []⟩
abbrev ref30_Sorted_L104_g  (n : Nat) : LG U (PX X [40]) ref30_Sorted_L104_D := fun c kx kr y k => ref30_Sorted_L104  n c.1 c.2.1 c.2.2.1 c.2.2.2.1 c.2.2.2.2.1 c.2.2.2.2.2.1 c.2.2.2.2.2.2.1 (fun z0 z1 => kx 4 (z0, z1, ())) y.1 y.2.1 (fun z0 z1 => k (z0, z1, ()))
abbrev ref30_Sorted_L2_D : LD := ⟨0, [.val 0 40, .val 2 40, .osl 3 0 9, .val 4 2, .val 10 4], [.val 5 2, .harr true 9], [(2, [.val 5 2, .harr true 9])], []⟩
abbrev ref30_Sorted_L2_g  (n : Nat) : LG U (PX X [40]) ref30_Sorted_L2_D := fun c kx kr y k => ref30_Sorted_L2  n c.1 c.2.1 c.2.2.1 c.2.2.2.1 c.2.2.2.2.1 (fun z0 z1 => kx 2 (z0, z1, ())) y.1 y.2.1 (fun z0 z1 => k (z0, z1, ()))
abbrev ref30_Sorted_L4_D : LD := ⟨0, [.val 0 40, .val 2 40, .osl 3 0 9, .val 4 2, .val 10 4, .val 5 2, .val 44 4], [.val 6 2, .harr true 9], [(4, [.val 6 2, .harr true 9])], []⟩
abbrev ref30_Sorted_L4_g  (n : Nat) : LG U (PX X [40]) ref30_Sorted_L4_D := fun c kx kr y k => ref30_Sorted_L4  n c.1 c.2.1 c.2.2.1 c.2.2.2.1 c.2.2.2.2.1 c.2.2.2.2.2.1 c.2.2.2.2.2.2.1 (fun z0 z1 => kx 4 (z0, z1, ())) y.1 y.2.1 (fun z0 z1 => k (z0, z1, ()))
abbrev ref30_Sorted_L0_D : LD := ⟨0, [.val 0 40, .val 2 40], [.osl 3 0 9, .val 4 2, .harr true 9], [(0, [.osl 3 0 9, .harr true 9])], []⟩
abbrev ref30_Sorted_L0_g  (n : Nat) : LG U (PX X [40]) ref30_Sorted_L0_D := fun c kx kr y k => ref30_Sorted_L0  n c.1 c.2.1 (fun z0 z1 => kx 0 (z0, z1, ())) y.1 y.2.1 y.2.2.1 (fun z0 z1 z2 => k (z0, z1, z2, ()))
noncomputable abbrev ref30_Sorted_sums0  (n : Nat) : Sums (ref30_Sorted_x ) (PX X [40]) := [(2, runL U ref30_Sorted_L102_D (ref30_Sorted_L102_g  n) n), (4, runL U ref30_Sorted_L104_D (ref30_Sorted_L104_g  n) n)]
noncomputable abbrev ref30_Sorted_sums  (n : Nat) : Sums (ref30_Sorted_x ) (PX X [40]) := [(2, runL U ref30_Sorted_L2_D (ref30_Sorted_L2_g  n) n), (4, runL U ref30_Sorted_L4_D (ref30_Sorted_L4_g  n) n), (0, peelL (ref30_Sorted_x ) (ann 37) (ref30_Sorted_sums0  n) 0 (loopOf (bodyOf Try.f37) 0) (runL U ref30_Sorted_L0_D (ref30_Sorted_L0_g  n) n))]
theorem ref30_Sorted_L102_e  (n : Nat) : ∀ c kx kr y k1, evL (ref30_Sorted_x ) (ann 37) (ref30_Sorted_sums0  n) 2 (loopOf (bodyOf Try.f37) 2) (kontL U ref30_Sorted_L102_D kx kr k1) (encS U ref30_Sorted_L102_D.cap ref30_Sorted_L102_D.din c y) = ref30_Sorted_L102_g  n c (fun i z => kx i c z) kr y (fun y2 => k1 c y2) := by
  intro c kx kr y k1
  kernel_rfl
theorem ref30_Sorted_L104_e  (n : Nat) : ∀ c kx kr y k1, evL (ref30_Sorted_x ) (ann 37) (ref30_Sorted_sums0  n) 4 (loopOf (bodyOf Try.f37) 4) (kontL U ref30_Sorted_L104_D kx kr k1) (encS U ref30_Sorted_L104_D.cap ref30_Sorted_L104_D.din c y) = ref30_Sorted_L104_g  n c (fun i z => kx i c z) kr y (fun y2 => k1 c y2) := by
  intro c kx kr y k1
  kernel_rfl
theorem ref30_Sorted_L2_e  (n : Nat) : ∀ c kx kr y k1, evL (ref30_Sorted_x ) (ann 37) (ref30_Sorted_sums  n) 2 (loopOf (bodyOf Try.f37) 2) (kontL U ref30_Sorted_L2_D kx kr k1) (encS U ref30_Sorted_L2_D.cap ref30_Sorted_L2_D.din c y) = ref30_Sorted_L2_g  n c (fun i z => kx i c z) kr y (fun y2 => k1 c y2) := by
  intro c kx kr y k1
  kernel_rfl
theorem ref30_Sorted_L4_e  (n : Nat) : ∀ c kx kr y k1, evL (ref30_Sorted_x ) (ann 37) (ref30_Sorted_sums  n) 4 (loopOf (bodyOf Try.f37) 4) (kontL U ref30_Sorted_L4_D kx kr k1) (encS U ref30_Sorted_L4_D.cap ref30_Sorted_L4_D.din c y) = ref30_Sorted_L4_g  n c (fun i z => kx i c z) kr y (fun y2 => k1 c y2) := by
  intro c kx kr y k1
  kernel_rfl
theorem ref30_Sorted_L0_e  (n : Nat) : ∀ c kx kr y k1, evL (ref30_Sorted_x ) (ann 37) (ref30_Sorted_sums  n) 0 (loopOf (bodyOf Try.f37) 0) (kontL U ref30_Sorted_L0_D kx kr k1) (encS U ref30_Sorted_L0_D.cap ref30_Sorted_L0_D.din c y) = ref30_Sorted_L0_g  n c (fun i z => kx i c z) kr y (fun y2 => k1 c y2) := by
  intro c kx kr y k1
  kernel_rfl
theorem ref30_Sorted_e  (n : Nat) : ∀ a, fnL (ref30_Sorted_x ) false 37 Try.f37 [.ty 40] [40] (ref30_Sorted_sums  n) a = ref30_Sorted  n a := by
  intro a
  kernel_rfl
theorem ref30_Sorted_hT {K : CallT}    : CallsOk (ref30_Sorted_x ) (callV C K) :=
  ⟨mall_nil, rall_nil⟩
theorem ref30_Sorted_L102_law {K : CallT}    (n : Nat) (b0 : Base) (bn0 : b0.nr ≤ 0) : Law (ref30_Sorted_x ) b0 (callV C K) (ann 37) n (loopOf (bodyOf Try.f37) 2) (runL U ref30_Sorted_L102_D (ref30_Sorted_L102_g  n) n) :=
  law_of (x := ref30_Sorted_x ) (id := 2) ok (ref30_Sorted_hT  ) (sums := ref30_Sorted_sums0  n) (laws_none (show loopsOf 2 (loopOf (bodyOf Try.f37) 2) = [] by kernel_rfl)) ref30_Sorted_L102_D bn0 (ref30_Sorted_L102_g  n) (ref30_Sorted_L102_e  n)
theorem ref30_Sorted_L104_law {K : CallT}    (n : Nat) (b0 : Base) (bn0 : b0.nr ≤ 0) : Law (ref30_Sorted_x ) b0 (callV C K) (ann 37) n (loopOf (bodyOf Try.f37) 4) (runL U ref30_Sorted_L104_D (ref30_Sorted_L104_g  n) n) :=
  law_of (x := ref30_Sorted_x ) (id := 4) ok (ref30_Sorted_hT  ) (sums := ref30_Sorted_sums0  n) (laws_none (show loopsOf 4 (loopOf (bodyOf Try.f37) 4) = [] by kernel_rfl)) ref30_Sorted_L104_D bn0 (ref30_Sorted_L104_g  n) (ref30_Sorted_L104_e  n)
theorem ref30_Sorted_L2_law {K : CallT}    (n : Nat) (b0 : Base) (bn0 : b0.nr ≤ 0) : Law (ref30_Sorted_x ) b0 (callV C K) (ann 37) n (loopOf (bodyOf Try.f37) 2) (runL U ref30_Sorted_L2_D (ref30_Sorted_L2_g  n) n) :=
  law_of (x := ref30_Sorted_x ) (id := 2) ok (ref30_Sorted_hT  ) (sums := ref30_Sorted_sums  n) (laws_none (show loopsOf 2 (loopOf (bodyOf Try.f37) 2) = [] by kernel_rfl)) ref30_Sorted_L2_D bn0 (ref30_Sorted_L2_g  n) (ref30_Sorted_L2_e  n)
theorem ref30_Sorted_L4_law {K : CallT}    (n : Nat) (b0 : Base) (bn0 : b0.nr ≤ 0) : Law (ref30_Sorted_x ) b0 (callV C K) (ann 37) n (loopOf (bodyOf Try.f37) 4) (runL U ref30_Sorted_L4_D (ref30_Sorted_L4_g  n) n) :=
  law_of (x := ref30_Sorted_x ) (id := 4) ok (ref30_Sorted_hT  ) (sums := ref30_Sorted_sums  n) (laws_none (show loopsOf 4 (loopOf (bodyOf Try.f37) 4) = [] by kernel_rfl)) ref30_Sorted_L4_D bn0 (ref30_Sorted_L4_g  n) (ref30_Sorted_L4_e  n)
theorem ref30_Sorted_L0_law {K : CallT}    (n : Nat) (b0 : Base) (bn0 : b0.nr ≤ 0) : LawP (ref30_Sorted_x ) b0 (callV C K) (ann 37) n n (loopOf (bodyOf Try.f37) 0) (runL U ref30_Sorted_L0_D (ref30_Sorted_L0_g  n) n) :=
  law_ofP (x := ref30_Sorted_x ) (id := 0) ok (ref30_Sorted_hT  ) (sums := ref30_Sorted_sums  n) (laws_ids (ids := [2, 4]) (by kernel_rfl) (by decide) (fun i hi => by
    simp only [List.mem_cons, List.not_mem_nil, or_false] at hi
    rcases hi with rfl | rfl
    · exact laws_one (c2 := loopOf (bodyOf Try.f37) 2) (by kernel_rfl) (by kernel_rfl) (ref30_Sorted_L2_law   n b0 bn0)
    · exact laws_one (c2 := loopOf (bodyOf Try.f37) 4) (by kernel_rfl) (by kernel_rfl) (ref30_Sorted_L4_law   n b0 bn0)
    )) ref30_Sorted_L0_D bn0 (ref30_Sorted_L0_g  n) (ref30_Sorted_L0_e  n)
theorem ref30_Sorted_L0_lawQ {K : CallT}    (n : Nat) (b0 : Base) (bn0 : b0.nr ≤ 0) : Law (ref30_Sorted_x ) b0 (callV C K) (ann 37) (n + 1) (loopOf (bodyOf Try.f37) 0) (peelL (ref30_Sorted_x ) (ann 37) (ref30_Sorted_sums0  n) 0 (loopOf (bodyOf Try.f37) 0) (runL U ref30_Sorted_L0_D (ref30_Sorted_L0_g  n) n)) :=
  (law_peel (x := ref30_Sorted_x ) ok (ref30_Sorted_hT  ) (sums := ref30_Sorted_sums0  n) (laws_ids (ids := [2, 4]) (by kernel_rfl) (by decide) (fun i hi => by
    simp only [List.mem_cons, List.not_mem_nil, or_false] at hi
    rcases hi with rfl | rfl
    · exact laws_one (c2 := loopOf (bodyOf Try.f37) 2) (by kernel_rfl) (by kernel_rfl) (ref30_Sorted_L102_law   n b0 bn0)
    · exact laws_one (c2 := loopOf (bodyOf Try.f37) 4) (by kernel_rfl) (by kernel_rfl) (ref30_Sorted_L104_law   n b0 bn0)
    )) (ref30_Sorted_L0_law   n b0 bn0)).succ.law
theorem ref30_Sorted_meets {K : CallT} (hK : ∀ args h, K 37 args h = none)    (t : PX X (AK.tys [.ty 40]) → Option (PX X [40])) (h : ∀ a r, t a = some r → ∃ n, ref30_Sorted  n a = some r) : Meets U (callV C K) 37 ⟨false, [.ty 40], [40], t⟩ := by
  refine fnL_meets (x := ref30_Sorted_x ) (ak := [.ty 40]) (rts := [40]) (dir := false) ok (ref30_Sorted_hT  ) hK Try.func37 ref30_Sorted_ok fun a r hr => ?_
  obtain ⟨n, hn⟩ := h a r hr
  exact ⟨n + 1, ref30_Sorted_sums  n, (laws_ids (ids := [0, 2, 4]) (by kernel_rfl) (by decide) (fun i hi => by
    simp only [List.mem_cons, List.not_mem_nil, or_false] at hi
    rcases hi with rfl | rfl | rfl
    · exact laws_one (c2 := loopOf (bodyOf Try.f37) 0) (by kernel_rfl) (by kernel_rfl) (ref30_Sorted_L0_lawQ   _ _ (Nat.le_refl _))
    · exact laws_one (c2 := loopOf (bodyOf Try.f37) 2) (by kernel_rfl) (by kernel_rfl) (ref30_Sorted_L2_law   _ _ (Nat.le_refl _)).succ
    · exact laws_one (c2 := loopOf (bodyOf Try.f37) 4) (by kernel_rfl) (by kernel_rfl) (ref30_Sorted_L4_law   _ _ (Nat.le_refl _)).succ
    )), (ref30_Sorted_e  n a).trans hn⟩
end Go.Tev.S1
namespace Go.Tev.S1
open Go.Abs Go.Proofs
/-! find -/
def sFind (a : List Cus × List UInt8) : Option Int := if a.1.length ≤ B then some (findI a.1 a.2 0) else none
theorem sFind_of {c : List Cus} {n : List UInt8} (h : c.length ≤ B) : sFind (c, n) = some (findI c n 0) := if_pos h
theorem find_walk (c : List Cus) (n : List UInt8) (h : c.length ≤ B) : ref30_Find (c.length + 1) c n = some (findI c n 0) := by
  have hB : B = 2 ^ 36 := rfl
  unfold ref30_Find
  refine (loop2_list c (fun (_ : Nat) => (0 : Int)) (fun b v => if v.name == n then .inr (some (b : Int)) else .inl (b + 1)) (fun b => some (-1 : Int)) (fun i b => b = i) ?_ ?_ ?_ 0 rfl _ (Nat.lt_succ_self _)).trans ?_
  · intro i b v k' hv hlt hb
    subst hb
    simp (disch := omega) only [ref30_Find_L0, getI_nat hv, Option.bind_some, dlt hlt, cond_true, wrap_id]
    cases (v.name == n) <;> rfl
  · intro i b v b' hv hb hs
    subst hb
    cases e : (v.name == n) <;> rw [e] at hs <;> cases hs
    rfl
  · intro b k' hb
    simp only [ref30_Find_L0, dlt0, cond_false]
  · clear h
    have : ∀ (l : List Cus) (b : Nat), runE (fun (b : Nat) (v : Cus) => if v.name == n then .inr (some (b : Int)) else .inl (b + 1)) (fun _ => some (-1 : Int)) l b = some (findI l n (b : Int)) := by
      intro l
      induction l with
      | nil => intro b; rfl
      | cons v l ih =>
        intro b
        simp only [runE, findI]
        cases (v.name == n) with
        | true => rfl
        | false => exact ih (b + 1)
    exact this c 0
theorem M_Find {K : CallT} (hK : KFree K) : Meets U (callV C K) 69 ⟨true, [.ty 22, .ty 9], [3], sFind⟩ :=
  ref30_Find_meets (kf hK 69 (by decide)) _ fun a r h => by
    unfold sFind at h
    split at h
    · rename_i h3; cases h; exact ⟨_, find_walk a.1 a.2 h3⟩
    · cases h
/-! measure -/
def meaI (lk : Lk) (l : List Val) : Int := match meaL lk l with
  | some m => m
  | none => -1
theorem run_some {R : Type} (lk : Lk) (z : Option R) (kx : List Val → Option R) : ∀ (l b : List Val), (meaL lk b).isSome = true →
    runE (fun b v => if (meaL lk (b ++ [v])).isSome = true then .inl (b ++ [v]) else .inr z) kx l b = if (meaL lk (b ++ l)).isSome = true then kx (b ++ l) else z := by
  intro l
  induction l with
  | nil => intro b hb; simp only [runE, List.append_nil, if_pos hb]
  | cons v l ih =>
    intro b hb
    simp only [runE]
    by_cases h : (meaL lk (b ++ [v])).isSome = true
    · rw [if_pos h]
      simp only
      rw [ih _ h, List.append_assoc]; rfl
    · rw [if_neg h]
      have : ¬ (meaL lk (b ++ v :: l)).isSome = true := by
        intro h2
        apply h
        have e : b ++ v :: l = (b ++ [v]) ++ l := by simp
        rw [e, meaL_append] at h2
        cases hh : meaL lk (b ++ [v]) with
        | none => rw [hh] at h2; simp [addO] at h2
        | some x => rfl
      rw [if_neg this]
def okM (a : List Val × List (List UInt8 × List Val)) : Prop := totL a.1 ≤ B ∧ ∀ p ∈ a.2, totL p.2 ≤ V
instance (a) : Decidable (okM a) := inferInstanceAs (Decidable (_ ∧ _))
def sMea (a : List Val × List (List UInt8 × List Val)) : Option Int := if okM a then some (meaI (lkM a.2) a.1) else none
theorem sMea_of {l : List Val} {m : List (List UInt8 × List Val)} (h : totL l ≤ B) (h2 : ∀ p ∈ m, totL p.2 ≤ V) : sMea (l, m) = some (meaI (lkM m) l) := if_pos ⟨h, h2⟩
theorem mea_bound {lk : Lk} {l : List Val} {m : Nat} (h : totL l ≤ B) (h2 : ∀ n x, lk n = some x → totL x ≤ V) (hm : meaL lk l = some m) : m ≤ 2 ^ 60 := by
  have h3 := mea_le lk V (by decide) h2 l m hm
  have h4 : totL l * V ≤ B * V := Nat.mul_le_mul_right _ h
  have h5 : B * V = 2 ^ 60 := by decide
  omega
theorem meaI_of {lk : Lk} {l : List Val} {m : Nat} (h : meaL lk l = some m) : meaI lk l = (m : Int) := by unfold meaI; rw [h]
theorem meaI_none {lk : Lk} {l : List Val} (h : meaL lk l = none) : meaI lk l = -1 := by unfold meaI; rw [h]
theorem neg1_lt : decide ((-1 : Int) < 0) = true := rfl
theorem measure_walk (m : List (List UInt8 × List Val)) (l : List Val) (k : Nat) (h1 : totL l < k + 1) (h2 : totL l ≤ B) (hm : ∀ p ∈ m, totL p.2 ≤ V) :
    vars_measure (fun v => some v.ref) (below (fun a : List Val × List (List UInt8 × List Val) => totL a.1) k sMea) sParts sLong (l.length + 1) l m = some (meaI (lkM m) l) := by
  have hB : B = 2 ^ 36 := rfl
  have hV : V = 2 ^ 24 := rfl
  have hlk : ∀ n x, lkM m n = some x → totL x ≤ V := by
    intro n x h
    obtain ⟨p, hp, rfl⟩ := lkM_mem h
    exact hm p hp
  unfold vars_measure
  have e0 : meaI (lkM m) [] = 0 := by unfold meaI; rw [meaL_nil]; rfl
  refine ((congrArg (fun z => loop3 _ _ (0 : Int) z (0 : Int)) e0.symm).trans (loop3_list l (fun (_ : List Val) => (0 : Int)) (fun b => meaI (lkM m) b) (fun b v => if (meaL (lkM m) (b ++ [v])).isSome = true then .inl (b ++ [v]) else .inr (some (-1 : Int))) (fun b => some (meaI (lkM m) b)) (fun i b => b = l.take i ∧ (meaL (lkM m) b).isSome = true) ?_ ?_ ?_ [] ⟨rfl, by rw [meaL_nil]; rfl⟩ _ (Nat.lt_succ_self _))).trans ?_
  · intro i b v k' hv hlt hb
    obtain ⟨hb, hbs⟩ := hb
    obtain ⟨nb, hnb⟩ := Option.isSome_iff_exists.1 hbs
    have hmem := List.mem_of_getElem? hv
    have hs := tot_sub hmem
    have hm1 := tot_mem hmem
    have hl := len_tot l
    have he := v.tot_eq
    have hp := parts_tot v.l
    have hble : totL b ≤ B := by rw [hb]; exact Nat.le_trans (tot_take_le l i) h2
    have hbb := mea_bound hble hlk hnb
    have ib := meaI_of hnb
    have hbel : below (fun a : List Val × List (List UInt8 × List Val) => totL a.1) k sMea (v.l, m) = some (meaI (lkM m) v.l) := (below_of (sz := fun a : List Val × List (List UInt8 × List Val) => totL a.1) (show totL v.l < k by omega)).trans (sMea_of (by omega) hm)
    have hbel2 : below (fun a : List Val × List (List UInt8 × List Val) => totL a.1) k sMea ((partsV v.l).2.1, m) = some (meaI (lkM m) (partsV v.l).2.1) := (below_of (sz := fun a : List Val × List (List UInt8 × List Val) => totL a.1) (show totL (partsV v.l).2.1 < k by omega)).trans (sMea_of (by omega) hm)
    have hi : IntKind.i64.wrap ((i : Int) + 1) = ((i + 1 : Nat) : Int) := wrap_add1 (by omega)
    simp only [vars_measure_L0, getI_nat hv, Option.bind_some, dlt hlt, cond_true, Val.eta, hi, Bool.cond_self]
    have hsn := meaL_snoc (lkM m) b v
    rw [hnb] at hsn
    rw [ib]
    cases e1 : v.ref
    · rw [meaV_no e1] at hsn
      simp only [Bool.not_false, Bool.not_true, cond_true, cond_false, Option.bind_some, hbel, Bool.false_and]
      cases e2 : meaL (lkM m) v.l with
      | none =>
        rw [e2] at hsn
        rw [meaI_none e2, hsn]
        simp only [neg1_lt, cond_true, addO, Option.isSome_none, Bool.false_eq_true, if_false]
      | some n =>
        have hnn := mea_bound (show totL v.l ≤ B by omega) hlk e2
        rw [e2] at hsn
        have e3 : decide ((n : Int) < 0) = false := by simp
        rw [meaI_of e2, e3, if_pos (by rw [hsn]; rfl)]
        simp only [cond_false]
        rw [meaI_of hsn]
        simp (disch := omega) only [wrap_id]
        have hx : (nb : Int) + (1 + (v.tok.t.length : Int) + (v.tok.u.length : Int)) + (n : Int) = ((nb + ((1 + v.tok.t.length + v.tok.u.length) + n) : Nat) : Int) := by omega
        rw [hx]
    · simp only [Bool.not_false, Bool.not_true, cond_true, cond_false, Option.bind_some, sParts_of (show v.tot ≤ B by omega), Bool.true_and]
      cases e2 : mget BEq.beq (partsV v.l).1 m with
      | some x =>
        have e2' : lkM m (partsV v.l).1 = some x := e2
        have hxl := hlk _ _ e2'
        rw [meaV_val e1 e2'] at hsn
        simp only [mgetD, Option.isSome_some, cond_true, Bool.not_true, Bool.false_and, cond_false, sLong_of (show totL x ≤ B by omega), Option.bind_some]
        have e3 : decide ((totL x : Int) < 0) = false := by simp
        rw [e3, if_pos (by rw [hsn]; rfl)]
        simp only [cond_false]
        rw [meaI_of hsn, wrap_id (by omega) (by omega)]
        rfl
      | none =>
        have e2' : lkM m (partsV v.l).1 = none := e2
        simp only [Option.isSome_none, cond_false, Bool.not_false, Bool.true_and, Option.bind_some]
        cases e3 : (partsV v.l).2.2
        · rw [meaV_not e1 e2' e3] at hsn
          rw [hsn]
          simp only [neg1_lt, cond_true, cond_false, Option.bind_some, addO, Option.isSome_none, Bool.false_eq_true, if_false]
        · rw [meaV_has e1 e2' e3] at hsn
          simp only [cond_true, hbel2, Option.bind_some]
          cases e4 : meaL (lkM m) (partsV v.l).2.1 with
          | none =>
            rw [e4] at hsn
            rw [meaI_none e4, hsn]
            simp only [neg1_lt, cond_true, addO, Option.isSome_none, Bool.false_eq_true, if_false]
          | some n =>
            rw [e4] at hsn
            have hnn := mea_bound (show totL (partsV v.l).2.1 ≤ B by omega) hlk e4
            have e5 : decide ((n : Int) < 0) = false := by simp
            rw [meaI_of e4, e5, if_pos (by rw [hsn]; rfl)]
            simp only [cond_false]
            rw [meaI_of hsn, wrap_id (by omega) (by omega)]
            rfl
  · intro i b v b' hv hb hs
    split at hs
    · rename_i h; cases hs; exact ⟨by rw [take_snoc hv, hb.1], h⟩
    · cases hs
  · intro b k' hb
    simp only [vars_measure_L0, dlt0, cond_false]
  · rw [run_some _ _ _ _ _ (by rw [meaL_nil]; rfl)]
    simp only [List.nil_append]
    cases e : meaL (lkM m) l with
    | none => rw [meaI_none e]; rfl
    | some n => rfl
theorem M_measure {K : CallT} (hK : KFree K) : Meets U (callV C K) 62 ⟨true, [.ty 33, .ty 70], [3], sMea⟩ :=
  meets_rec (U := U) (ak := [.ty 33, .ty 70]) (rts := [3]) (fun a : List Val × List (List UInt8 × List Val) => totL a.1) sMea fun k ih => vars_measure_meets (kf hK 62 (by decide)) _ _ _ _ (M_isVar hK) ih (M_parts hK) (M_vlen hK) _ fun a r h => by
    obtain ⟨h1, h2⟩ := below_some h
    unfold sMea at h2
    split at h2
    · rename_i h3; cases h2; exact ⟨_, measure_walk a.2 a.1 k h1 h3.1 h3.2⟩
    · cases h2
end Go.Tev.S1
namespace Go.Tev
open Go.Abs
theorem loop4_list {A A' A'' R α β : Type} {g : A → A' → A'' → Int → (A → A' → A'' → Int → Option R) → Option R} (l : List α) (enc : β → A) (enc' : β → A') (enc'' : β → A'') (step : β → α → β ⊕ Option R) (kx : β → Option R) (inv : Nat → β → Prop)
    (hstep : ∀ (i : Nat) b v k, l[i]? = some v → i < l.length → inv i b → g (enc b) (enc' b) (enc'' b) i k = (match step b v with | .inl b' => k (enc b') (enc' b') (enc'' b') ((i + 1 : Nat) : Int) | .inr z => z))
    (hinv : ∀ i b v b', l[i]? = some v → inv i b → step b v = .inl b' → inv (i + 1) b') (hend : ∀ b k, inv l.length b → g (enc b) (enc' b) (enc'' b) (l.length : Int) k = kx b) (b0 : β) (h0 : inv 0 b0) (n : Nat) (hn : l.length < n) :
    loop4 g n (enc b0) (enc' b0) (enc'' b0) 0 = runE step kx l b0 := by
  unfold loop4
  exact loopT_list l (fun i (b : β) => (enc b, enc' b, enc'' b, (i : Int), ())) step kx inv (fun i b v k hv hl hb => by
    simp only
    rw [hstep i b v _ hv hl hb]
    cases step b v <;> rfl) hinv (fun b k hb => hend b _ hb) l n 0 b0 rfl (Nat.zero_le _) h0 hn
theorem mea_mem {lk : Lk} {l : List Val} {n : Nat} (h : meaL lk l = some n) {v : Val} (hv : v ∈ l) : ∃ n', meaV lk v = some n' ∧ n' ≤ n := by
  induction l generalizing n with
  | nil => cases hv
  | cons w l ih =>
    rw [meaL_cons] at h
    obtain ⟨x, y, hx, hy, rfl⟩ := addO_some h
    rcases List.mem_cons.1 hv with rfl | hv
    · exact ⟨x, hx, by omega⟩
    · obtain ⟨n', h1, h2⟩ := ih hy hv
      exact ⟨n', h1, by omega⟩
theorem put_len {lk : Lk} {l : List Val} {n : Nat} (h : meaL lk l = some n) (i : Nat) : (putL lk (l.take i)).length ≤ n := by
  rw [← List.take_append_drop i l, meaL_append] at h
  obtain ⟨x, y, hx, hy, rfl⟩ := addO_some h
  have h1 := put_tot lk _ _ hx
  have h2 := len_tot (putL lk (l.take i))
  omega
theorem hasv_mem {l : List Val} {v : Val} (hv : v ∈ l) (h : v.hasv = true) : hasvL l = true := by
  induction l with
  | nil => cases hv
  | cons w l ih =>
    rw [hasvL]
    rcases List.mem_cons.1 hv with rfl | hv
    · rw [h]; rfl
    · rw [ih hv, Bool.or_true]
end Go.Tev
namespace Go.Tev.S1
open Go.Abs Go.Proofs
def meaP (lk : Lk) (l : List Val) : Int × Bool := match meaL lk l with
  | some m => (m, true)
  | none => (0, false)
theorem meaP_of {lk : Lk} {l : List Val} {m : Nat} (h : meaL lk l = some m) : meaP lk l = ((m : Int), true) := by unfold meaP; rw [h]
theorem meaP_none {lk : Lk} {l : List Val} (h : meaL lk l = none) : meaP lk l = (0, false) := by unfold meaP; rw [h]
def okC' (a : List Val × List Cus) : Prop := totL a.1 ≤ B ∧ a.2.length ≤ B ∧ ∀ p ∈ a.2, totL p.val ≤ V
instance (a) : Decidable (okC' a) := inferInstanceAs (Decidable (_ ∧ _ ∧ _))
def sMeaR (a : List Val × List Cus) : Option (Int × Bool) := if okC' a then some (meaP (lkC a.2) a.1) else none
theorem sMeaR_of {l : List Val} {m : List Cus} (h : totL l ≤ B) (h1 : m.length ≤ B) (h2 : ∀ p ∈ m, totL p.val ≤ V) : sMeaR (l, m) = some (meaP (lkC m) l) := if_pos ⟨h, h1, h2⟩
abbrev szC (a : List Val × List Cus) : Nat := totL a.1
theorem measured_walk (m : List Cus) (l : List Val) (k : Nat) (h1 : totL l < k + 1) (h2 : totL l ≤ B) (hc : m.length ≤ B) (hm : ∀ p ∈ m, totL p.val ≤ V) :
    ref30_measured sRef (below szC k sMeaR) sParts sFind sLong (l.length + 1) l m = some (meaP (lkC m) l) := by
  have hB : B = 2 ^ 36 := rfl
  have hV : V = 2 ^ 24 := rfl
  have hlk : ∀ n x, lkC m n = some x → totL x ≤ V := by
    intro n x h
    obtain ⟨p, hp, rfl⟩ := lkC_mem h
    exact hm p hp
  unfold ref30_measured
  have e0 : meaI (lkC m) [] = 0 := by unfold meaI; rw [meaL_nil]; rfl
  refine ((congrArg (fun z => loop4 _ _ (0 : Int) false z (0 : Int)) e0.symm).trans (loop4_list l (fun (_ : List Val) => (0 : Int)) (fun _ => false) (fun b => meaI (lkC m) b) (fun b v => if (meaL (lkC m) (b ++ [v])).isSome = true then .inl (b ++ [v]) else .inr (some ((0 : Int), false))) (fun b => some (meaI (lkC m) b, true)) (fun i b => b = l.take i ∧ (meaL (lkC m) b).isSome = true) ?_ ?_ ?_ [] ⟨rfl, by rw [meaL_nil]; rfl⟩ _ (Nat.lt_succ_self _))).trans ?_
  · intro i b v k' hv hlt hb
    obtain ⟨hb, hbs⟩ := hb
    obtain ⟨nb, hnb⟩ := Option.isSome_iff_exists.1 hbs
    have hmem := List.mem_of_getElem? hv
    have hs := tot_sub hmem
    have hm1 := tot_mem hmem
    have hl := len_tot l
    have he := v.tot_eq
    have hp := parts_tot v.l
    have hble : totL b ≤ B := by rw [hb]; exact Nat.le_trans (tot_take_le l i) h2
    have hbb := mea_bound hble hlk hnb
    have ib := meaI_of hnb
    have hbel : below szC k sMeaR (v.l, m) = some (meaP (lkC m) v.l) := (below_of (sz := szC) (show totL v.l < k by omega)).trans (sMeaR_of (by omega) hc hm)
    have hbel2 : below szC k sMeaR ((partsV v.l).2.1, m) = some (meaP (lkC m) (partsV v.l).2.1) := (below_of (sz := szC) (show totL (partsV v.l).2.1 < k by omega)).trans (sMeaR_of (by omega) hc hm)
    have hi : IntKind.i64.wrap ((i : Int) + 1) = ((i + 1 : Nat) : Int) := wrap_add1 (by omega)
    have hsn := meaL_snoc (lkC m) b v
    rw [hnb] at hsn
    simp only [ref30_measured_L0, getI_nat hv, Option.bind_some, dlt hlt, cond_true, Val.eta, hi, sRef_of (show v.tot ≤ B by omega)]
    rw [ib]
    cases e1 : v.ref
    · rw [meaV_no e1] at hsn
      simp only [Bool.not_false, Bool.not_true, cond_true, cond_false, Option.bind_some, hbel]
      cases e2 : meaL (lkC m) v.l with
      | none =>
        rw [e2] at hsn
        rw [meaP_none e2, hsn]
        simp only [Bool.not_false, cond_true, addO, Option.isSome_none, Bool.false_eq_true, if_false]
      | some n =>
        have hnn := mea_bound (show totL v.l ≤ B by omega) hlk e2
        rw [e2] at hsn
        rw [meaP_of e2, if_pos (by rw [hsn]; rfl)]
        simp only [cond_false, Bool.not_true]
        rw [meaI_of hsn]
        simp (disch := omega) only [wrap_id]
        have hx : (nb : Int) + (1 + (v.tok.t.length : Int) + (v.tok.u.length : Int) + (n : Int)) = ((nb + ((1 + v.tok.t.length + v.tok.u.length) + n) : Nat) : Int) := by omega
        rw [hx]
    · simp only [Bool.not_false, Bool.not_true, cond_true, cond_false, Option.bind_some, sParts_of (show v.tot ≤ B by omega), sFind_of hc]
      rcases findI_spec m (partsV v.l).1 0 with ⟨f1, e2⟩ | ⟨j, x, f1, f2, e2⟩
      · have f1' : findI m (partsV v.l).1 0 = -1 := f1
        have fd : decide ((-1 : Int) ≥ 0) = false := rfl
        rw [f1', fd]
        simp only [cond_false]
        cases e3 : (partsV v.l).2.2
        · rw [meaV_not e1 e2 e3] at hsn
          rw [hsn]
          simp only [Bool.not_false, cond_true, addO, Option.isSome_none, Bool.false_eq_true, if_false]
        · rw [meaV_has e1 e2 e3] at hsn
          simp only [Bool.not_true, cond_false, hbel2, Option.bind_some]
          cases e4 : meaL (lkC m) (partsV v.l).2.1 with
          | none =>
            rw [e4] at hsn
            rw [meaP_none e4, hsn]
            simp only [Bool.not_false, cond_true, addO, Option.isSome_none, Bool.false_eq_true, if_false]
          | some n =>
            rw [e4] at hsn
            have hnn := mea_bound (show totL (partsV v.l).2.1 ≤ B by omega) hlk e4
            rw [meaP_of e4, if_pos (by rw [hsn]; rfl)]
            simp only [cond_false, Bool.not_true]
            rw [meaI_of hsn, wrap_id (by omega) (by omega)]
            rfl
      · have f1' : findI m (partsV v.l).1 0 = (j : Int) := f1.trans (by omega)
        have fd : decide ((j : Int) ≥ 0) = true := by simp
        have hxl := hlk _ _ e2
        rw [meaV_val e1 e2] at hsn
        rw [f1', fd]
        simp only [cond_true, getI_nat f2, Option.bind_some, sLong_of (show totL x.val ≤ B by omega)]
        rw [if_pos (by rw [hsn]; rfl)]
        simp only
        rw [meaI_of hsn, wrap_id (by omega) (by omega)]
        rfl
  · intro i b v b' hv hb hs
    split at hs
    · rename_i h; cases hs; exact ⟨by rw [take_snoc hv, hb.1], h⟩
    · cases hs
  · intro b k' hb
    simp only [ref30_measured_L0, dlt0, cond_false]
  · rw [run_some _ _ _ _ _ (by rw [meaL_nil]; rfl)]
    simp only [List.nil_append]
    cases e : meaL (lkC m) l with
    | none => rw [meaP_none e]; rfl
    | some n => rw [meaP_of e, meaI_of e]; rfl
theorem M_measured {K : CallT} (hK : KFree K) : Meets U (callV C K) 64 ⟨true, [.ty 33, .ty 22], [3, 4], sMeaR⟩ :=
  meets_rec (U := U) (ak := [.ty 33, .ty 22]) (rts := [3, 4]) szC sMeaR fun k ih => ref30_measured_meets (kf hK 64 (by decide)) _ _ _ _ _ (M_Reference hK) ih (M_Named hK) (M_Find hK) (M_Long (kf hK 32 (by decide))) _ fun a r h => by
    obtain ⟨h1, h2⟩ := below_some h
    unfold sMeaR at h2
    split at h2
    · rename_i h3; cases h2; exact ⟨_, measured_walk a.2 a.1 k h1 h3.1 h3.2.1 h3.2.2⟩
    · cases h2
end Go.Tev.S1
namespace Go.Tev.S1
open Go.Abs Go.Proofs
abbrev Mp := List (List UInt8 × List Val)
def okLk (lk : Lk) : Prop := ∀ n x, lk n = some x → totL x ≤ V ∧ hasvL x = false
def okP (lk : Lk) (l : List Val) : Prop := totL l ≤ B ∧ okLk lk ∧ ∃ n, meaL lk l = some n ∧ n ≤ B
open Classical in
noncomputable def sPut (a : List Val × Mp) : Option (List Val) := if okP (lkM a.2) a.1 then some (putL (lkM a.2) a.1) else none
theorem sPut_of {l : List Val} {m : Mp} (h : okP (lkM m) l) : sPut (l, m) = some (putL (lkM m) l) := if_pos h
open Classical in
noncomputable def sRep (a : List Val × List Cus) : Option (List Val) := if okP (lkC a.2) a.1 ∧ a.2.length ≤ B then some (putL (lkC a.2) a.1) else none
theorem sRep_of {l : List Val} {m : List Cus} (h : okP (lkC m) l) (h2 : m.length ≤ B) : sRep (l, m) = some (putL (lkC m) l) := if_pos ⟨h, h2⟩
def szP (l : List Val) : Nat := if hasvL l then B + 1 + totL l else totL l
/-- what a call below needs -/
theorem okP_sub {lk : Lk} {l : List Val} (h : okP lk l) {v : Val} (hv : v ∈ l) :
    (v.ref = false → okP lk v.l ∧ szP v.l < szP l) ∧
    (v.ref = true → ∀ x, lk (partsV v.l).1 = some x → okP lk x ∧ szP x < szP l ∧ putL lk x = x) ∧
    (v.ref = true → lk (partsV v.l).1 = none → okP lk (partsV v.l).2.1 ∧ szP (partsV v.l).2.1 < szP l) := by
  have hB : B = 2 ^ 36 := rfl
  have hV : V = 2 ^ 24 := rfl
  obtain ⟨h1, h2, n, h3, h4⟩ := h
  obtain ⟨n', h5, h6⟩ := mea_mem h3 hv
  have hs := tot_sub hv
  have hp := parts_tot v.l
  have hmono : ∀ (y : List Val), totL y < totL l → (hasvL y = true → hasvL l = true) → szP y < szP l := by
    intro y hy hh
    unfold szP
    by_cases e : hasvL y = true
    · rw [if_pos e, if_pos (hh e)]; omega
    · rw [if_neg e]; split <;> omega
  refine ⟨fun e => ?_, fun e x hx => ?_, fun e hx => ?_⟩
  · rw [meaV_no e] at h5
    obtain ⟨a, b, ha, hb, rfl⟩ := addO_some h5
    refine ⟨⟨by omega, h2, b, hb, by omega⟩, hmono _ hs (fun hh => hasv_mem hv (by rw [Val.hasv_eq, hh, Bool.or_true]))⟩
  · obtain ⟨g1, g2⟩ := h2 _ _ hx
    refine ⟨⟨by omega, h2, totL x, mea_same lk x g2, by omega⟩, ?_, put_same lk x g2⟩
    have : hasvL l = true := hasv_mem hv (by rw [Val.hasv_eq, e]; rfl)
    unfold szP
    rw [if_pos this, if_neg (by rw [g2]; decide)]
    omega
  · cases e3 : (partsV v.l).2.2 with
    | false => rw [meaV_not e hx e3] at h5; cases h5
    | true =>
      rw [meaV_has e hx e3] at h5
      refine ⟨⟨by omega, h2, n', h5, by omega⟩, hmono _ (by omega) (fun _ => hasv_mem hv (by rw [Val.hasv_eq, e]; rfl))⟩
theorem put_snoc_len {lk : Lk} {l : List Val} {n : Nat} (h : meaL lk l = some n) (hn : n ≤ B) {i : Nat} {v : Val} (hv : l[i]? = some v) {b : Nat} (hb : b ≤ 96) : room b ((putL lk (l.take i)).length + (putV lk v).length) = some () := by
  have hB : B = 2 ^ 36 := rfl
  have h1 := put_len h (i + 1)
  rw [take_snoc hv, putL_snoc, List.length_append] at h1
  exact room_of (by omega) hb
theorem put_walk (m : Mp) (l : List Val) (k : Nat) (h1 : szP l < k + 1) (h2 : okP (lkM m) l) :
    vars_put (fun v => some v.ref) (below (fun a : List Val × Mp => szP a.1) k sPut) sParts (l.length + 1) l m = some (putL (lkM m) l) := by
  have hB : B = 2 ^ 36 := rfl
  have hV : V = 2 ^ 24 := rfl
  unfold vars_put
  have e0 := putL_nil (lkM m)
  refine ((congrArg (fun z => loop2 _ _ z (0 : Int)) e0.symm).trans (loop2_list l (fun b => putL (lkM m) b) (fun b v => .inl (b ++ [v])) (fun b => some (putL (lkM m) b)) (fun i b => b = l.take i) ?_ ?_ ?_ [] rfl _ (Nat.lt_succ_self _))).trans ?_
  · intro i b v k' hv hlt hb
    subst hb
    have hmem := List.mem_of_getElem? hv
    have hs := tot_sub hmem
    have hm1 := tot_mem hmem
    have hl := len_tot l
    have hB2 := h2.1
    obtain ⟨g1, g2, g3⟩ := okP_sub h2 hmem
    obtain ⟨n, hn, hn2⟩ := h2.2.2
    have hr := put_snoc_len hn hn2 hv (show 80 ≤ 96 by decide)
    have hi : IntKind.i64.wrap ((i : Int) + 1) = ((i + 1 : Nat) : Int) := wrap_add1 (by omega)
    have bel : ∀ x, okP (lkM m) x → szP x < szP l → below (fun a : List Val × Mp => szP a.1) k sPut (x, m) = some (putL (lkM m) x) := fun x hx hz => (below_of (sz := fun a : List Val × Mp => szP a.1) (show szP x < k by omega)).trans (sPut_of hx)
    simp only [vars_put_L0, getI_nat hv, Option.bind_some, dlt hlt, cond_true, Val.eta, hi, Bool.cond_self]
    rw [putL_snoc]
    cases e1 : v.ref
    · obtain ⟨g4, g5⟩ := g1 e1
      rw [putV_no e1] at hr ⊢
      simp only [Bool.not_false, cond_true, bel _ g4 g5, Option.bind_some, hr]
    · simp only [Bool.not_true, cond_false, sParts_of (show v.tot ≤ B by omega), Option.bind_some]
      cases e2 : mget BEq.beq (partsV v.l).1 m with
      | some x =>
        have e2' : lkM m (partsV v.l).1 = some x := e2
        obtain ⟨g4, g5, g6⟩ := g2 e1 x e2'
        rw [putV_val e1 e2'] at hr ⊢
        simp only [Option.isSome_some, cond_true, mgetD, bel _ g4 g5, Option.bind_some, g6, hr]
      | none =>
        have e2' : lkM m (partsV v.l).1 = none := e2
        obtain ⟨g4, g5⟩ := g3 e1 e2'
        rw [putV_not e1 e2'] at hr ⊢
        simp only [Option.isSome_none, cond_false, bel _ g4 g5, Option.bind_some, hr]
  · intro i b v b' hv hb hs
    cases hs
    rw [take_snoc hv, hb]
  · intro b k' hb
    simp only [vars_put_L0, dlt0, cond_false]
  · rw [runE_fold (fun (b : List Val) (v : Val) => b ++ [v]), foldl_snoc]
theorem M_put {K : CallT} (hK : KFree K) : Meets U (callV C K) 63 ⟨true, [.ty 33, .ty 70], [33], sPut⟩ :=
  meets_rec (U := U) (ak := [.ty 33, .ty 70]) (rts := [33]) (fun a : List Val × Mp => szP a.1) sPut fun k ih => vars_put_meets (kf hK 63 (by decide)) _ _ _ (M_isVar hK) ih (M_parts hK) _ fun a r h => by
    obtain ⟨h1, h2⟩ := below_some h
    unfold sPut at h2
    split at h2
    · rename_i h3; cases h2; exact ⟨_, put_walk a.2 a.1 k h1 h3⟩
    · cases h2
theorem rep_walk (m : List Cus) (l : List Val) (k : Nat) (h1 : szP l < k + 1) (h2 : okP (lkC m) l) (hc : m.length ≤ B) :
    ref30_replaced sRef (below (fun a : List Val × List Cus => szP a.1) k sRep) sParts sFind sTwin (l.length + 1) l m = some (putL (lkC m) l) := by
  have hB : B = 2 ^ 36 := rfl
  have hV : V = 2 ^ 24 := rfl
  unfold ref30_replaced
  have e0 := putL_nil (lkC m)
  refine ((congrArg (fun z => loop2 _ _ z (0 : Int)) e0.symm).trans (loop2_list l (fun b => putL (lkC m) b) (fun b v => .inl (b ++ [v])) (fun b => some (putL (lkC m) b)) (fun i b => b = l.take i) ?_ ?_ ?_ [] rfl _ (Nat.lt_succ_self _))).trans ?_
  · intro i b v k' hv hlt hb
    subst hb
    have hmem := List.mem_of_getElem? hv
    have hs := tot_sub hmem
    have hm1 := tot_mem hmem
    have hl := len_tot l
    have hB2 := h2.1
    obtain ⟨g1, g2, g3⟩ := okP_sub h2 hmem
    obtain ⟨n, hn, hn2⟩ := h2.2.2
    have hr := put_snoc_len hn hn2 hv (show 80 ≤ 96 by decide)
    have hi : IntKind.i64.wrap ((i : Int) + 1) = ((i + 1 : Nat) : Int) := wrap_add1 (by omega)
    have bel : ∀ x, okP (lkC m) x → szP x < szP l → below (fun a : List Val × List Cus => szP a.1) k sRep (x, m) = some (putL (lkC m) x) := fun x hx hz => (below_of (sz := fun a : List Val × List Cus => szP a.1) (show szP x < k by omega)).trans (sRep_of hx hc)
    simp only [ref30_replaced_L0, getI_nat hv, Option.bind_some, dlt hlt, cond_true, Val.eta, hi, Bool.cond_self, sRef_of (show v.tot ≤ B by omega)]
    rw [putL_snoc]
    cases e1 : v.ref
    · obtain ⟨g4, g5⟩ := g1 e1
      rw [putV_no e1] at hr ⊢
      simp only [Bool.not_false, cond_true, bel _ g4 g5, Option.bind_some, hr]
    · simp only [Bool.not_true, cond_false, sParts_of (show v.tot ≤ B by omega), sFind_of hc, Option.bind_some]
      rcases findI_spec m (partsV v.l).1 0 with ⟨f1, e2⟩ | ⟨j, x, f1, f2, e2⟩
      · have f1' : findI m (partsV v.l).1 0 = -1 := f1
        have fd : decide ((-1 : Int) ≥ 0) = false := rfl
        obtain ⟨g4, g5⟩ := g3 e1 e2
        rw [putV_not e1 e2] at hr ⊢
        rw [f1', fd]
        simp only [cond_false, Bool.not_false, cond_true, bel _ g4 g5, Option.bind_some, hr]
      · have f1' : findI m (partsV v.l).1 0 = (j : Int) := f1.trans (by omega)
        have fd : decide ((j : Int) ≥ 0) = true := by simp
        obtain ⟨g4, g5, g6⟩ := g2 e1 _ e2
        have g7 := g4.1
        rw [putV_val e1 e2] at hr ⊢
        rw [f1', fd]
        simp only [cond_true, Bool.not_true, cond_false, getI_nat f2, Option.bind_some, sTwin_of g7, hr]
  · intro i b v b' hv hb hs
    cases hs
    rw [take_snoc hv, hb]
  · intro b k' hb
    simp only [ref30_replaced_L0, dlt0, cond_false]
  · rw [runE_fold (fun (b : List Val) (v : Val) => b ++ [v]), foldl_snoc]
theorem M_replaced {K : CallT} (hK : KFree K) : Meets U (callV C K) 65 ⟨true, [.ty 33, .ty 22], [33], sRep⟩ :=
  meets_rec (U := U) (ak := [.ty 33, .ty 22]) (rts := [33]) (fun a : List Val × List Cus => szP a.1) sRep fun k ih => ref30_replaced_meets (kf hK 65 (by decide)) _ _ _ _ _ (M_Reference hK) ih (M_Named hK) (M_Find hK) (M_Twin hK) _ fun a r h => by
    obtain ⟨h1, h2⟩ := below_some h
    unfold sRep at h2
    split at h2
    · rename_i h3; cases h2; exact ⟨_, rep_walk a.2 a.1 k h1 h3.1 h3.2⟩
    · cases h2
end Go.Tev.S1
namespace Go.Tev.S1
open Go.Abs Go.Proofs
-- 23 vitrine/vars.named
def vars_named_L0 (c_props_Custom : (List UInt8) → Option Bool) {R : Type} (n : Nat) (a6 : List Cus) (a7 : Int) (kx0 : Bool → Option R) (kr : Bool → Option R) (y2 : Bool) (y3 : List UInt8) (y8 : Int) (k : Bool → List UInt8 → Int → Option R) : Option R :=
  cond (decide (y8 < a7))
  (Option.bind (getI a6 y8) fun x3 =>
  Option.bind (c_props_Custom x3.name) fun r4 =>
  Option.bind (some (cond (!r4) true (Op.bytesLess x3.name y3 || x3.name == y3))) fun m5 =>
  cond m5
  (kr false)
  (k y2 x3.name (IntKind.i64.wrap (y8 + (1 : Int)))))
  (kx0 y2)
def vars_named (c_props_Custom : (List UInt8) → Option Bool) (n : Nat) (p0 : List Cus)  : Option Bool :=
  loop3 (vars_named_L0 c_props_Custom n p0 (p0.length : Int) (fun z1 =>
  some true) (fun z2 =>
  some z2)) n false [] (0 : Int)
abbrev vars_named_T (c_props_Custom : (List UInt8) → Option Bool) : List (Nat × TCall X) := [(42, ⟨true, [.ty 9], [4], c_props_Custom⟩)]
noncomputable abbrev vars_named_x (c_props_Custom : (List UInt8) → Option Bool) : Cx := ⟨C, U, vars_named_T c_props_Custom, [], fun _ => []⟩
theorem vars_named_ok : okF (C.ann 23) Try.f23 1 = true := by kernel_rfl
abbrev vars_named_L0_D : LD := ⟨0, [.val 6 22, .val 7 2], [.val 2 4, .val 3 9, .val 8 2], [(0, [.val 2 4])], [.val 2 4]⟩
abbrev vars_named_L0_g (c_props_Custom : (List UInt8) → Option Bool) (n : Nat) : LG U (PX X [4]) vars_named_L0_D := fun c kx kr y k => vars_named_L0 c_props_Custom n c.1 c.2.1 (fun z0 => kx 0 (z0, ())) (fun z0 => kr (z0, ())) y.1 y.2.1 y.2.2.1 (fun z0 z1 z2 => k (z0, z1, z2, ()))
noncomputable abbrev vars_named_sums (c_props_Custom : (List UInt8) → Option Bool) (n : Nat) : Sums (vars_named_x c_props_Custom) (PX X [4]) := [(0, runL U vars_named_L0_D (vars_named_L0_g c_props_Custom n) n)]
theorem vars_named_L0_e (c_props_Custom : (List UInt8) → Option Bool) (n : Nat) : ∀ c kx kr y k1, evL (vars_named_x c_props_Custom) (ann 23) (vars_named_sums c_props_Custom n) 0 (loopOf (bodyOf Try.f23) 0) (kontL U vars_named_L0_D kx kr k1) (encS U vars_named_L0_D.cap vars_named_L0_D.din c y) = vars_named_L0_g c_props_Custom n c (fun i z => kx i c z) kr y (fun y2 => k1 c y2) := by
  intro c kx kr y k1
  kernel_rfl
theorem vars_named_e (c_props_Custom : (List UInt8) → Option Bool) (n : Nat) : ∀ a, fnL (vars_named_x c_props_Custom) true 23 Try.f23 [.ty 22] [4] (vars_named_sums c_props_Custom n) a = vars_named c_props_Custom n a := by
  intro a
  kernel_rfl
theorem vars_named_hT {K : CallT} (c_props_Custom : (List UInt8) → Option Bool) (h0 : Meets U (callV C K) 42 ⟨true, [.ty 9], [4], c_props_Custom⟩)  : CallsOk (vars_named_x c_props_Custom) (callV C K) :=
  ⟨(mall_cons h0 mall_nil), rall_nil⟩
theorem vars_named_L0_law {K : CallT} (c_props_Custom : (List UInt8) → Option Bool) (h0 : Meets U (callV C K) 42 ⟨true, [.ty 9], [4], c_props_Custom⟩)  (n : Nat) (b0 : Base) (bn0 : b0.nr ≤ 0) : Law (vars_named_x c_props_Custom) b0 (callV C K) (ann 23) n (loopOf (bodyOf Try.f23) 0) (runL U vars_named_L0_D (vars_named_L0_g c_props_Custom n) n) :=
  law_of (x := vars_named_x c_props_Custom) (id := 0) ok (vars_named_hT c_props_Custom h0) (sums := vars_named_sums c_props_Custom n) (laws_none (show loopsOf 0 (loopOf (bodyOf Try.f23) 0) = [] by kernel_rfl)) vars_named_L0_D bn0 (vars_named_L0_g c_props_Custom n) (vars_named_L0_e c_props_Custom n)
theorem vars_named_meets {K : CallT} (hK : ∀ args h, K 23 args h = none) (c_props_Custom : (List UInt8) → Option Bool) (h0 : Meets U (callV C K) 42 ⟨true, [.ty 9], [4], c_props_Custom⟩)  (t : PX X (AK.tys [.ty 22]) → Option (PX X [4])) (h : ∀ a r, t a = some r → ∃ n, vars_named c_props_Custom n a = some r) : Meets U (callV C K) 23 ⟨true, [.ty 22], [4], t⟩ := by
  refine fnL_meets (x := vars_named_x c_props_Custom) (ak := [.ty 22]) (rts := [4]) (dir := true) ok (vars_named_hT c_props_Custom h0) hK Try.func23 vars_named_ok fun a r hr => ?_
  obtain ⟨n, hn⟩ := h a r hr
  exact ⟨n, vars_named_sums c_props_Custom n, (laws_ids (ids := [0]) (by kernel_rfl) (by decide) (fun i hi => by
    simp only [List.mem_cons, List.not_mem_nil, or_false] at hi
    rcases hi with rfl
    · exact laws_one (c2 := loopOf (bodyOf Try.f23) 0) (by kernel_rfl) (by kernel_rfl) (vars_named_L0_law c_props_Custom h0 _ _ (Nat.le_refl _))
    )), (vars_named_e c_props_Custom n a).trans hn⟩
-- 26 vitrine/vitrineref30.named
def ref30_named_L0 (c_ref25_Custom : (List UInt8) → Option Bool) {R : Type} (n : Nat) (a0 : List Cus) (kx0 : Bool → Option R) (kr : Bool → Option R) (y2 : Bool) (y3 : Int) (k : Bool → Int → Option R) : Option R :=
  cond (decide (y3 < (a0.length : Int)))
  (Option.bind (getI a0 y3) fun x3 =>
  Option.bind (c_ref25_Custom x3.name) fun r4 =>
  Option.bind (cond ((!(!r4)) && (decide (y3 > (0 : Int)))) (getI a0 (IntKind.i64.wrap (y3 - (1 : Int)))) (some zCus)) fun x5 =>
  Option.bind (cond ((!(!r4)) && (decide (y3 > (0 : Int)))) (getI a0 y3) (some zCus)) fun x6 =>
  Option.bind (cond (!(!r4)) (some (cond (decide (y3 > (0 : Int))) (!Op.bytesLess x5.name x6.name) false)) (some (!Op.bytesLess x5.name x6.name))) fun m7 =>
  Option.bind (some (cond (!r4) true m7)) fun m8 =>
  cond m8
  (kr false)
  (k y2 (IntKind.i64.wrap (y3 + (1 : Int)))))
  (kx0 y2)
def ref30_named (c_ref25_Custom : (List UInt8) → Option Bool) (n : Nat) (p0 : List Cus)  : Option Bool :=
  loop2 (ref30_named_L0 c_ref25_Custom n p0 (fun z1 =>
  some true) (fun z2 =>
  some z2)) n false (0 : Int)
abbrev ref30_named_T (c_ref25_Custom : (List UInt8) → Option Bool) : List (Nat × TCall X) := [(45, ⟨true, [.ty 9], [4], c_ref25_Custom⟩)]
noncomputable abbrev ref30_named_x (c_ref25_Custom : (List UInt8) → Option Bool) : Cx := ⟨C, U, ref30_named_T c_ref25_Custom, [], fun _ => []⟩
theorem ref30_named_ok : okF (C.ann 26) Try.f26 1 = true := by kernel_rfl
abbrev ref30_named_L0_D : LD := ⟨0, [.val 0 22], [.val 2 4, .val 3 2], [(0, [.val 2 4])], [.val 2 4]⟩
abbrev ref30_named_L0_g (c_ref25_Custom : (List UInt8) → Option Bool) (n : Nat) : LG U (PX X [4]) ref30_named_L0_D := fun c kx kr y k => ref30_named_L0 c_ref25_Custom n c.1 (fun z0 => kx 0 (z0, ())) (fun z0 => kr (z0, ())) y.1 y.2.1 (fun z0 z1 => k (z0, z1, ()))
noncomputable abbrev ref30_named_sums (c_ref25_Custom : (List UInt8) → Option Bool) (n : Nat) : Sums (ref30_named_x c_ref25_Custom) (PX X [4]) := [(0, runL U ref30_named_L0_D (ref30_named_L0_g c_ref25_Custom n) n)]
theorem ref30_named_L0_e (c_ref25_Custom : (List UInt8) → Option Bool) (n : Nat) : ∀ c kx kr y k1, evL (ref30_named_x c_ref25_Custom) (ann 26) (ref30_named_sums c_ref25_Custom n) 0 (loopOf (bodyOf Try.f26) 0) (kontL U ref30_named_L0_D kx kr k1) (encS U ref30_named_L0_D.cap ref30_named_L0_D.din c y) = ref30_named_L0_g c_ref25_Custom n c (fun i z => kx i c z) kr y (fun y2 => k1 c y2) := by
  intro c kx kr y k1
  kernel_rfl
theorem ref30_named_e (c_ref25_Custom : (List UInt8) → Option Bool) (n : Nat) : ∀ a, fnL (ref30_named_x c_ref25_Custom) true 26 Try.f26 [.ty 22] [4] (ref30_named_sums c_ref25_Custom n) a = ref30_named c_ref25_Custom n a := by
  intro a
  kernel_rfl
theorem ref30_named_hT {K : CallT} (c_ref25_Custom : (List UInt8) → Option Bool) (h0 : Meets U (callV C K) 45 ⟨true, [.ty 9], [4], c_ref25_Custom⟩)  : CallsOk (ref30_named_x c_ref25_Custom) (callV C K) :=
  ⟨(mall_cons h0 mall_nil), rall_nil⟩
theorem ref30_named_L0_law {K : CallT} (c_ref25_Custom : (List UInt8) → Option Bool) (h0 : Meets U (callV C K) 45 ⟨true, [.ty 9], [4], c_ref25_Custom⟩)  (n : Nat) (b0 : Base) (bn0 : b0.nr ≤ 0) : Law (ref30_named_x c_ref25_Custom) b0 (callV C K) (ann 26) n (loopOf (bodyOf Try.f26) 0) (runL U ref30_named_L0_D (ref30_named_L0_g c_ref25_Custom n) n) :=
  law_of (x := ref30_named_x c_ref25_Custom) (id := 0) ok (ref30_named_hT c_ref25_Custom h0) (sums := ref30_named_sums c_ref25_Custom n) (laws_none (show loopsOf 0 (loopOf (bodyOf Try.f26) 0) = [] by kernel_rfl)) ref30_named_L0_D bn0 (ref30_named_L0_g c_ref25_Custom n) (ref30_named_L0_e c_ref25_Custom n)
theorem ref30_named_meets {K : CallT} (hK : ∀ args h, K 26 args h = none) (c_ref25_Custom : (List UInt8) → Option Bool) (h0 : Meets U (callV C K) 45 ⟨true, [.ty 9], [4], c_ref25_Custom⟩)  (t : PX X (AK.tys [.ty 22]) → Option (PX X [4])) (h : ∀ a r, t a = some r → ∃ n, ref30_named c_ref25_Custom n a = some r) : Meets U (callV C K) 26 ⟨true, [.ty 22], [4], t⟩ := by
  refine fnL_meets (x := ref30_named_x c_ref25_Custom) (ak := [.ty 22]) (rts := [4]) (dir := true) ok (ref30_named_hT c_ref25_Custom h0) hK Try.func26 ref30_named_ok fun a r hr => ?_
  obtain ⟨n, hn⟩ := h a r hr
  exact ⟨n, ref30_named_sums c_ref25_Custom n, (laws_ids (ids := [0]) (by kernel_rfl) (by decide) (fun i hi => by
    simp only [List.mem_cons, List.not_mem_nil, or_false] at hi
    rcases hi with rfl
    · exact laws_one (c2 := loopOf (bodyOf Try.f26) 0) (by kernel_rfl) (by kernel_rfl) (ref30_named_L0_law c_ref25_Custom h0 _ _ (Nat.le_refl _))
    )), (ref30_named_e c_ref25_Custom n a).trans hn⟩
-- 10 vitrine/vars.Check
def vars_Check_L0 (c_vars_named : (List Cus) → Option Bool) (c_nest_Check : (List Val) → Option Int) (c_short_Var : (List Val) → Option Bool) (c_vars_length : (List Val) → Option Int) {R : Type} (n : Nat) (a13 : List Cus) (a14 : Int) (kx0 : Int → Option R) (kr : Int → Option R) (y2 : Int) (y15 : Int) (k : Int → Int → Option R) : Option R :=
  cond (decide (y15 < a14))
  (Option.bind (getI a13 y15) fun x5 =>
  Option.bind (c_nest_Check x5.val) fun r6 =>
  Option.bind (cond (!(r6 != (0 : Int))) (c_short_Var x5.val) (some false)) fun r7 =>
  Option.bind (some (cond (r6 != (0 : Int)) true r7)) fun m8 =>
  Option.bind (cond (!m8) (c_vars_length x5.val) (some (0 : Int))) fun r9 =>
  Option.bind (some (cond m8 true (decide (r9 > (2000 : Int))))) fun m10 =>
  cond m10
  (kr (8 : Int))
  (k y2 (IntKind.i64.wrap (y15 + (1 : Int)))))
  (kx0 y2)
def vars_Check (c_vars_named : (List Cus) → Option Bool) (c_nest_Check : (List Val) → Option Int) (c_short_Var : (List Val) → Option Bool) (c_vars_length : (List Val) → Option Int) (n : Nat) (p0 : List Cus)  : Option Int :=
  Option.bind (cond (!(decide ((p0.length : Int) > (64 : Int)))) (c_vars_named p0) (some false)) fun r1 =>
  Option.bind (some (cond (decide ((p0.length : Int) > (64 : Int))) true (!r1))) fun m2 =>
  cond m2
  (some (8 : Int))
  (loop2 (vars_Check_L0 c_vars_named c_nest_Check c_short_Var c_vars_length n p0 (p0.length : Int) (fun z3 =>
  some (0 : Int)) (fun z4 =>
  some z4)) n (0 : Int) (0 : Int))
abbrev vars_Check_T (c_vars_named : (List Cus) → Option Bool) (c_nest_Check : (List Val) → Option Int) (c_short_Var : (List Val) → Option Bool) (c_vars_length : (List Val) → Option Int) : List (Nat × TCall X) := [(23, ⟨true, [.ty 22], [4], c_vars_named⟩), (24, ⟨true, [.ty 33], [25], c_nest_Check⟩), (29, ⟨true, [.ty 33], [4], c_short_Var⟩), (30, ⟨true, [.ty 33], [3], c_vars_length⟩)]
noncomputable abbrev vars_Check_x (c_vars_named : (List Cus) → Option Bool) (c_nest_Check : (List Val) → Option Int) (c_short_Var : (List Val) → Option Bool) (c_vars_length : (List Val) → Option Int) : Cx := ⟨C, U, vars_Check_T c_vars_named c_nest_Check c_short_Var c_vars_length, [], fun _ => []⟩
theorem vars_Check_ok : okF (C.ann 10) Try.f10 1 = true := by kernel_rfl
abbrev vars_Check_L0_D : LD := ⟨0, [.val 13 22, .val 14 2], [.val 2 2, .val 15 2], [(0, [.val 2 2])], [.val 2 25]⟩
abbrev vars_Check_L0_g (c_vars_named : (List Cus) → Option Bool) (c_nest_Check : (List Val) → Option Int) (c_short_Var : (List Val) → Option Bool) (c_vars_length : (List Val) → Option Int) (n : Nat) : LG U (PX X [25]) vars_Check_L0_D := fun c kx kr y k => vars_Check_L0 c_vars_named c_nest_Check c_short_Var c_vars_length n c.1 c.2.1 (fun z0 => kx 0 (z0, ())) (fun z0 => kr (z0, ())) y.1 y.2.1 (fun z0 z1 => k (z0, z1, ()))
noncomputable abbrev vars_Check_sums (c_vars_named : (List Cus) → Option Bool) (c_nest_Check : (List Val) → Option Int) (c_short_Var : (List Val) → Option Bool) (c_vars_length : (List Val) → Option Int) (n : Nat) : Sums (vars_Check_x c_vars_named c_nest_Check c_short_Var c_vars_length) (PX X [25]) := [(0, runL U vars_Check_L0_D (vars_Check_L0_g c_vars_named c_nest_Check c_short_Var c_vars_length n) n)]
theorem vars_Check_L0_e (c_vars_named : (List Cus) → Option Bool) (c_nest_Check : (List Val) → Option Int) (c_short_Var : (List Val) → Option Bool) (c_vars_length : (List Val) → Option Int) (n : Nat) : ∀ c kx kr y k1, evL (vars_Check_x c_vars_named c_nest_Check c_short_Var c_vars_length) (ann 10) (vars_Check_sums c_vars_named c_nest_Check c_short_Var c_vars_length n) 0 (loopOf (bodyOf Try.f10) 0) (kontL U vars_Check_L0_D kx kr k1) (encS U vars_Check_L0_D.cap vars_Check_L0_D.din c y) = vars_Check_L0_g c_vars_named c_nest_Check c_short_Var c_vars_length n c (fun i z => kx i c z) kr y (fun y2 => k1 c y2) := by
  intro c kx kr y k1
  kernel_rfl
theorem vars_Check_e (c_vars_named : (List Cus) → Option Bool) (c_nest_Check : (List Val) → Option Int) (c_short_Var : (List Val) → Option Bool) (c_vars_length : (List Val) → Option Int) (n : Nat) : ∀ a, fnL (vars_Check_x c_vars_named c_nest_Check c_short_Var c_vars_length) true 10 Try.f10 [.ty 22] [25] (vars_Check_sums c_vars_named c_nest_Check c_short_Var c_vars_length n) a = vars_Check c_vars_named c_nest_Check c_short_Var c_vars_length n a := by
  intro a
  kernel_rfl
theorem vars_Check_hT {K : CallT} (c_vars_named : (List Cus) → Option Bool) (c_nest_Check : (List Val) → Option Int) (c_short_Var : (List Val) → Option Bool) (c_vars_length : (List Val) → Option Int) (h0 : Meets U (callV C K) 23 ⟨true, [.ty 22], [4], c_vars_named⟩) (h1 : Meets U (callV C K) 24 ⟨true, [.ty 33], [25], c_nest_Check⟩) (h2 : Meets U (callV C K) 29 ⟨true, [.ty 33], [4], c_short_Var⟩) (h3 : Meets U (callV C K) 30 ⟨true, [.ty 33], [3], c_vars_length⟩)  : CallsOk (vars_Check_x c_vars_named c_nest_Check c_short_Var c_vars_length) (callV C K) :=
  ⟨(mall_cons h0 (mall_cons h1 (mall_cons h2 (mall_cons h3 mall_nil)))), rall_nil⟩
theorem vars_Check_L0_law {K : CallT} (c_vars_named : (List Cus) → Option Bool) (c_nest_Check : (List Val) → Option Int) (c_short_Var : (List Val) → Option Bool) (c_vars_length : (List Val) → Option Int) (h0 : Meets U (callV C K) 23 ⟨true, [.ty 22], [4], c_vars_named⟩) (h1 : Meets U (callV C K) 24 ⟨true, [.ty 33], [25], c_nest_Check⟩) (h2 : Meets U (callV C K) 29 ⟨true, [.ty 33], [4], c_short_Var⟩) (h3 : Meets U (callV C K) 30 ⟨true, [.ty 33], [3], c_vars_length⟩)  (n : Nat) (b0 : Base) (bn0 : b0.nr ≤ 0) : Law (vars_Check_x c_vars_named c_nest_Check c_short_Var c_vars_length) b0 (callV C K) (ann 10) n (loopOf (bodyOf Try.f10) 0) (runL U vars_Check_L0_D (vars_Check_L0_g c_vars_named c_nest_Check c_short_Var c_vars_length n) n) :=
  law_of (x := vars_Check_x c_vars_named c_nest_Check c_short_Var c_vars_length) (id := 0) ok (vars_Check_hT c_vars_named c_nest_Check c_short_Var c_vars_length h0 h1 h2 h3) (sums := vars_Check_sums c_vars_named c_nest_Check c_short_Var c_vars_length n) (laws_none (show loopsOf 0 (loopOf (bodyOf Try.f10) 0) = [] by kernel_rfl)) vars_Check_L0_D bn0 (vars_Check_L0_g c_vars_named c_nest_Check c_short_Var c_vars_length n) (vars_Check_L0_e c_vars_named c_nest_Check c_short_Var c_vars_length n)
theorem vars_Check_meets {K : CallT} (hK : ∀ args h, K 10 args h = none) (c_vars_named : (List Cus) → Option Bool) (c_nest_Check : (List Val) → Option Int) (c_short_Var : (List Val) → Option Bool) (c_vars_length : (List Val) → Option Int) (h0 : Meets U (callV C K) 23 ⟨true, [.ty 22], [4], c_vars_named⟩) (h1 : Meets U (callV C K) 24 ⟨true, [.ty 33], [25], c_nest_Check⟩) (h2 : Meets U (callV C K) 29 ⟨true, [.ty 33], [4], c_short_Var⟩) (h3 : Meets U (callV C K) 30 ⟨true, [.ty 33], [3], c_vars_length⟩)  (t : PX X (AK.tys [.ty 22]) → Option (PX X [25])) (h : ∀ a r, t a = some r → ∃ n, vars_Check c_vars_named c_nest_Check c_short_Var c_vars_length n a = some r) : Meets U (callV C K) 10 ⟨true, [.ty 22], [25], t⟩ := by
  refine fnL_meets (x := vars_Check_x c_vars_named c_nest_Check c_short_Var c_vars_length) (ak := [.ty 22]) (rts := [25]) (dir := true) ok (vars_Check_hT c_vars_named c_nest_Check c_short_Var c_vars_length h0 h1 h2 h3) hK Try.func10 vars_Check_ok fun a r hr => ?_
  obtain ⟨n, hn⟩ := h a r hr
  exact ⟨n, vars_Check_sums c_vars_named c_nest_Check c_short_Var c_vars_length n, (laws_ids (ids := [0]) (by kernel_rfl) (by decide) (fun i hi => by
    simp only [List.mem_cons, List.not_mem_nil, or_false] at hi
    rcases hi with rfl
    · exact laws_one (c2 := loopOf (bodyOf Try.f10) 0) (by kernel_rfl) (by kernel_rfl) (vars_Check_L0_law c_vars_named c_nest_Check c_short_Var c_vars_length h0 h1 h2 h3 _ _ (Nat.le_refl _))
    )), (vars_Check_e c_vars_named c_nest_Check c_short_Var c_vars_length n a).trans hn⟩
-- 11 vitrine/vitrineref30.Check
def ref30_Check_L0 (c_ref30_named : (List Cus) → Option Bool) (c_ref04_Check : (List Val) → Option Int) (c_ref27_Var : (List Val) → Option Bool) (c_ref30_Long : (List Val) → Option Int) {R : Type} (n : Nat) (a0 : List Cus) (kx0 : Int → Option R) (kr : Int → Option R) (y2 : Int) (y3 : Int) (k : Int → Int → Option R) : Option R :=
  cond (decide (y3 < (a0.length : Int)))
  (Option.bind (getI a0 y3) fun x5 =>
  Option.bind (c_ref04_Check x5.val) fun r6 =>
  Option.bind (cond (!(r6 != (0 : Int))) (getI a0 y3) (some zCus)) fun x7 =>
  Option.bind (cond (!(r6 != (0 : Int))) (c_ref27_Var x7.val) (some false)) fun r8 =>
  Option.bind (some (cond (r6 != (0 : Int)) true r8)) fun m9 =>
  Option.bind (cond (!m9) (getI a0 y3) (some zCus)) fun x10 =>
  Option.bind (cond (!m9) (c_ref30_Long x10.val) (some (0 : Int))) fun r11 =>
  Option.bind (some (cond m9 true (decide (r11 > (2000 : Int))))) fun m12 =>
  cond m12
  (kr (8 : Int))
  (k y2 (IntKind.i64.wrap (y3 + (1 : Int)))))
  (kx0 y2)
def ref30_Check (c_ref30_named : (List Cus) → Option Bool) (c_ref04_Check : (List Val) → Option Int) (c_ref27_Var : (List Val) → Option Bool) (c_ref30_Long : (List Val) → Option Int) (n : Nat) (p0 : List Cus)  : Option Int :=
  Option.bind (cond (!(decide ((p0.length : Int) > (64 : Int)))) (c_ref30_named p0) (some false)) fun r1 =>
  Option.bind (some (cond (decide ((p0.length : Int) > (64 : Int))) true (!r1))) fun m2 =>
  cond m2
  (some (8 : Int))
  (loop2 (ref30_Check_L0 c_ref30_named c_ref04_Check c_ref27_Var c_ref30_Long n p0 (fun z3 =>
  some (0 : Int)) (fun z4 =>
  some z4)) n (0 : Int) (0 : Int))
abbrev ref30_Check_T (c_ref30_named : (List Cus) → Option Bool) (c_ref04_Check : (List Val) → Option Int) (c_ref27_Var : (List Val) → Option Bool) (c_ref30_Long : (List Val) → Option Int) : List (Nat × TCall X) := [(26, ⟨true, [.ty 22], [4], c_ref30_named⟩), (27, ⟨true, [.ty 33], [3], c_ref04_Check⟩), (31, ⟨true, [.ty 33], [4], c_ref27_Var⟩), (32, ⟨true, [.ty 33], [3], c_ref30_Long⟩)]
noncomputable abbrev ref30_Check_x (c_ref30_named : (List Cus) → Option Bool) (c_ref04_Check : (List Val) → Option Int) (c_ref27_Var : (List Val) → Option Bool) (c_ref30_Long : (List Val) → Option Int) : Cx := ⟨C, U, ref30_Check_T c_ref30_named c_ref04_Check c_ref27_Var c_ref30_Long, [], fun _ => []⟩
theorem ref30_Check_ok : okF (C.ann 11) Try.f11 1 = true := by kernel_rfl
abbrev ref30_Check_L0_D : LD := ⟨0, [.val 0 22], [.val 2 2, .val 3 2], [(0, [.val 2 2])], [.val 2 3]⟩
abbrev ref30_Check_L0_g (c_ref30_named : (List Cus) → Option Bool) (c_ref04_Check : (List Val) → Option Int) (c_ref27_Var : (List Val) → Option Bool) (c_ref30_Long : (List Val) → Option Int) (n : Nat) : LG U (PX X [3]) ref30_Check_L0_D := fun c kx kr y k => ref30_Check_L0 c_ref30_named c_ref04_Check c_ref27_Var c_ref30_Long n c.1 (fun z0 => kx 0 (z0, ())) (fun z0 => kr (z0, ())) y.1 y.2.1 (fun z0 z1 => k (z0, z1, ()))
noncomputable abbrev ref30_Check_sums (c_ref30_named : (List Cus) → Option Bool) (c_ref04_Check : (List Val) → Option Int) (c_ref27_Var : (List Val) → Option Bool) (c_ref30_Long : (List Val) → Option Int) (n : Nat) : Sums (ref30_Check_x c_ref30_named c_ref04_Check c_ref27_Var c_ref30_Long) (PX X [3]) := [(0, runL U ref30_Check_L0_D (ref30_Check_L0_g c_ref30_named c_ref04_Check c_ref27_Var c_ref30_Long n) n)]
theorem ref30_Check_L0_e (c_ref30_named : (List Cus) → Option Bool) (c_ref04_Check : (List Val) → Option Int) (c_ref27_Var : (List Val) → Option Bool) (c_ref30_Long : (List Val) → Option Int) (n : Nat) : ∀ c kx kr y k1, evL (ref30_Check_x c_ref30_named c_ref04_Check c_ref27_Var c_ref30_Long) (ann 11) (ref30_Check_sums c_ref30_named c_ref04_Check c_ref27_Var c_ref30_Long n) 0 (loopOf (bodyOf Try.f11) 0) (kontL U ref30_Check_L0_D kx kr k1) (encS U ref30_Check_L0_D.cap ref30_Check_L0_D.din c y) = ref30_Check_L0_g c_ref30_named c_ref04_Check c_ref27_Var c_ref30_Long n c (fun i z => kx i c z) kr y (fun y2 => k1 c y2) := by
  intro c kx kr y k1
  kernel_rfl
theorem ref30_Check_e (c_ref30_named : (List Cus) → Option Bool) (c_ref04_Check : (List Val) → Option Int) (c_ref27_Var : (List Val) → Option Bool) (c_ref30_Long : (List Val) → Option Int) (n : Nat) : ∀ a, fnL (ref30_Check_x c_ref30_named c_ref04_Check c_ref27_Var c_ref30_Long) true 11 Try.f11 [.ty 22] [3] (ref30_Check_sums c_ref30_named c_ref04_Check c_ref27_Var c_ref30_Long n) a = ref30_Check c_ref30_named c_ref04_Check c_ref27_Var c_ref30_Long n a := by
  intro a
  kernel_rfl
theorem ref30_Check_hT {K : CallT} (c_ref30_named : (List Cus) → Option Bool) (c_ref04_Check : (List Val) → Option Int) (c_ref27_Var : (List Val) → Option Bool) (c_ref30_Long : (List Val) → Option Int) (h0 : Meets U (callV C K) 26 ⟨true, [.ty 22], [4], c_ref30_named⟩) (h1 : Meets U (callV C K) 27 ⟨true, [.ty 33], [3], c_ref04_Check⟩) (h2 : Meets U (callV C K) 31 ⟨true, [.ty 33], [4], c_ref27_Var⟩) (h3 : Meets U (callV C K) 32 ⟨true, [.ty 33], [3], c_ref30_Long⟩)  : CallsOk (ref30_Check_x c_ref30_named c_ref04_Check c_ref27_Var c_ref30_Long) (callV C K) :=
  ⟨(mall_cons h0 (mall_cons h1 (mall_cons h2 (mall_cons h3 mall_nil)))), rall_nil⟩
theorem ref30_Check_L0_law {K : CallT} (c_ref30_named : (List Cus) → Option Bool) (c_ref04_Check : (List Val) → Option Int) (c_ref27_Var : (List Val) → Option Bool) (c_ref30_Long : (List Val) → Option Int) (h0 : Meets U (callV C K) 26 ⟨true, [.ty 22], [4], c_ref30_named⟩) (h1 : Meets U (callV C K) 27 ⟨true, [.ty 33], [3], c_ref04_Check⟩) (h2 : Meets U (callV C K) 31 ⟨true, [.ty 33], [4], c_ref27_Var⟩) (h3 : Meets U (callV C K) 32 ⟨true, [.ty 33], [3], c_ref30_Long⟩)  (n : Nat) (b0 : Base) (bn0 : b0.nr ≤ 0) : Law (ref30_Check_x c_ref30_named c_ref04_Check c_ref27_Var c_ref30_Long) b0 (callV C K) (ann 11) n (loopOf (bodyOf Try.f11) 0) (runL U ref30_Check_L0_D (ref30_Check_L0_g c_ref30_named c_ref04_Check c_ref27_Var c_ref30_Long n) n) :=
  law_of (x := ref30_Check_x c_ref30_named c_ref04_Check c_ref27_Var c_ref30_Long) (id := 0) ok (ref30_Check_hT c_ref30_named c_ref04_Check c_ref27_Var c_ref30_Long h0 h1 h2 h3) (sums := ref30_Check_sums c_ref30_named c_ref04_Check c_ref27_Var c_ref30_Long n) (laws_none (show loopsOf 0 (loopOf (bodyOf Try.f11) 0) = [] by kernel_rfl)) ref30_Check_L0_D bn0 (ref30_Check_L0_g c_ref30_named c_ref04_Check c_ref27_Var c_ref30_Long n) (ref30_Check_L0_e c_ref30_named c_ref04_Check c_ref27_Var c_ref30_Long n)
theorem ref30_Check_meets {K : CallT} (hK : ∀ args h, K 11 args h = none) (c_ref30_named : (List Cus) → Option Bool) (c_ref04_Check : (List Val) → Option Int) (c_ref27_Var : (List Val) → Option Bool) (c_ref30_Long : (List Val) → Option Int) (h0 : Meets U (callV C K) 26 ⟨true, [.ty 22], [4], c_ref30_named⟩) (h1 : Meets U (callV C K) 27 ⟨true, [.ty 33], [3], c_ref04_Check⟩) (h2 : Meets U (callV C K) 31 ⟨true, [.ty 33], [4], c_ref27_Var⟩) (h3 : Meets U (callV C K) 32 ⟨true, [.ty 33], [3], c_ref30_Long⟩)  (t : PX X (AK.tys [.ty 22]) → Option (PX X [3])) (h : ∀ a r, t a = some r → ∃ n, ref30_Check c_ref30_named c_ref04_Check c_ref27_Var c_ref30_Long n a = some r) : Meets U (callV C K) 11 ⟨true, [.ty 22], [3], t⟩ := by
  refine fnL_meets (x := ref30_Check_x c_ref30_named c_ref04_Check c_ref27_Var c_ref30_Long) (ak := [.ty 22]) (rts := [3]) (dir := true) ok (ref30_Check_hT c_ref30_named c_ref04_Check c_ref27_Var c_ref30_Long h0 h1 h2 h3) hK Try.func11 ref30_Check_ok fun a r hr => ?_
  obtain ⟨n, hn⟩ := h a r hr
  exact ⟨n, ref30_Check_sums c_ref30_named c_ref04_Check c_ref27_Var c_ref30_Long n, (laws_ids (ids := [0]) (by kernel_rfl) (by decide) (fun i hi => by
    simp only [List.mem_cons, List.not_mem_nil, or_false] at hi
    rcases hi with rfl
    · exact laws_one (c2 := loopOf (bodyOf Try.f11) 0) (by kernel_rfl) (by kernel_rfl) (ref30_Check_L0_law c_ref30_named c_ref04_Check c_ref27_Var c_ref30_Long h0 h1 h2 h3 _ _ (Nat.le_refl _))
    )), (ref30_Check_e c_ref30_named c_ref04_Check c_ref27_Var c_ref30_Long n a).trans hn⟩
-- 5 vitrine/vitrineref30.Great
def ref30_Great_L0 (c_ref04_Great : (List Val) → Option Bool) (c_ref04_Size : (List Val) × Int → Option Int) {R : Type} (n : Nat) (a0 : List Cus) (kx0 : Bool → Int → Option R) (kr : Bool → Option R) (y2 : Bool) (y3 : Int) (y4 : Int) (k : Bool → Int → Int → Option R) : Option R :=
  Option.bind (some (cond (decide (y4 < (a0.length : Int))) (decide (y4 ≤ (70 : Int))) false)) fun m5 =>
  cond m5
  (Option.bind (getI a0 y4) fun x6 =>
  Option.bind (c_ref04_Great x6.val) fun r7 =>
  Option.bind (cond (!r7) (getI a0 y4) (some zCus)) fun x8 =>
  Option.bind (some (cond r7 true (decide ((x8.name.length : Int) > (100 : Int))))) fun m9 =>
  cond m9
  (kr true)
  (Option.bind (getI a0 y4) fun x10 =>
  Option.bind (c_ref04_Size (x10.val, (300 : Int))) fun r11 =>
  k y2 (IntKind.i64.wrap (y3 + r11)) (IntKind.i64.wrap (y4 + (1 : Int)))))
  (kx0 y2 y3)
def ref30_Great (c_ref04_Great : (List Val) → Option Bool) (c_ref04_Size : (List Val) × Int → Option Int) (n : Nat) (p0 : List Cus)  : Option Bool :=
  loop3 (ref30_Great_L0 c_ref04_Great c_ref04_Size n p0 (fun z1 z2 =>
  Option.bind (some (cond (decide ((p0.length : Int) > (70 : Int))) true (decide (z2 > (1500 : Int))))) fun m3 =>
  some m3) (fun z4 =>
  some z4)) n false (0 : Int) (0 : Int)
abbrev ref30_Great_T (c_ref04_Great : (List Val) → Option Bool) (c_ref04_Size : (List Val) × Int → Option Int) : List (Nat × TCall X) := [(12, ⟨true, [.ty 33], [4], c_ref04_Great⟩), (22, ⟨true, [.ty 33, .ty 3], [3], c_ref04_Size⟩)]
noncomputable abbrev ref30_Great_x (c_ref04_Great : (List Val) → Option Bool) (c_ref04_Size : (List Val) × Int → Option Int) : Cx := ⟨C, U, ref30_Great_T c_ref04_Great c_ref04_Size, [], fun _ => []⟩
theorem ref30_Great_ok : okF (C.ann 5) Try.f5 1 = true := by kernel_rfl
abbrev ref30_Great_L0_D : LD := ⟨0, [.val 0 22], [.val 2 4, .val 3 2, .val 4 2], [(0, [.val 2 4, .val 3 2])], [.val 2 4]⟩
abbrev ref30_Great_L0_g (c_ref04_Great : (List Val) → Option Bool) (c_ref04_Size : (List Val) × Int → Option Int) (n : Nat) : LG U (PX X [4]) ref30_Great_L0_D := fun c kx kr y k => ref30_Great_L0 c_ref04_Great c_ref04_Size n c.1 (fun z0 z1 => kx 0 (z0, z1, ())) (fun z0 => kr (z0, ())) y.1 y.2.1 y.2.2.1 (fun z0 z1 z2 => k (z0, z1, z2, ()))
noncomputable abbrev ref30_Great_sums (c_ref04_Great : (List Val) → Option Bool) (c_ref04_Size : (List Val) × Int → Option Int) (n : Nat) : Sums (ref30_Great_x c_ref04_Great c_ref04_Size) (PX X [4]) := [(0, runL U ref30_Great_L0_D (ref30_Great_L0_g c_ref04_Great c_ref04_Size n) n)]
theorem ref30_Great_L0_e (c_ref04_Great : (List Val) → Option Bool) (c_ref04_Size : (List Val) × Int → Option Int) (n : Nat) : ∀ c kx kr y k1, evL (ref30_Great_x c_ref04_Great c_ref04_Size) (ann 5) (ref30_Great_sums c_ref04_Great c_ref04_Size n) 0 (loopOf (bodyOf Try.f5) 0) (kontL U ref30_Great_L0_D kx kr k1) (encS U ref30_Great_L0_D.cap ref30_Great_L0_D.din c y) = ref30_Great_L0_g c_ref04_Great c_ref04_Size n c (fun i z => kx i c z) kr y (fun y2 => k1 c y2) := by
  intro c kx kr y k1
  kernel_rfl
theorem ref30_Great_e (c_ref04_Great : (List Val) → Option Bool) (c_ref04_Size : (List Val) × Int → Option Int) (n : Nat) : ∀ a, fnL (ref30_Great_x c_ref04_Great c_ref04_Size) true 5 Try.f5 [.ty 22] [4] (ref30_Great_sums c_ref04_Great c_ref04_Size n) a = ref30_Great c_ref04_Great c_ref04_Size n a := by
  intro a
  kernel_rfl
theorem ref30_Great_hT {K : CallT} (c_ref04_Great : (List Val) → Option Bool) (c_ref04_Size : (List Val) × Int → Option Int) (h0 : Meets U (callV C K) 12 ⟨true, [.ty 33], [4], c_ref04_Great⟩) (h1 : Meets U (callV C K) 22 ⟨true, [.ty 33, .ty 3], [3], c_ref04_Size⟩)  : CallsOk (ref30_Great_x c_ref04_Great c_ref04_Size) (callV C K) :=
  ⟨(mall_cons h0 (mall_cons h1 mall_nil)), rall_nil⟩
theorem ref30_Great_L0_law {K : CallT} (c_ref04_Great : (List Val) → Option Bool) (c_ref04_Size : (List Val) × Int → Option Int) (h0 : Meets U (callV C K) 12 ⟨true, [.ty 33], [4], c_ref04_Great⟩) (h1 : Meets U (callV C K) 22 ⟨true, [.ty 33, .ty 3], [3], c_ref04_Size⟩)  (n : Nat) (b0 : Base) (bn0 : b0.nr ≤ 0) : Law (ref30_Great_x c_ref04_Great c_ref04_Size) b0 (callV C K) (ann 5) n (loopOf (bodyOf Try.f5) 0) (runL U ref30_Great_L0_D (ref30_Great_L0_g c_ref04_Great c_ref04_Size n) n) :=
  law_of (x := ref30_Great_x c_ref04_Great c_ref04_Size) (id := 0) ok (ref30_Great_hT c_ref04_Great c_ref04_Size h0 h1) (sums := ref30_Great_sums c_ref04_Great c_ref04_Size n) (laws_none (show loopsOf 0 (loopOf (bodyOf Try.f5) 0) = [] by kernel_rfl)) ref30_Great_L0_D bn0 (ref30_Great_L0_g c_ref04_Great c_ref04_Size n) (ref30_Great_L0_e c_ref04_Great c_ref04_Size n)
theorem ref30_Great_meets {K : CallT} (hK : ∀ args h, K 5 args h = none) (c_ref04_Great : (List Val) → Option Bool) (c_ref04_Size : (List Val) × Int → Option Int) (h0 : Meets U (callV C K) 12 ⟨true, [.ty 33], [4], c_ref04_Great⟩) (h1 : Meets U (callV C K) 22 ⟨true, [.ty 33, .ty 3], [3], c_ref04_Size⟩)  (t : PX X (AK.tys [.ty 22]) → Option (PX X [4])) (h : ∀ a r, t a = some r → ∃ n, ref30_Great c_ref04_Great c_ref04_Size n a = some r) : Meets U (callV C K) 5 ⟨true, [.ty 22], [4], t⟩ := by
  refine fnL_meets (x := ref30_Great_x c_ref04_Great c_ref04_Size) (ak := [.ty 22]) (rts := [4]) (dir := true) ok (ref30_Great_hT c_ref04_Great c_ref04_Size h0 h1) hK Try.func5 ref30_Great_ok fun a r hr => ?_
  obtain ⟨n, hn⟩ := h a r hr
  exact ⟨n, ref30_Great_sums c_ref04_Great c_ref04_Size n, (laws_ids (ids := [0]) (by kernel_rfl) (by decide) (fun i hi => by
    simp only [List.mem_cons, List.not_mem_nil, or_false] at hi
    rcases hi with rfl
    · exact laws_one (c2 := loopOf (bodyOf Try.f5) 0) (by kernel_rfl) (by kernel_rfl) (ref30_Great_L0_law c_ref04_Great c_ref04_Size h0 h1 _ _ (Nat.le_refl _))
    )), (ref30_Great_e c_ref04_Great c_ref04_Size n a).trans hn⟩
-- 4 vitrine/vitrinelaw30.VarsReplaces
def law30_VarsReplaces (c_ref04_Great : (List Val) → Option Bool) (c_ref30_Great : (List Cus) → Option Bool) (c_ref26_Twin : (List Val) → Option (List Val)) (c_vars_Length : (List Val) → Option (Int × Int)) (c_ref30_Length : (List Val) → Option (Int × Int)) (c_vars_Uses : (List Val) → Option ((List (List UInt8)) × Int)) (c_ref30_Uses : (List Val) → Option ((List (List UInt8)) × Int)) (c_vars_Replace : (List Val) × (List Cus) → Option ((List Val) × Int)) (c_ref30_Replace : (List Val) × (List Cus) → Option ((List Val) × Int)) (c_ref27_SameTexts : (List (List UInt8)) × (List (List UInt8)) → Option Bool) (c_ref04_Same : (List Val) × (List Val) → Option Bool) (n : Nat) (p0 : List Val) (p1 : List Cus)  : Option Bool :=
  Option.bind (c_ref04_Great p0) fun r1 =>
  Option.bind (cond (!r1) (c_ref30_Great p1) (some false)) fun r2 =>
  Option.bind (some (cond r1 true r2)) fun m3 =>
  cond m3
  (some true)
  (Option.bind (c_ref26_Twin p0) fun r4 =>
  Option.bind (c_vars_Length p0) fun r5 =>
  Option.bind (c_ref30_Length p0) fun r6 =>
  Option.bind (c_vars_Uses p0) fun r7 =>
  Option.bind (c_ref30_Uses p0) fun r8 =>
  Option.bind (c_vars_Replace (p0, p1)) fun r9 =>
  Option.bind (c_ref30_Replace (p0, p1)) fun r10 =>
  Option.bind (some (cond (r5.1 == r6.1) (r5.2 == r6.2) false)) fun m11 =>
  Option.bind (cond m11 (c_ref27_SameTexts (r7.1, r8.1)) (some false)) fun r12 =>
  Option.bind (some (cond m11 r12 false)) fun m13 =>
  Option.bind (some (cond m13 (r7.2 == r8.2) false)) fun m14 =>
  Option.bind (cond m14 (c_ref04_Same (r9.1, r10.1)) (some false)) fun r15 =>
  Option.bind (some (cond m14 r15 false)) fun m16 =>
  Option.bind (some (cond m16 (r9.2 == r10.2) false)) fun m17 =>
  Option.bind (cond m17 (c_ref04_Same (p0, r4)) (some false)) fun r18 =>
  Option.bind (some (cond m17 r18 false)) fun m19 =>
  some m19)
abbrev law30_VarsReplaces_T (c_ref04_Great : (List Val) → Option Bool) (c_ref30_Great : (List Cus) → Option Bool) (c_ref26_Twin : (List Val) → Option (List Val)) (c_vars_Length : (List Val) → Option (Int × Int)) (c_ref30_Length : (List Val) → Option (Int × Int)) (c_vars_Uses : (List Val) → Option ((List (List UInt8)) × Int)) (c_ref30_Uses : (List Val) → Option ((List (List UInt8)) × Int)) (c_vars_Replace : (List Val) × (List Cus) → Option ((List Val) × Int)) (c_ref30_Replace : (List Val) × (List Cus) → Option ((List Val) × Int)) (c_ref27_SameTexts : (List (List UInt8)) × (List (List UInt8)) → Option Bool) (c_ref04_Same : (List Val) × (List Val) → Option Bool) : List (Nat × TCall X) := [(12, ⟨true, [.ty 33], [4], c_ref04_Great⟩), (5, ⟨true, [.ty 22], [4], c_ref30_Great⟩), (13, ⟨true, [.ty 33], [33], c_ref26_Twin⟩), (14, ⟨true, [.ty 33], [3, 25], c_vars_Length⟩), (15, ⟨true, [.ty 33], [3, 3], c_ref30_Length⟩), (16, ⟨true, [.ty 33], [40, 25], c_vars_Uses⟩), (17, ⟨true, [.ty 33], [40, 3], c_ref30_Uses⟩), (18, ⟨true, [.ty 33, .ty 22], [33, 25], c_vars_Replace⟩), (19, ⟨true, [.ty 33, .ty 22], [33, 3], c_ref30_Replace⟩), (20, ⟨true, [.ty 40, .ty 40], [4], c_ref27_SameTexts⟩), (21, ⟨true, [.ty 33, .ty 33], [4], c_ref04_Same⟩)]
noncomputable abbrev law30_VarsReplaces_x (c_ref04_Great : (List Val) → Option Bool) (c_ref30_Great : (List Cus) → Option Bool) (c_ref26_Twin : (List Val) → Option (List Val)) (c_vars_Length : (List Val) → Option (Int × Int)) (c_ref30_Length : (List Val) → Option (Int × Int)) (c_vars_Uses : (List Val) → Option ((List (List UInt8)) × Int)) (c_ref30_Uses : (List Val) → Option ((List (List UInt8)) × Int)) (c_vars_Replace : (List Val) × (List Cus) → Option ((List Val) × Int)) (c_ref30_Replace : (List Val) × (List Cus) → Option ((List Val) × Int)) (c_ref27_SameTexts : (List (List UInt8)) × (List (List UInt8)) → Option Bool) (c_ref04_Same : (List Val) × (List Val) → Option Bool) : Cx := ⟨C, U, law30_VarsReplaces_T c_ref04_Great c_ref30_Great c_ref26_Twin c_vars_Length c_ref30_Length c_vars_Uses c_ref30_Uses c_vars_Replace c_ref30_Replace c_ref27_SameTexts c_ref04_Same, [], fun _ => []⟩
theorem law30_VarsReplaces_ok : okF (C.ann 4) Try.f4 2 = true := by kernel_rfl
noncomputable abbrev law30_VarsReplaces_sums (c_ref04_Great : (List Val) → Option Bool) (c_ref30_Great : (List Cus) → Option Bool) (c_ref26_Twin : (List Val) → Option (List Val)) (c_vars_Length : (List Val) → Option (Int × Int)) (c_ref30_Length : (List Val) → Option (Int × Int)) (c_vars_Uses : (List Val) → Option ((List (List UInt8)) × Int)) (c_ref30_Uses : (List Val) → Option ((List (List UInt8)) × Int)) (c_vars_Replace : (List Val) × (List Cus) → Option ((List Val) × Int)) (c_ref30_Replace : (List Val) × (List Cus) → Option ((List Val) × Int)) (c_ref27_SameTexts : (List (List UInt8)) × (List (List UInt8)) → Option Bool) (c_ref04_Same : (List Val) × (List Val) → Option Bool) (n : Nat) : Sums (law30_VarsReplaces_x c_ref04_Great c_ref30_Great c_ref26_Twin c_vars_Length c_ref30_Length c_vars_Uses c_ref30_Uses c_vars_Replace c_ref30_Replace c_ref27_SameTexts c_ref04_Same) (PX X [4]) := []
theorem law30_VarsReplaces_e (c_ref04_Great : (List Val) → Option Bool) (c_ref30_Great : (List Cus) → Option Bool) (c_ref26_Twin : (List Val) → Option (List Val)) (c_vars_Length : (List Val) → Option (Int × Int)) (c_ref30_Length : (List Val) → Option (Int × Int)) (c_vars_Uses : (List Val) → Option ((List (List UInt8)) × Int)) (c_ref30_Uses : (List Val) → Option ((List (List UInt8)) × Int)) (c_vars_Replace : (List Val) × (List Cus) → Option ((List Val) × Int)) (c_ref30_Replace : (List Val) × (List Cus) → Option ((List Val) × Int)) (c_ref27_SameTexts : (List (List UInt8)) × (List (List UInt8)) → Option Bool) (c_ref04_Same : (List Val) × (List Val) → Option Bool) (n : Nat) : ∀ a, fnL (law30_VarsReplaces_x c_ref04_Great c_ref30_Great c_ref26_Twin c_vars_Length c_ref30_Length c_vars_Uses c_ref30_Uses c_vars_Replace c_ref30_Replace c_ref27_SameTexts c_ref04_Same) true 4 Try.f4 [.ty 33, .ty 22] [4] (law30_VarsReplaces_sums c_ref04_Great c_ref30_Great c_ref26_Twin c_vars_Length c_ref30_Length c_vars_Uses c_ref30_Uses c_vars_Replace c_ref30_Replace c_ref27_SameTexts c_ref04_Same n) a = law30_VarsReplaces c_ref04_Great c_ref30_Great c_ref26_Twin c_vars_Length c_ref30_Length c_vars_Uses c_ref30_Uses c_vars_Replace c_ref30_Replace c_ref27_SameTexts c_ref04_Same n a.1 a.2 := by
  intro a
  kernel_rfl
theorem law30_VarsReplaces_hT {K : CallT} (c_ref04_Great : (List Val) → Option Bool) (c_ref30_Great : (List Cus) → Option Bool) (c_ref26_Twin : (List Val) → Option (List Val)) (c_vars_Length : (List Val) → Option (Int × Int)) (c_ref30_Length : (List Val) → Option (Int × Int)) (c_vars_Uses : (List Val) → Option ((List (List UInt8)) × Int)) (c_ref30_Uses : (List Val) → Option ((List (List UInt8)) × Int)) (c_vars_Replace : (List Val) × (List Cus) → Option ((List Val) × Int)) (c_ref30_Replace : (List Val) × (List Cus) → Option ((List Val) × Int)) (c_ref27_SameTexts : (List (List UInt8)) × (List (List UInt8)) → Option Bool) (c_ref04_Same : (List Val) × (List Val) → Option Bool) (h0 : Meets U (callV C K) 12 ⟨true, [.ty 33], [4], c_ref04_Great⟩) (h1 : Meets U (callV C K) 5 ⟨true, [.ty 22], [4], c_ref30_Great⟩) (h2 : Meets U (callV C K) 13 ⟨true, [.ty 33], [33], c_ref26_Twin⟩) (h3 : Meets U (callV C K) 14 ⟨true, [.ty 33], [3, 25], c_vars_Length⟩) (h4 : Meets U (callV C K) 15 ⟨true, [.ty 33], [3, 3], c_ref30_Length⟩) (h5 : Meets U (callV C K) 16 ⟨true, [.ty 33], [40, 25], c_vars_Uses⟩) (h6 : Meets U (callV C K) 17 ⟨true, [.ty 33], [40, 3], c_ref30_Uses⟩) (h7 : Meets U (callV C K) 18 ⟨true, [.ty 33, .ty 22], [33, 25], c_vars_Replace⟩) (h8 : Meets U (callV C K) 19 ⟨true, [.ty 33, .ty 22], [33, 3], c_ref30_Replace⟩) (h9 : Meets U (callV C K) 20 ⟨true, [.ty 40, .ty 40], [4], c_ref27_SameTexts⟩) (h10 : Meets U (callV C K) 21 ⟨true, [.ty 33, .ty 33], [4], c_ref04_Same⟩)  : CallsOk (law30_VarsReplaces_x c_ref04_Great c_ref30_Great c_ref26_Twin c_vars_Length c_ref30_Length c_vars_Uses c_ref30_Uses c_vars_Replace c_ref30_Replace c_ref27_SameTexts c_ref04_Same) (callV C K) :=
  ⟨(mall_cons h0 (mall_cons h1 (mall_cons h2 (mall_cons h3 (mall_cons h4 (mall_cons h5 (mall_cons h6 (mall_cons h7 (mall_cons h8 (mall_cons h9 (mall_cons h10 mall_nil))))))))))), rall_nil⟩
theorem law30_VarsReplaces_meets {K : CallT} (hK : ∀ args h, K 4 args h = none) (c_ref04_Great : (List Val) → Option Bool) (c_ref30_Great : (List Cus) → Option Bool) (c_ref26_Twin : (List Val) → Option (List Val)) (c_vars_Length : (List Val) → Option (Int × Int)) (c_ref30_Length : (List Val) → Option (Int × Int)) (c_vars_Uses : (List Val) → Option ((List (List UInt8)) × Int)) (c_ref30_Uses : (List Val) → Option ((List (List UInt8)) × Int)) (c_vars_Replace : (List Val) × (List Cus) → Option ((List Val) × Int)) (c_ref30_Replace : (List Val) × (List Cus) → Option ((List Val) × Int)) (c_ref27_SameTexts : (List (List UInt8)) × (List (List UInt8)) → Option Bool) (c_ref04_Same : (List Val) × (List Val) → Option Bool) (h0 : Meets U (callV C K) 12 ⟨true, [.ty 33], [4], c_ref04_Great⟩) (h1 : Meets U (callV C K) 5 ⟨true, [.ty 22], [4], c_ref30_Great⟩) (h2 : Meets U (callV C K) 13 ⟨true, [.ty 33], [33], c_ref26_Twin⟩) (h3 : Meets U (callV C K) 14 ⟨true, [.ty 33], [3, 25], c_vars_Length⟩) (h4 : Meets U (callV C K) 15 ⟨true, [.ty 33], [3, 3], c_ref30_Length⟩) (h5 : Meets U (callV C K) 16 ⟨true, [.ty 33], [40, 25], c_vars_Uses⟩) (h6 : Meets U (callV C K) 17 ⟨true, [.ty 33], [40, 3], c_ref30_Uses⟩) (h7 : Meets U (callV C K) 18 ⟨true, [.ty 33, .ty 22], [33, 25], c_vars_Replace⟩) (h8 : Meets U (callV C K) 19 ⟨true, [.ty 33, .ty 22], [33, 3], c_ref30_Replace⟩) (h9 : Meets U (callV C K) 20 ⟨true, [.ty 40, .ty 40], [4], c_ref27_SameTexts⟩) (h10 : Meets U (callV C K) 21 ⟨true, [.ty 33, .ty 33], [4], c_ref04_Same⟩)  (t : PX X (AK.tys [.ty 33, .ty 22]) → Option (PX X [4])) (h : ∀ a r, t a = some r → ∃ n, law30_VarsReplaces c_ref04_Great c_ref30_Great c_ref26_Twin c_vars_Length c_ref30_Length c_vars_Uses c_ref30_Uses c_vars_Replace c_ref30_Replace c_ref27_SameTexts c_ref04_Same n a.1 a.2 = some r) : Meets U (callV C K) 4 ⟨true, [.ty 33, .ty 22], [4], t⟩ := by
  refine fnL_meets (x := law30_VarsReplaces_x c_ref04_Great c_ref30_Great c_ref26_Twin c_vars_Length c_ref30_Length c_vars_Uses c_ref30_Uses c_vars_Replace c_ref30_Replace c_ref27_SameTexts c_ref04_Same) (ak := [.ty 33, .ty 22]) (rts := [4]) (dir := true) ok (law30_VarsReplaces_hT c_ref04_Great c_ref30_Great c_ref26_Twin c_vars_Length c_ref30_Length c_vars_Uses c_ref30_Uses c_vars_Replace c_ref30_Replace c_ref27_SameTexts c_ref04_Same h0 h1 h2 h3 h4 h5 h6 h7 h8 h9 h10) hK Try.func4 law30_VarsReplaces_ok fun a r hr => ?_
  obtain ⟨n, hn⟩ := h a r hr
  exact ⟨n, law30_VarsReplaces_sums c_ref04_Great c_ref30_Great c_ref26_Twin c_vars_Length c_ref30_Length c_vars_Uses c_ref30_Uses c_vars_Replace c_ref30_Replace c_ref27_SameTexts c_ref04_Same n, (laws_none (show loopsOf 0 (bodyOf Try.f4) = [] by kernel_rfl)), (law30_VarsReplaces_e c_ref04_Great c_ref30_Great c_ref26_Twin c_vars_Length c_ref30_Length c_vars_Uses c_ref30_Uses c_vars_Replace c_ref30_Replace c_ref27_SameTexts c_ref04_Same n a).trans hn⟩
end Go.Tev.S1
namespace Go.Tev
open Go.Abs
/-! order of bytes -/
theorem less_irrefl (a : List UInt8) : Op.bytesLess a a = false := by
  induction a with
  | nil => rfl
  | cons x a ih => rw [Op.bytesLess, ih]; simp
theorem less_tri (a b : List UInt8) : (!(Op.bytesLess a b || a == b)) = Op.bytesLess b a := by
  induction a generalizing b with
  | nil => cases b <;> rfl
  | cons x a ih => cases b with
    | nil => rfl
    | cons y b =>
      have := ih b
      rw [Op.bytesLess, Op.bytesLess, ← this, List.cons_beq_cons]
      by_cases h1 : x = y
      · subst h1
        have : decide (x < x) = false := by simp
        rw [this]
        simp
      · have h2 : (x == y) = false := by simpa using h1
        have h3 : (y == x) = false := by simpa using fun h => h1 h.symm
        rw [h2, h3]
        simp only [Bool.false_and, Bool.or_false]
        rw [← decide_not]
        congr 1
        rw [UInt8.lt_iff_toNat_lt, UInt8.lt_iff_toNat_lt]
        have : x.toNat ≠ y.toNat := fun h => h1 (UInt8.toNat_inj.1 h)
        apply propext
        omega
theorem less_trans {a b c : List UInt8} (h1 : Op.bytesLess a b = true) (h2 : Op.bytesLess b c = true) : Op.bytesLess a c = true := by
  induction a generalizing b c with
  | nil => cases c with
    | nil => cases b <;> simp [Op.bytesLess] at h2
    | cons => rfl
  | cons x a ih => cases b with
    | nil => simp [Op.bytesLess] at h1
    | cons y b => cases c with
      | nil => simp [Op.bytesLess] at h2
      | cons z c =>
        rw [Op.bytesLess, Bool.or_eq_true, Bool.and_eq_true, decide_eq_true_iff, beq_iff_eq] at h1 h2 ⊢
        rcases h1 with h1 | ⟨h1, h1'⟩
        · rcases h2 with h2 | ⟨h2, h2'⟩
          · left; rw [UInt8.lt_iff_toNat_lt] at *; omega
          · left; rw [← h2]; exact h1
        · rcases h2 with h2 | ⟨h2, h2'⟩
          · left; rw [h1]; exact h2
          · right; exact ⟨h1.trans h2, ih h1' h2'⟩
/-- the names are custom and increase strictly -/
def namL : Option (List UInt8) → List Cus → Bool
  | _, [] => true
  | p, c :: r => customT c.name && (match p with
    | none => true
    | some q => Op.bytesLess q c.name) && namL (some c.name) r
theorem custom_ne {n : List UInt8} (h : customT n = true) : n ≠ [] := by
  intro e; subst e; simp [customT] at h
theorem namL_lt {q : List UInt8} {c : List Cus} (h : namL (some q) c = true) : ∀ x ∈ c, Op.bytesLess q x.name = true := by
  induction c generalizing q with
  | nil => intro x hx; cases hx
  | cons y c ih =>
    rw [namL, Bool.and_eq_true, Bool.and_eq_true] at h
    intro x hx
    rcases List.mem_cons.1 hx with rfl | hx
    · exact h.1.2
    · exact less_trans h.1.2 (ih h.2 x hx)
theorem namL_tail {p : Option (List UInt8)} {y : Cus} {c : List Cus} (h : namL p (y :: c) = true) : (∀ x ∈ c, x.name ≠ y.name) ∧ namL (some y.name) c = true := by
  have h2 : namL (some y.name) c = true := by
    rw [namL.eq_def] at h
    simp only [Bool.and_eq_true] at h
    exact h.2
  refine ⟨fun x hx e => ?_, h2⟩
  have := namL_lt h2 x hx
  rw [e, less_irrefl] at this
  cases this
/-! the table -/
def tabL (c : List Cus) : List (List UInt8 × List Val) := c.foldl (fun h x => mput BEq.beq x.name x.val h) []
theorem mget_mput (n k : List UInt8) (x : List Val) : ∀ h : List (List UInt8 × List Val), mget BEq.beq k (mput BEq.beq n x h) = if k == n then some x else mget BEq.beq k h
  | [] => by
    simp only [mput, mget]
    cases (k == n) <;> rfl
  | (k', u) :: r => by
    simp only [mput]
    cases e : (n == k')
    · simp only [cond_false, mget]
      rw [mget_mput n k x r]
      cases e2 : (k == k')
      · simp
      · simp only [cond_true]
        have h1 : k = k' := by simpa using e2
        have h2 : (k == n) = false := by rw [h1]; rw [beq_eq_false_iff_ne] at e ⊢; exact fun h => e h.symm
        rw [h2]; rfl
    · simp only [cond_true, mget]
      have h1 : n = k' := by simpa using e
      rw [h1]
      cases e2 : (k == k') <;> rfl
theorem mput_mem {n : List UInt8} {x : List Val} {h : List (List UInt8 × List Val)} {p : List UInt8 × List Val} (hp : p ∈ mput BEq.beq n x h) : p = (n, x) ∨ p ∈ h := by
  induction h with
  | nil => simp only [mput, List.mem_singleton] at hp; exact .inl hp
  | cons q h ih =>
    obtain ⟨k', u⟩ := q
    simp only [mput] at hp
    cases e : (n == k') <;> rw [e] at hp
    · rcases List.mem_cons.1 hp with rfl | hp
      · exact .inr List.mem_cons_self
      · rcases ih hp with h | h
        · exact .inl h
        · exact .inr (List.mem_cons_of_mem _ h)
    · rcases List.mem_cons.1 hp with rfl | hp
      · exact .inl rfl
      · exact .inr (List.mem_cons_of_mem _ hp)
theorem tab_mem {c : List Cus} {p : List UInt8 × List Val} (hp : p ∈ tabL c) : ∃ x ∈ c, p.2 = x.val := by
  have : ∀ (c : List Cus) (h : List (List UInt8 × List Val)), p ∈ c.foldl (fun h x => mput BEq.beq x.name x.val h) h → p ∈ h ∨ ∃ x ∈ c, p.2 = x.val := by
    intro c
    induction c with
    | nil => intro h hp; exact .inl hp
    | cons y c ih =>
      intro h hp
      rcases ih _ hp with h1 | ⟨x, hx, h1⟩
      · rcases mput_mem h1 with rfl | h2
        · exact .inr ⟨y, List.mem_cons_self, rfl⟩
        · exact .inl h2
      · exact .inr ⟨x, List.mem_cons_of_mem _ hx, h1⟩
  rcases this c [] hp with h | h
  · cases h
  · exact h
theorem lkM_tab {c : List Cus} {p : Option (List UInt8)} (hn : namL p c = true) : lkM (tabL c) = lkC c := by
  have : ∀ (c : List Cus) (p : Option (List UInt8)) (h : List (List UInt8 × List Val)) (k : List UInt8), namL p c = true → mget BEq.beq k (c.foldl (fun h x => mput BEq.beq x.name x.val h) h) = (match lkC c k with
      | some x => some x
      | none => mget BEq.beq k h) := by
    intro c
    induction c with
    | nil => intro p h k _; rfl
    | cons y c ih =>
      intro p h k hn
      obtain ⟨h1, h2⟩ := namL_tail hn
      simp only [List.foldl_cons, lkC]
      rw [ih _ _ _ h2, mget_mput]
      by_cases e : (y.name == k) = true
      · rw [if_pos e]
        have e1 : y.name = k := by simpa using e
        have e2 : (k == y.name) = true := by simp [e1]
        have e3 : lkC c k = none := by
          cases e3 : lkC c k with
          | none => rfl
          | some x =>
            exfalso
            clear ih hn h2
            induction c with
            | nil => cases e3
            | cons z c ih2 =>
              simp only [lkC] at e3
              split at e3
              · rename_i hz
                have : z.name = k := by simpa using hz
                exact h1 z List.mem_cons_self (this.trans e1.symm)
              · exact ih2 (fun x hx => h1 x (List.mem_cons_of_mem _ hx)) e3
        rw [e3, e2]; rfl
      · rw [if_neg e]
        have e2 : (k == y.name) = false := by
          rw [Bool.not_eq_true, beq_eq_false_iff_ne] at e
          rw [beq_eq_false_iff_ne]; exact fun h => e h.symm
        rw [e2]
        cases lkC c k <;> rfl
  funext k
  unfold lkM tabL
  rw [this c p [] k hn]
  cases lkC c k <;> rfl
end Go.Tev
namespace Go.Tev.S1
open Go.Abs Go.Proofs
/-! named -/
def sNamed (c : List Cus) : Option Bool := if c.length ≤ B then some (namL none c) else none
theorem sNamed_of {c : List Cus} (h : c.length ≤ B) : sNamed c = some (namL none c) := if_pos h
/-- one round -/
def namS (p : Option (List UInt8)) (v : Cus) : Bool := customT v.name && (match p with
  | none => true
  | some q => Op.bytesLess q v.name)
theorem nam_run (l : List Cus) : ∀ p, runE (fun (p : Option (List UInt8)) v => if namS p v = true then .inl (some v.name) else .inr (some false)) (fun _ => some true) l p = some (namL p l) := by
  induction l with
  | nil => intro p; rw [namL.eq_def]; rfl
  | cons v l ih =>
    intro p
    simp only [runE]
    have e : namL p (v :: l) = (namS p v && namL (some v.name) l) := by rw [namL.eq_def]; rfl
    rw [e]
    by_cases h : namS p v = true
    · rw [if_pos h, h]; exact ih _
    · rw [if_neg h, (Bool.not_eq_true _).mp h]; rfl
def prevT : Option (List UInt8) → List UInt8
  | none => []
  | some q => q
theorem named_walk (c : List Cus) (h : c.length ≤ B) : vars_named (fun p => some (customT p)) (c.length + 1) c = some (namL none c) := by
  have hB : B = 2 ^ 36 := rfl
  unfold vars_named
  refine (loop3_list c (fun (_ : Option (List UInt8)) => false) prevT (fun p v => if namS p v = true then .inl (some v.name) else .inr (some false)) (fun _ => some true) (fun i b => True) ?_ ?_ ?_ none trivial _ (Nat.lt_succ_self _)).trans (nam_run c none)
  · intro i b v k' hv hlt hb
    have hi : IntKind.i64.wrap ((i : Int) + 1) = ((i + 1 : Nat) : Int) := wrap_add1 (by omega)
    simp only [vars_named_L0, getI_nat hv, Option.bind_some, dlt hlt, cond_true, hi]
    have key : (bif !customT v.name then true else (Op.bytesLess v.name (prevT b) || v.name == prevT b)) = !namS b v := by
      unfold namS
      cases e1 : customT v.name
      · rfl
      · have hne := custom_ne e1
        cases b with
        | none =>
          cases e3 : v.name with
          | nil => exact absurd e3 hne
          | cons x r => rfl
        | some q =>
          change (Op.bytesLess v.name q || v.name == q) = !(true && Op.bytesLess q v.name)
          rw [← less_tri v.name q, Bool.true_and, Bool.not_not]
    rw [key]
    cases namS b v <;> rfl
  · intro i b v b' hv hb hs; trivial
  · intro b k' hb
    simp only [vars_named_L0, dlt0, cond_false]
theorem M_named {K : CallT} (hK : KFree K) : Meets U (callV C K) 23 ⟨true, [.ty 22], [4], sNamed⟩ :=
  vars_named_meets (kf hK 23 (by decide)) _ (M_Custom hK) _ fun a r h => by
    unfold sNamed at h
    split at h
    · rename_i h3; cases h; exact ⟨_, named_walk a h3⟩
    · cases h
theorem refNamed_walk (c : List Cus) (h : c.length ≤ B) : ref30_named (fun p => some (customT p)) (c.length + 1) c = some (namL none c) := by
  have hB : B = 2 ^ 36 := rfl
  unfold ref30_named
  refine (loop2_list c (fun (_ : Option (List UInt8)) => false) (fun p v => if namS p v = true then .inl (some v.name) else .inr (some false)) (fun _ => some true) (fun i b => b = match i with | 0 => none | j + 1 => (c[j]?).map (·.name)) ?_ ?_ ?_ none rfl _ (Nat.lt_succ_self _)).trans (nam_run c none)
  · intro i b v k' hv hlt hb
    have hi : IntKind.i64.wrap ((i : Int) + 1) = ((i + 1 : Nat) : Int) := wrap_add1 (by omega)
    simp only [ref30_named_L0, getI_nat hv, Option.bind_some, dlt hlt, cond_true, hi]
    cases i with
    | zero =>
      have hb' : b = none := hb
      subst hb'
      have e2 : decide (((0 : Nat) : Int) > 0) = false := rfl
      have key : namS none v = customT v.name := by unfold namS; simp
      rw [key]
      cases customT v.name
      · rfl
      · simp only [e2, Bool.not_true, Bool.not_false, cond_true, cond_false, Bool.true_and, Bool.and_false, Option.bind_some]
        rfl
    | succ j =>
      have hj : j < c.length := by omega
      have hw : c[j]? = some c[j] := List.getElem?_eq_getElem hj
      have hb' : b = some c[j].name := by rw [hb]; simp [hw]
      subst hb'
      have e2 : decide (((j + 1 : Nat) : Int) > 0) = true := by simp
      have e3 : IntKind.i64.wrap (((j + 1 : Nat) : Int) - 1) = (j : Int) := by rw [wrap_id (by omega) (by omega)]; omega
      have key : namS (some c[j].name) v = (customT v.name && Op.bytesLess c[j].name v.name) := rfl
      rw [key]
      cases customT v.name
      · rfl
      · simp only [Bool.not_true, Bool.not_false, cond_true, cond_false, Bool.true_and, e2, e3, getI_nat hw, getI_nat hv, Option.bind_some]
        cases Op.bytesLess c[j].name v.name <;> rfl
  · intro i b v b' hv hb hs
    split at hs
    · cases hs
      simp [hv]
    · cases hs
  · intro b k' hb
    simp only [ref30_named_L0, dlt0, cond_false]
theorem M_refNamed {K : CallT} (hK : KFree K) : Meets U (callV C K) 26 ⟨true, [.ty 22], [4], sNamed⟩ :=
  ref30_named_meets (kf hK 26 (by decide)) _ (M_refCustom hK) _ fun a r h => by
    unfold sNamed at h
    split at h
    · rename_i h3; cases h; exact ⟨_, refNamed_walk a h3⟩
    · cases h
/-! table -/
def sTab (c : List Cus) : Option Mp := if c.length ≤ B then some (tabL c) else none
theorem sTab_of {c : List Cus} (h : c.length ≤ B) : sTab c = some (tabL c) := if_pos h
theorem table_walk (c : List Cus) (h : c.length ≤ B) : vars_table (c.length + 1) c = some (tabL c) := by
  have hB : B = 2 ^ 36 := rfl
  unfold vars_table
  refine (loop2r_list c (fun (b : Mp) => b) (fun b v => .inl (mput BEq.beq v.name v.val b)) (fun b => some b) (fun i b => True) ?_ ?_ ?_ [] trivial _ (Nat.lt_succ_self _)).trans ?_
  · intro i b v k' hv hlt hb
    have hi : IntKind.i64.wrap ((i : Int) + 1) = ((i + 1 : Nat) : Int) := wrap_add1 (by omega)
    simp only [vars_table_L0, getI_nat hv, Option.bind_some, dlt hlt, cond_true, hi]
  · intro i b v b' hv hb hs; trivial
  · intro b k' hb
    simp only [vars_table_L0, dlt0, cond_false]
  · rw [runE_fold (fun (b : Mp) (v : Cus) => mput BEq.beq v.name v.val b)]; rfl
theorem M_table {K : CallT} (hK : KFree K) : Meets U (callV C K) 40 ⟨false, [.ty 22], [70], sTab⟩ :=
  vars_table_meets (kf hK 40 (by decide)) _ fun a r h => by
    unfold sTab at h
    split at h
    · rename_i h3; cases h; exact ⟨_, table_walk a h3⟩
    · cases h
/-! check -/
def cusBad (v : Cus) : Bool := (checkE v.val != 0) || hasvL v.val || decide (totL v.val > 2000)
def cusE : List Cus → Int
  | [] => 0
  | v :: r => if cusBad v then 8 else cusE r
def chkC (c : List Cus) : Int := if c.length > 64 ∨ namL none c = false then 8 else cusE c
def okCu (c : List Cus) : Prop := c.length ≤ B ∧ ∀ v ∈ c, totL v.val ≤ V
instance (a) : Decidable (okCu a) := inferInstanceAs (Decidable (_ ∧ _))
def sChk (c : List Cus) : Option Int := if okCu c then some (chkC c) else none
theorem sChk_of {c : List Cus} (h : okCu c) : sChk c = some (chkC c) := if_pos h
theorem chk_run (l : List Cus) : runE (fun (_ : Unit) v => if cusBad v = true then .inr (some (8 : Int)) else .inl ()) (fun _ => some (0 : Int)) l () = some (cusE l) := by
  induction l with
  | nil => rfl
  | cons v l ih =>
    simp only [runE, cusE]
    by_cases h : cusBad v = true
    · rw [if_pos h, if_pos h]
    · rw [if_neg h, if_neg h]; exact ih
theorem Chk_walk (c : List Cus) (h : okCu c) : vars_Check sNamed sCheck sHas sLong (c.length + 1) c = some (chkC c) := by
  have hB : B = 2 ^ 36 := rfl
  have hV : V = 2 ^ 24 := rfl
  obtain ⟨hl, hm⟩ := h
  unfold vars_Check chkC
  by_cases h1 : c.length > 64
  · have : decide ((c.length : Int) > 64) = true := by simp; omega
    rw [this, if_pos (.inl h1)]; rfl
  · have e : decide ((c.length : Int) > 64) = false := by simp; omega
    simp only [e, Bool.not_false, cond_true, cond_false, sNamed_of hl, Option.bind_some]
    cases h2 : namL none c
    · rw [if_pos (.inr rfl)]; rfl
    · rw [if_neg (by simp; omega)]
      simp only [Bool.not_true, cond_false]
      refine (loop2_list c (fun (_ : Unit) => (0 : Int)) (fun _ v => if cusBad v = true then .inr (some (8 : Int)) else .inl ()) (fun _ => some (0 : Int)) (fun i b => True) ?_ ?_ ?_ () trivial _ (Nat.lt_succ_self _)).trans (chk_run c)
      · intro i b v k' hv hlt hb
        have hvm := hm v (List.mem_of_getElem? hv)
        have hi : IntKind.i64.wrap ((i : Int) + 1) = ((i + 1 : Nat) : Int) := wrap_add1 (by omega)
        have hd : decide ((totL v.val : Int) > 2000) = decide (totL v.val > 2000) := by simp; omega
        simp only [vars_Check_L0, getI_nat hv, Option.bind_some, dlt hlt, cond_true, hi, sCheck_of (show totL v.val ≤ B by omega), sHas_of (show totL v.val ≤ B by omega), sLong_of (show totL v.val ≤ B by omega)]
        unfold cusBad
        cases e1 : (checkE v.val != 0) <;> cases e2 : hasvL v.val <;> cases e3 : decide (totL v.val > 2000) <;> rw [e3] at hd <;> first | rfl | simp [hd]
      · intro i b v b' hv hb hs; trivial
      · intro b k' hb
        simp only [vars_Check_L0, dlt0, cond_false]
theorem M_Check {K : CallT} (hK : KFree K) : Meets U (callV C K) 10 ⟨true, [.ty 22], [25], sChk⟩ :=
  vars_Check_meets (kf hK 10 (by decide)) _ _ _ _ (M_named hK) (M_nestCheck (kf hK 24 (by decide)) (kf hK 43 (by decide)) (kf hK 67 (by decide))) (M_Var hK) (M_vlen hK) _ fun a r h => by
    unfold sChk at h
    split at h
    · rename_i h3; cases h; exact ⟨_, Chk_walk a h3⟩
    · cases h
theorem refChk_walk (c : List Cus) (h : okCu c) : ref30_Check sNamed sCheck sHas sLong (c.length + 1) c = some (chkC c) := by
  have hB : B = 2 ^ 36 := rfl
  have hV : V = 2 ^ 24 := rfl
  obtain ⟨hl, hm⟩ := h
  unfold ref30_Check chkC
  by_cases h1 : c.length > 64
  · have : decide ((c.length : Int) > 64) = true := by simp; omega
    rw [this, if_pos (.inl h1)]; rfl
  · have e : decide ((c.length : Int) > 64) = false := by simp; omega
    simp only [e, Bool.not_false, cond_true, cond_false, sNamed_of hl, Option.bind_some]
    cases h2 : namL none c
    · rw [if_pos (.inr rfl)]; rfl
    · rw [if_neg (by simp; omega)]
      simp only [Bool.not_true, cond_false]
      refine (loop2_list c (fun (_ : Unit) => (0 : Int)) (fun _ v => if cusBad v = true then .inr (some (8 : Int)) else .inl ()) (fun _ => some (0 : Int)) (fun i b => True) ?_ ?_ ?_ () trivial _ (Nat.lt_succ_self _)).trans (chk_run c)
      · intro i b v k' hv hlt hb
        have hvm := hm v (List.mem_of_getElem? hv)
        have hi : IntKind.i64.wrap ((i : Int) + 1) = ((i + 1 : Nat) : Int) := wrap_add1 (by omega)
        have hd : decide ((totL v.val : Int) > 2000) = decide (totL v.val > 2000) := by simp; omega
        simp only [ref30_Check_L0, getI_nat hv, Option.bind_some, dlt hlt, cond_true, hi, sCheck_of (show totL v.val ≤ B by omega)]
        unfold cusBad
        cases e1 : (checkE v.val != 0)
        · simp only [Bool.not_false, cond_true, cond_false, Option.bind_some, sHas_of (show totL v.val ≤ B by omega)]
          cases e2 : hasvL v.val
          · simp only [Bool.not_false, cond_true, cond_false, Option.bind_some, sLong_of (show totL v.val ≤ B by omega), hd]
            cases decide (totL v.val > 2000) <;> rfl
          · rfl
        · rfl
      · intro i b v b' hv hb hs; trivial
      · intro b k' hb
        simp only [ref30_Check_L0, dlt0, cond_false]
theorem M_refChk {K : CallT} (hK : KFree K) : Meets U (callV C K) 11 ⟨true, [.ty 22], [3], sChk⟩ :=
  ref30_Check_meets (kf hK 11 (by decide)) _ _ _ _ (M_refNamed hK) (M_refCheck (kf hK 27 (by decide)) (kf hK 33 (by decide)) (kf hK 46 (by decide)) (kf hK 47 (by decide)) (kf hK 54 (by decide))) (M_refVar hK) (M_Long (kf hK 32 (by decide))) _ fun a r h => by
    unfold sChk at h
    split at h
    · rename_i h3; cases h; exact ⟨_, refChk_walk a h3⟩
    · cases h
end Go.Tev.S1
namespace Go.Tev.S1
open Go.Abs Go.Proofs
/-! replace -/
def repE (lk : Lk) (l : List Val) : List Val × Int := match meaL lk l with
  | none => ([], 6)
  | some n => if 2000 < n ∧ hasvL l = true then ([], 28) else if checkE (putL lk l) = 0 then (putL lk l, 0) else ([], checkE (putL lk l))
def okR (lk : Lk) (l : List Val) : Prop := totL l ≤ B ∧ okLk lk
open Classical in
noncomputable def sReplace (a : List Val × Mp) : Option (List Val × Int) := if okR (lkM a.2) a.1 ∧ ∀ p ∈ a.2, totL p.2 ≤ V then some (repE (lkM a.2) a.1) else none
theorem sReplace_of {l : List Val} {m : Mp} (h : okR (lkM m) l) (h2 : ∀ p ∈ m, totL p.2 ≤ V) : sReplace (l, m) = some (repE (lkM m) l) := if_pos ⟨h, h2⟩
theorem put_ok {lk : Lk} {l : List Val} (h : okR lk l) {n : Nat} (hn : meaL lk l = some n) (h2 : ¬ (2000 < n ∧ hasvL l = true)) : okP lk l ∧ totL (putL lk l) ≤ B := by
  have hB : B = 2 ^ 36 := rfl
  have : n ≤ B := by
    by_cases h3 : 2000 < n
    · cases e : hasvL l with
      | true => exact absurd ⟨h3, e⟩ h2
      | false =>
        rw [mea_same lk l e] at hn
        cases hn
        exact h.1
    · omega
  exact ⟨⟨h.1, h.2, n, hn, this⟩, by rw [put_tot lk l n hn]; exact this⟩
theorem replace_walk (m : Mp) (l : List Val) (h : okR (lkM m) l) (hm : ∀ p ∈ m, totL p.2 ≤ V) : vars_replace sMea sHas sPut sCheck 0 l m = some (repE (lkM m) l) := by
  unfold vars_replace repE
  rw [sMea_of h.1 hm]
  cases e : meaL (lkM m) l with
  | none =>
    rw [meaI_none e]; rfl
  | some n =>
    rw [meaI_of e]
    have e1 : decide ((n : Int) < 0) = false := by simp
    simp only [Option.bind_some, e1, cond_false, sHas_of h.1]
    by_cases h2 : 2000 < n ∧ hasvL l = true
    · have e2 : decide ((n : Int) > 2000) = true := by simp; omega
      rw [if_pos h2]
      simp only [e2, h2.2, cond_true, Option.bind_some]
    · obtain ⟨g1, g2⟩ := put_ok h e h2
      have e2 : (bif decide ((n : Int) > 2000) then hasvL l else false) = false := by
        by_cases h3 : 2000 < n
        · have : hasvL l = false := by
            cases e : hasvL l with
            | true => exact absurd ⟨h3, e⟩ h2
            | false => rfl
          rw [this]; simp
        · have : decide ((n : Int) > 2000) = false := by simp; omega
          rw [this]; rfl
      rw [if_neg h2]
      have e3 : ∀ (X : Option Bool), (Option.bind (bif decide ((n : Int) > 2000) then some (hasvL l) else some false) fun r2 => (some (bif decide ((n : Int) > 2000) then r2 else false))) = some false := by
        intro X
        rw [← e2]
        cases decide ((n : Int) > 2000) <;> rfl
      cases e4 : decide ((n : Int) > 2000)
      · simp only [cond_false, Option.bind_some, sPut_of g1, sCheck_of g2]
        by_cases h5 : checkE (putL (lkM m) l) = 0
        · have : (checkE (putL (lkM m) l) != 0) = false := by simpa using h5
          rw [this, if_pos h5]; rfl
        · have : (checkE (putL (lkM m) l) != 0) = true := by simpa using h5
          rw [this, if_neg h5]; rfl
      · have e5 : hasvL l = false := by rw [e4] at e2; exact e2
        simp only [cond_true, e5, cond_false, Option.bind_some, sPut_of g1, sCheck_of g2]
        by_cases h5 : checkE (putL (lkM m) l) = 0
        · have : (checkE (putL (lkM m) l) != 0) = false := by simpa using h5
          rw [this, if_pos h5]; rfl
        · have : (checkE (putL (lkM m) l) != 0) = true := by simpa using h5
          rw [this, if_neg h5]; rfl
theorem M_replace {K : CallT} (hK : KFree K) : Meets U (callV C K) 39 ⟨true, [.ty 33, .ty 70], [33, 25], sReplace⟩ :=
  vars_replace_meets (kf hK 39 (by decide)) _ _ _ _ (M_measure hK) (M_Var hK) (M_put hK) (M_nestCheck (kf hK 24 (by decide)) (kf hK 43 (by decide)) (kf hK 67 (by decide))) _ fun a r h => by
    unfold sReplace at h
    split at h
    · rename_i h3; cases h; exact ⟨0, replace_walk a.2 a.1 h3.1 h3.2⟩
    · cases h
open Classical in
noncomputable def sPutR (a : List Val × List Cus) : Option (List Val × Int) := if okR (lkC a.2) a.1 ∧ okCu a.2 then some (repE (lkC a.2) a.1) else none
theorem sPutR_of {l : List Val} {m : List Cus} (h : okR (lkC m) l) (h2 : okCu m) : sPutR (l, m) = some (repE (lkC m) l) := if_pos ⟨h, h2⟩
theorem Put_walk (m : List Cus) (l : List Val) (h : okR (lkC m) l) (hm : okCu m) : ref30_Put sMeaR sHas sRep sCheck 0 l m = some (repE (lkC m) l) := by
  unfold ref30_Put repE
  rw [sMeaR_of h.1 hm.1 hm.2]
  cases e : meaL (lkC m) l with
  | none =>
    rw [meaP_none e]; rfl
  | some n =>
    rw [meaP_of e]
    simp only [Option.bind_some, Bool.not_true, cond_false, sHas_of h.1]
    by_cases h2 : 2000 < n ∧ hasvL l = true
    · have e2 : decide ((n : Int) > 2000) = true := by simp; omega
      rw [if_pos h2]
      simp only [e2, h2.2, cond_true, Option.bind_some]
    · obtain ⟨g1, g2⟩ := put_ok h e h2
      rw [if_neg h2]
      cases e4 : decide ((n : Int) > 2000)
      · simp only [cond_false, Option.bind_some, sRep_of g1 hm.1, sCheck_of g2]
        by_cases h5 : checkE (putL (lkC m) l) = 0
        · have : (checkE (putL (lkC m) l) != 0) = false := by simpa using h5
          rw [this, if_pos h5]; rfl
        · have : (checkE (putL (lkC m) l) != 0) = true := by simpa using h5
          rw [this, if_neg h5]; rfl
      · have e5 : hasvL l = false := by
          have h3 : 2000 < n := by have := of_decide_eq_true e4; omega
          cases e : hasvL l with
          | true => exact absurd ⟨h3, e⟩ h2
          | false => rfl
        simp only [cond_true, e5, cond_false, Option.bind_some, sRep_of g1 hm.1, sCheck_of g2]
        by_cases h5 : checkE (putL (lkC m) l) = 0
        · have : (checkE (putL (lkC m) l) != 0) = false := by simpa using h5
          rw [this, if_pos h5]; rfl
        · have : (checkE (putL (lkC m) l) != 0) = true := by simpa using h5
          rw [this, if_neg h5]; rfl
theorem M_Put {K : CallT} (hK : KFree K) : Meets U (callV C K) 41 ⟨true, [.ty 33, .ty 22], [33, 3], sPutR⟩ :=
  ref30_Put_meets (kf hK 41 (by decide)) _ _ _ _ (M_measured hK) (M_refVar hK) (M_replaced hK) (M_refCheck (kf hK 27 (by decide)) (kf hK 33 (by decide)) (kf hK 46 (by decide)) (kf hK 47 (by decide)) (kf hK 54 (by decide))) _ fun a r h => by
    unfold sPutR at h
    split at h
    · rename_i h3; cases h; exact ⟨0, Put_walk a.2 a.1 h3.1 h3.2⟩
    · cases h
/-! Replace -/
def RepE (l : List Val) (c : List Cus) : List Val × Int := if checkE l ≠ 0 then ([], checkE l) else if chkC c ≠ 0 then ([], chkC c) else repE (lkC c) l
def sReplaces (a : List Val × List Cus) : Option (List Val × Int) := if totL a.1 ≤ B ∧ okCu a.2 then some (RepE a.1 a.2) else none
theorem sReplaces_of {l : List Val} {c : List Cus} (h : totL l ≤ B) (h2 : okCu c) : sReplaces (l, c) = some (RepE l c) := if_pos ⟨h, h2⟩
theorem cusE_ok {c : List Cus} (h : cusE c = 0) : ∀ v ∈ c, hasvL v.val = false := by
  induction c with
  | nil => intro v hv; cases hv
  | cons y c ih =>
    simp only [cusE] at h
    split at h
    · cases h
    · rename_i h2
      intro v hv
      rcases List.mem_cons.1 hv with rfl | hv
      · rw [Bool.not_eq_true, cusBad, Bool.or_eq_false_iff, Bool.or_eq_false_iff] at h2
        exact h2.1.2
      · exact ih h v hv
theorem chk_ok {c : List Cus} (h : chkC c = 0) (h2 : okCu c) : okLk (lkC c) ∧ namL none c = true := by
  unfold chkC at h
  split at h
  · cases h
  · rename_i h3
    have h4 : namL none c = true := by
      cases e : namL none c with
      | true => rfl
      | false => exact absurd (.inr e) h3
    refine ⟨fun n x hx => ?_, h4⟩
    obtain ⟨p, hp, rfl⟩ := lkC_mem hx
    exact ⟨h2.2 p hp, cusE_ok h p hp⟩
theorem Replace_walk (l : List Val) (c : List Cus) (h : totL l ≤ B) (h2 : okCu c) : vars_Replace sCheck sChk sTab sReplace 0 l c = some (RepE l c) := by
  unfold vars_Replace RepE
  simp only [sCheck_of h, sChk_of h2, sTab_of h2.1, Option.bind_some]
  by_cases h3 : checkE l = 0
  · have e3 : (checkE l != 0) = false := by simpa using h3
    rw [if_neg (by simp [h3]), e3]
    simp only [cond_false]
    by_cases h4 : chkC c = 0
    · have e4 : (chkC c != 0) = false := by simpa using h4
      obtain ⟨g1, g2⟩ := chk_ok h4 h2
      have g3 := lkM_tab g2
      have g4 : ∀ p ∈ tabL c, totL p.2 ≤ V := by
        intro p hp
        obtain ⟨x, hx, e⟩ := tab_mem hp
        rw [e]; exact h2.2 x hx
      rw [if_neg (by simp [h4]), e4, sReplace_of (by rw [g3]; exact ⟨h, g1⟩) g4, g3]
      rfl
    · have e4 : (chkC c != 0) = true := by simpa using h4
      rw [if_pos h4, e4]; rfl
  · have e3 : (checkE l != 0) = true := by simpa using h3
    rw [if_pos h3, e3]; rfl
theorem M_Replace {K : CallT} (hK : KFree K) : Meets U (callV C K) 18 ⟨true, [.ty 33, .ty 22], [33, 25], sReplaces⟩ :=
  vars_Replace_meets (kf hK 18 (by decide)) _ _ _ _ (M_nestCheck (kf hK 24 (by decide)) (kf hK 43 (by decide)) (kf hK 67 (by decide))) (M_Check hK) (M_table hK) (M_replace hK) _ fun a r h => by
    unfold sReplaces at h
    split at h
    · rename_i h3; cases h; exact ⟨0, Replace_walk a.1 a.2 h3.1 h3.2⟩
    · cases h
theorem refReplace_walk (l : List Val) (c : List Cus) (h : totL l ≤ B) (h2 : okCu c) : ref30_Replace sCheck sChk sPutR 0 l c = some (RepE l c) := by
  unfold ref30_Replace RepE
  simp only [sCheck_of h, sChk_of h2, Option.bind_some]
  by_cases h3 : checkE l = 0
  · have e3 : (checkE l != 0) = false := by simpa using h3
    rw [if_neg (by simp [h3]), e3]
    simp only [cond_false]
    by_cases h4 : chkC c = 0
    · have e4 : (chkC c != 0) = false := by simpa using h4
      obtain ⟨g1, g2⟩ := chk_ok h4 h2
      rw [if_neg (by simp [h4]), e4, sPutR_of ⟨h, g1⟩ h2]
      rfl
    · have e4 : (chkC c != 0) = true := by simpa using h4
      rw [if_pos h4, e4]; rfl
  · have e3 : (checkE l != 0) = true := by simpa using h3
    rw [if_pos h3, e3]; rfl
theorem M_refReplace {K : CallT} (hK : KFree K) : Meets U (callV C K) 19 ⟨true, [.ty 33, .ty 22], [33, 3], sReplaces⟩ :=
  ref30_Replace_meets (kf hK 19 (by decide)) _ _ _ (M_refCheck (kf hK 27 (by decide)) (kf hK 33 (by decide)) (kf hK 46 (by decide)) (kf hK 47 (by decide)) (kf hK 54 (by decide))) (M_refChk hK) (M_Put hK) _ fun a r h => by
    unfold sReplaces at h
    split at h
    · rename_i h3; cases h; exact ⟨0, refReplace_walk a.1 a.2 h3.1 h3.2⟩
    · cases h
end Go.Tev.S1
namespace Go.Tev
open Go.Abs
mutual
def Val.uses : Val → List (List UInt8)
  | .mk t l => (if (t.k == 2 && (lowT t.t == [118, 97, 114])) && ((partsV l).1 != []) then [(partsV l).1] else []) ++ usesL l
def usesL : List Val → List (List UInt8)
  | [] => []
  | v :: r => v.uses ++ usesL r
end
theorem Val.uses_eq (v : Val) : v.uses = (if v.ref && ((partsV v.l).1 != []) then [(partsV v.l).1] else []) ++ usesL v.l := by cases v; rfl
theorem usesL_append (a b : List Val) : usesL (a ++ b) = usesL a ++ usesL b := by
  induction a with
  | nil => rfl
  | cons v a ih => simp only [List.cons_append, usesL, ih, List.append_assoc]
theorem if_len {α : Type} (c : Bool) (n : α) : (if c = true then [n] else []).length ≤ 1 := by cases c <;> simp
mutual
theorem uses_len : ∀ v : Val, v.uses.length ≤ v.tot
  | .mk t l => by
    have := usesL_len l
    rw [Val.uses_eq, Val.tot_eq]
    simp only [Val.l, Val.tok, List.length_append]
    exact Nat.le_trans (Nat.add_le_add_right (if_len _ _) _) (by omega)
theorem usesL_len : ∀ l : List Val, (usesL l).length ≤ totL l
  | [] => Nat.le_refl _
  | v :: r => by
    have h1 := uses_len v
    have h2 := usesL_len r
    simp only [usesL, totL, List.length_append]; omega
end
abbrev Bm := List (List UInt8 × Bool)
def colL (h : Bm) (l : List Val) : Bm := (usesL l).foldl (fun h n => mput BEq.beq n true h) h
theorem colL_snoc (h : Bm) (l : List Val) (v : Val) : colL h (l ++ [v]) = (v.uses).foldl (fun h n => mput BEq.beq n true h) (colL h l) := by
  unfold colL
  rw [usesL_append, List.foldl_append]
  simp [usesL]
end Go.Tev
namespace Go.Tev.S1
open Go.Abs Go.Proofs
def sUses (l : List Val) : Option (List (List UInt8)) := if totL l ≤ B then some (usesL l) else none
theorem sUses_of {l : List Val} (h : totL l ≤ B) : sUses l = some (usesL l) := if_pos h
theorem uses_walk (l : List Val) (k : Nat) (h1 : totL l < k + 1) (h2 : totL l ≤ B) : ref30_uses sRef sParts (below totL k sUses) (l.length + 1) l = some (usesL l) := by
  have hB : B = 2 ^ 36 := rfl
  unfold ref30_uses
  refine (loop2_list l (fun b => usesL b) (fun b v => .inl (b ++ [v])) (fun b => some (usesL b)) (fun i b => b = l.take i) ?_ ?_ ?_ [] rfl _ (Nat.lt_succ_self _)).trans ?_
  · intro i b v k' hv hlt hb
    subst hb
    have hmem := List.mem_of_getElem? hv
    have hs := tot_sub hmem
    have hm1 := tot_mem hmem
    have hl := len_tot l
    have hle := tot_take_le l i
    have hn := usesL_len (l.take i)
    have hn2 := usesL_len v.l
    have hi : IntKind.i64.wrap ((i : Int) + 1) = ((i + 1 : Nat) : Int) := wrap_add1 (by omega)
    have hbel : below totL k sUses v.l = some (usesL v.l) := (below_of (show totL v.l < k by omega)).trans (sUses_of (by omega))
    have r1 : room 16 ((usesL (l.take i)).length + [(partsV v.l).1].length) = some () := room_of (by simp; omega) (by decide)
    have r2 : room 16 ((usesL (l.take i) ++ [(partsV v.l).1]).length + (usesL v.l).length) = some () := room_of (by simp; omega) (by decide)
    have r3 : room 16 ((usesL (l.take i)).length + (usesL v.l).length) = some () := room_of (by omega) (by decide)
    simp only [ref30_uses_L0, getI_nat hv, Option.bind_some, dlt hlt, cond_true, Val.eta, hi, hbel, sRef_of (show v.tot ≤ B by omega), usesL_append, usesL, List.append_nil, Val.uses_eq]
    cases e1 : v.ref
    · simp only [cond_false, Bool.false_and, Option.bind_some, r3, Bool.false_eq_true, if_false, List.nil_append]
    · simp only [cond_true, Bool.true_and, Option.bind_some, sParts_of (show v.tot ≤ B by omega)]
      cases e2 : ((partsV v.l).1 != [])
      · simp only [cond_false, Option.bind_some, r3, Bool.false_eq_true, if_false, List.nil_append]
      · simp only [cond_true, Option.bind_some, r1, r2, if_true, List.append_assoc]
  · intro i b v b' hv hb hs
    cases hs
    rw [take_snoc hv, hb]
  · intro b k' hb
    simp only [ref30_uses_L0, dlt0, cond_false]
  · rw [runE_fold (fun (b : List Val) (v : Val) => b ++ [v]), foldl_snoc]
theorem M_uses {K : CallT} (hK : KFree K) : Meets U (callV C K) 38 ⟨true, [.ty 33], [40], sUses⟩ :=
  meets_rec (U := U) (ak := [.ty 33]) (rts := [40]) totL sUses fun k ih => ref30_uses_meets (kf hK 38 (by decide)) _ _ _ (M_Reference hK) (M_Named hK) ih _ fun a r h => by
    obtain ⟨h1, h2⟩ := below_some h
    unfold sUses at h2
    split at h2
    · rename_i h3; cases h2; exact ⟨_, uses_walk a k h1 h3⟩
    · cases h2
def sCol (l : List Val) (cs : Bm × Unit) : Option (Unit × (Bm × Unit)) := if totL l ≤ B then some ((), (colL cs.1 l, ())) else none
theorem sCol_of {l : List Val} {h : Bm} (h1 : totL l ≤ B) : sCol l (h, ()) = some ((), (colL h l, ())) := if_pos h1
theorem col_walk (l : List Val) (h : Bm) (k : Nat) (h1 : totL l < k + 1) (h2 : totL l ≤ B) : vars_collect (fun v => some v.ref) sParts (fun a cs => if totL a < k then sCol a cs else none) (l.length + 1) l h = some ((), (colL h l, ())) := by
  have hB : B = 2 ^ 36 := rfl
  unfold vars_collect
  refine (loop2r_list l (fun b => colL h b) (fun b v => .inl (b ++ [v])) (fun b => some ((), (colL h b, ()))) (fun i b => b = l.take i) ?_ ?_ ?_ [] rfl _ (Nat.lt_succ_self _)).trans ?_
  · intro i b v k' hv hlt hb
    subst hb
    have hmem := List.mem_of_getElem? hv
    have hs := tot_sub hmem
    have hm1 := tot_mem hmem
    have hl := len_tot l
    have hi : IntKind.i64.wrap ((i : Int) + 1) = ((i + 1 : Nat) : Int) := wrap_add1 (by omega)
    have hbel : ∀ g : Bm, (if totL v.l < k then sCol v.l (g, ()) else none) = some ((), (colL g v.l, ())) := fun g => (if_pos (by omega)).trans (sCol_of (by omega))
    simp only [vars_collect_L0, getI_nat hv, Option.bind_some, dlt hlt, cond_true, Val.eta, hi, Bool.cond_self, hbel, colL_snoc, Val.uses_eq, List.foldl_append]
    cases e1 : v.ref
    · simp only [cond_false, Bool.false_and, Bool.false_eq_true, if_false, List.foldl_nil]; rfl
    · simp only [cond_true, Bool.true_and, Option.bind_some, sParts_of (show v.tot ≤ B by omega)]
      cases e2 : ((partsV v.l).1 != [])
      · simp only [cond_false, Bool.false_eq_true, if_false, List.foldl_nil]; rfl
      · simp only [cond_true, if_true, List.foldl_cons, List.foldl_nil]; rfl
  · intro i b v b' hv hb hs
    cases hs
    rw [take_snoc hv, hb]
  · intro b k' hb
    simp only [vars_collect_L0, dlt0, cond_false]
  · rw [runE_fold (fun (b : List Val) (v : Val) => b ++ [v]), foldl_snoc]
theorem M_collect {K : CallT} (hK : KFree K) : MeetsR U (callV C K) 34 ⟨[.ty 33, .ref (.map 9 4)], [], sCol⟩ :=
  meetsR_rec (U := U) (ak := [.ty 33, .ref (.map 9 4)]) (rts := []) totL sCol fun k ih => vars_collect_meets (kf hK 34 (by decide)) _ _ _ (M_isVar hK) (M_parts hK) ih _ fun a cs r h => by
    by_cases h1 : totL a < k + 1
    · have h2 : sCol a cs = some r := (if_pos h1).symm.trans h
      unfold sCol at h2
      by_cases h3 : totL a ≤ B
      · rw [if_pos h3] at h2; cases h2; exact ⟨_, col_walk a cs.1 k h1 h3⟩
      · rw [if_neg h3] at h2; cases h2
    · have h2 : none = some r := (if_neg h1).symm.trans h
      cases h2
/-! great, all of them: its own form is its spec -/
noncomputable def sGreatC (c : List Cus) : Option Bool := if okCu c then ref30_Great sGreat sSize (c.length + 2) c else none
theorem M_GreatC {K : CallT} (hK : KFree K) : Meets U (callV C K) 5 ⟨true, [.ty 22], [4], sGreatC⟩ :=
  ref30_Great_meets (kf hK 5 (by decide)) _ _ (M_Great hK) (M_Size hK) _ fun a r h => by
    unfold sGreatC at h
    split at h
    · exact ⟨_, h⟩
    · cases h
theorem greatC_some {c : List Cus} (h : okCu c) : ∃ b, sGreatC c = some b := by
  have hB : B = 2 ^ 36 := rfl
  have hV : V = 2 ^ 24 := rfl
  unfold sGreatC
  rw [if_pos h]
  unfold ref30_Great loop3
  have main : ∀ (r : List Cus) (i : Nat) (acc : Int) (fuel : Nat), c.drop i = r → i ≤ c.length → r.length + 1 < fuel → ∃ b, loopT (fun y k_1 => ref30_Great_L0 sGreat sSize (c.length + 2) c (fun z1 z2 =>
      Option.bind (some (bif decide ((c.length : Int) > 70) then true else decide (z2 > 1500))) fun m3 => some m3) (fun z4 => some z4) y.1 y.2.1 y.2.2.1 fun a0 a1 a2 => k_1 (a0, a1, a2, ())) fuel (false, acc, (i : Int), ()) = some b := by
    intro r
    induction r with
    | nil =>
      intro i acc fuel hr hi hf
      obtain ⟨n, rfl⟩ : ∃ n, fuel = n + 1 := ⟨fuel - 1, by omega⟩
      have : i = c.length := by
        have := congrArg List.length hr
        simp at this; omega
      subst this
      simp only [loopT, ref30_Great_L0, dlt0, cond_false, Option.bind_some]
      exact ⟨_, rfl⟩
    | cons v r ih =>
      intro i acc fuel hr hi hf
      obtain ⟨n, rfl⟩ : ∃ n, fuel = n + 1 := ⟨fuel - 1, by omega⟩
      have hv : c[i]? = some v := by
        have := congrArg (fun x => x[0]?) hr
        simpa using this
      have hlt : i < c.length := (List.getElem?_eq_some_iff.1 hv).1
      have hr' : c.drop (i + 1) = r := by rw [← List.drop_drop, hr]; rfl
      have hvm := h.2 v (List.mem_of_getElem? hv)
      have hl := h.1
      have hi2 : IntKind.i64.wrap ((i : Int) + 1) = ((i + 1 : Nat) : Int) := wrap_add1 (by omega)
      simp only [loopT, ref30_Great_L0, dlt hlt, cond_true, Option.bind_some, getI_nat hv, sGreat_of (show totL v.val ≤ B by omega), sSize_of (show totL v.val ≤ B by omega), hi2]
      cases decide ((i : Int) ≤ 70)
      · exact ⟨_, rfl⟩
      · simp only [cond_true]
        cases great v.val
        · simp only [Bool.not_false, cond_true, cond_false, Option.bind_some]
          cases decide ((v.name.length : Int) > 100)
          · exact ih (i + 1) _ n hr' (by omega) (by simp at hf; omega)
          · exact ⟨_, rfl⟩
        · exact ⟨_, rfl⟩
  exact main c 0 0 (c.length + 2) rfl (Nat.zero_le _) (by omega)
end Go.Tev.S1
namespace Go.Tev
open Go.Abs
/-! texts in order, each one once -/
def insT (x : List UInt8) : List (List UInt8) → List (List UInt8)
  | [] => [x]
  | y :: r => if Op.bytesLess y x then y :: insT x r else if y == x then y :: r else x :: y :: r
def sortT (l : List (List UInt8)) : List (List UInt8) := l.foldl (fun o x => insT x o) []
/-- how many are less -/
def kOf (x : List UInt8) : List (List UInt8) → Nat
  | [] => 0
  | y :: r => if Op.bytesLess y x then kOf x r + 1 else 0
theorem kOf_le (x : List UInt8) : ∀ l, kOf x l ≤ l.length
  | [] => Nat.le_refl _
  | y :: r => by
    have := kOf_le x r
    unfold kOf
    split <;> simp <;> omega
theorem insT_spec (x : List UInt8) : ∀ l, insT x l = match l[kOf x l]? with
    | some e => if e == x then l else l.take (kOf x l) ++ x :: l.drop (kOf x l)
    | none => l.take (kOf x l) ++ x :: l.drop (kOf x l)
  | [] => rfl
  | y :: r => by
    unfold insT kOf
    cases e : Op.bytesLess y x
    · simp only [Bool.false_eq_true, if_false, List.getElem?_cons_zero, List.take_zero, List.nil_append, List.drop_zero]
    · simp only [if_true, List.getElem?_cons_succ, List.take_succ_cons, List.drop_succ_cons, List.cons_append]
      rw [insT_spec x r]
      cases r[kOf x r]? with
      | none => rfl
      | some z =>
        simp only
        split <;> rfl
theorem insT_len (x : List UInt8) : ∀ l, (insT x l).length ≤ l.length + 1
  | [] => Nat.le_refl _
  | y :: r => by
    have := insT_len x r
    unfold insT
    split
    · simp; omega
    · split <;> simp
theorem getN {out : List (List UInt8)} {j : Nat} (h : j < out.length) (m : Nat) (hm : j < m) : (if 0 ≤ (j : Int) ∧ (j : Int) < (m : Int) ∧ (j : Int) < (out.length : Int) then some (j : Int).toNat else none) = some j := by
  rw [if_pos (by omega)]; rfl
end Go.Tev
namespace Go.Tev.S1
open Go.Abs Go.Proofs
theorem kfind_walk {R : Type} (n : Nat) (a0 a2 out : List (List UInt8)) (i : Int) (b : Bool) (x : List UInt8) (kx : Int → List (List UInt8) → Option R) (hx : getI a0 i = some x) (hl : out.length < 2 ^ 40) :
    ∀ (r : List (List UInt8)) (j fuel : Nat), out.drop j = r → j ≤ out.length → r.length < fuel → loop2 (ref30_Sorted_L2 n a0 a2 out.length i b kx) fuel (j : Int) out = kx ((j + kOf x r : Nat) : Int) out := by
  intro r
  induction r with
  | nil =>
    intro j fuel hr hj hf
    obtain ⟨f, rfl⟩ : ∃ f, fuel = f + 1 := ⟨fuel - 1, by omega⟩
    have : j = out.length := by
      have := congrArg List.length hr
      simp at this; omega
    subst this
    rw [loop2_succ]
    simp only [ref30_Sorted_L2, dlt0, cond_false, Option.bind_some]
    rfl
  | cons v r ih =>
    intro j fuel hr hj hf
    obtain ⟨f, rfl⟩ : ∃ f, fuel = f + 1 := ⟨fuel - 1, by omega⟩
    have hv : out[j]? = some v := by
      have := congrArg (fun x => x[0]?) hr
      simpa using this
    have hlt : j < out.length := (List.getElem?_eq_some_iff.1 hv).1
    have hr' : out.drop (j + 1) = r := by rw [← List.drop_drop, hr]; rfl
    rw [loop2_succ]
    simp only [ref30_Sorted_L2, dlt hlt, cond_true, getN hlt _ hlt, Option.bind_some, hv, hx, wrap_add1 (show j + 1 < 2 ^ 63 by omega)]
    unfold kOf
    cases e : Op.bytesLess v x
    · simp only [cond_false, Bool.false_eq_true, if_false, Nat.add_zero]
    · simp only [cond_true, if_true]
      rw [ih (j + 1) f hr' (by omega) (by simp at hf; omega)]
      rw [show j + 1 + kOf x r = j + (kOf x r + 1) by omega]
theorem shift_walk {R : Type} (n : Nat) (a0 a2 out : List (List UInt8)) (i : Int) (b q : Bool) (k : Nat) (kx : Int → List (List UInt8) → Option R) (hl : out.length < 2 ^ 40) :
    ∀ (d fuel : Nat) (g : List UInt8), k + d ≤ out.length → d < fuel → ∃ g', loop2 (ref30_Sorted_L4 n a0 a2 (out.length + 1) i b (k : Int) q kx) fuel ((k + d : Nat) : Int) (out.take (k + d) ++ g :: out.drop (k + d)) = kx (k : Int) (out.take k ++ g' :: out.drop k) := by
  intro d
  induction d with
  | zero =>
    intro fuel g h1 hf
    obtain ⟨f, rfl⟩ : ∃ f, fuel = f + 1 := ⟨fuel - 1, by omega⟩
    refine ⟨g, ?_⟩
    rw [loop2_succ]
    have : decide (((k + 0 : Nat) : Int) > (k : Int)) = false := by simp
    simp only [ref30_Sorted_L4, this, cond_false]
    rfl
  | succ d ih =>
    intro fuel g h1 hf
    obtain ⟨f, rfl⟩ : ∃ f, fuel = f + 1 := ⟨fuel - 1, by omega⟩
    have hj : k + d < out.length := by omega
    obtain ⟨g', hg⟩ := ih f out[k + d] (by omega) (by omega)
    refine ⟨g', ?_⟩
    rw [← hg, loop2_succ]
    have h2 : decide (((k + (d + 1) : Nat) : Int) > (k : Int)) = true := by simp; omega
    have h3 : IntKind.i64.wrap (((k + (d + 1) : Nat) : Int) - 1) = ((k + d : Nat) : Int) := by
      rw [wrap_id (by omega) (by omega)]; omega
    have hlen : (out.take (k + (d + 1)) ++ g :: out.drop (k + (d + 1))).length = out.length + 1 := by
      simp; omega
    have h4 := getN (out := out.take (k + (d + 1)) ++ g :: out.drop (k + (d + 1))) (j := k + d) (by omega) (out.length + 1) (by omega)
    have h5 := getN (out := out.take (k + (d + 1)) ++ g :: out.drop (k + (d + 1))) (j := k + (d + 1)) (by omega) (out.length + 1) (by omega)
    have h6 : (out.take (k + (d + 1)) ++ g :: out.drop (k + (d + 1)))[k + d]? = some out[k + d] := by
      rw [List.getElem?_append_left (by simp; omega), List.getElem?_take, if_pos (by omega)]
      exact List.getElem?_eq_getElem hj
    have h7 : (out.take (k + (d + 1)) ++ g :: out.drop (k + (d + 1))).set (k + (d + 1)) out[k + d] = out.take (k + d) ++ out[k + d] :: out.drop (k + d) := by
      rw [List.set_append_right _ _ (by simp; omega)]
      have : k + (d + 1) - (out.take (k + (d + 1))).length = 0 := by simp; omega
      rw [this, List.set_cons_zero]
      rw [show k + (d + 1) = k + d + 1 by omega, List.take_succ_eq_append_getElem hj, List.append_assoc]
      congr 1
      simp only [List.cons_append, List.nil_append]
      rw [← List.drop_eq_getElem_cons hj]
    simp only [ref30_Sorted_L4, h2, cond_true, h3, h4, h5, h6, Option.bind_some]
    rw [if_pos (by rw [hlen]; omega)]
    simp only [Option.bind_some, h7]
theorem sortT_len (l : List (List UInt8)) : (sortT l).length ≤ l.length := by
  have : ∀ (l o : List (List UInt8)), (l.foldl (fun o x => insT x o) o).length ≤ o.length + l.length := by
    intro l
    induction l with
    | nil => intro o; simp
    | cons x l ih =>
      intro o
      have h1 := ih (insT x o)
      have h2 := insT_len x o
      simp only [List.foldl_cons, List.length_cons]
      omega
  simpa [sortT] using this l []
/-- one round -/
theorem round_walk {R : Type} (n : Nat) (a0 a2 out : List (List UInt8)) (kx0 : Nat → List (List UInt8) → Option R) (k : Nat → Int → List (List UInt8) → Option R) (i : Nat) (x : List UInt8) (hx : a0[i]? = some x) (hl : out.length < 2 ^ 39) (hi : i < 2 ^ 39) (hn : out.length + 1 < n) :
    ref30_Sorted_L0 n a0 a2 kx0 out.length (i : Int) out k = k (insT x out).length ((i + 1 : Nat) : Int) (insT x out) := by
  have hlt : i < a0.length := (List.getElem?_eq_some_iff.1 hx).1
  have hk := kOf_le x out
  unfold ref30_Sorted_L0
  have hf := fun kx b => kfind_walk (R := R) n a0 a2 out (i : Int) b x kx (getI_nat hx) (by omega) out 0 n rfl (Nat.zero_le _) (by omega)
  simp only [Nat.zero_add, Int.ofNat_zero] at hf
  rw [dlt hlt, cond_true]
  refine (hf _ _).trans ?_
  simp only [wrap_add1 (show i + 1 < 2 ^ 63 by omega)]
  rw [insT_spec]
  rcases Nat.lt_or_ge (kOf x out) out.length with h1 | h1
  · obtain ⟨e, he⟩ : ∃ e, out[kOf x out]? = some e := ⟨_, List.getElem?_eq_getElem h1⟩
    simp only [dlt h1, cond_true, getN h1 _ h1, Option.bind_some, he, getI_nat hx]
    cases e2 : (e == x)
    · simp only [cond_false, if_true, Bool.false_eq_true, if_false, room_of (b := 16) (n := out.length + [([] : List UInt8)].length) (by simp; omega) (by decide), Option.bind_some]
      have h3 : IntKind.i64.wrap (((out ++ [([] : List UInt8)]).length : Int) - 1) = ((kOf x out + (out.length - kOf x out) : Nat) : Int) := by
        rw [wrap_id (by simp <;> omega) (by simp <;> omega)]; simp <;> omega
      have h4 : out ++ [([] : List UInt8)] = out.take (kOf x out + (out.length - kOf x out)) ++ [] :: out.drop (kOf x out + (out.length - kOf x out)) := by
        rw [show kOf x out + (out.length - kOf x out) = out.length by omega]; simp
      rw [h3]
      have h5 : (out ++ [([] : List UInt8)]).length = out.length + 1 := by simp
      rw [h5]
      rw [h4]
      obtain ⟨g', hg⟩ := shift_walk (R := R) n a0 a2 out (i : Int) true false (kOf x out) (fun z21 z22 => Option.bind (getI a0 (i : Int)) fun x23 =>
  Option.bind (if 0 ≤ ((kOf x out : Nat) : Int) ∧ ((kOf x out : Nat) : Int) < ((out.length + 1 : Nat) : Int) ∧ ((kOf x out : Nat) : Int) < z22.length then some ((kOf x out : Nat) : Int).toNat else none) fun i24 =>
  Option.bind (if i24 < z22.length then some (z22.set i24 x23) else none) fun a25 =>
  k (out.length + 1) ((i + 1 : Nat) : Int) a25) (by omega) (out.length - kOf x out) n [] (by omega) (by omega)
      refine Eq.trans ?_ (hg.trans ?_)
      · simp only [getI_nat hx, Option.bind_some]
      · have hlen : (out.take (kOf x out) ++ g' :: out.drop (kOf x out)).length = out.length + 1 := by simp; omega
        have h6 := getN (out := out.take (kOf x out) ++ g' :: out.drop (kOf x out)) (j := kOf x out) (by omega) (out.length + 1) (by omega)
        simp only [getI_nat hx, Option.bind_some, h6]
        rw [if_pos (by rw [hlen]; omega)]
        simp only [Option.bind_some]
        have h7 : (out.take (kOf x out) ++ g' :: out.drop (kOf x out)).set (kOf x out) x = out.take (kOf x out) ++ x :: out.drop (kOf x out) := by
          rw [List.set_append_right _ _ (by simp; omega)]
          have : kOf x out - (out.take (kOf x out)).length = 0 := by simp; omega
          rw [this, List.set_cons_zero]
        rw [h7]
        have : (out.take (kOf x out) ++ x :: out.drop (kOf x out)).length = out.length + 1 := by simp; omega
        rw [this]
    · simp only [cond_true, if_true]
  · have hk2 : kOf x out = out.length := by omega
    have e0 : out[kOf x out]? = none := by rw [List.getElem?_eq_none]; omega
    rw [hk2] at e0 ⊢
    simp only [e0, dlt0, cond_false, Option.bind_some, if_true, room_of (b := 16) (n := out.length + [([] : List UInt8)].length) (by simp; omega) (by decide)]
    have h3 : IntKind.i64.wrap (((out ++ [([] : List UInt8)]).length : Int) - 1) = ((out.length + 0 : Nat) : Int) := by
      rw [wrap_id (by simp <;> omega) (by simp <;> omega)]; simp
    have h5 : (out ++ [([] : List UInt8)]).length = out.length + 1 := by simp
    have h4 : out ++ [([] : List UInt8)] = out.take (out.length + 0) ++ [] :: out.drop (out.length + 0) := by simp
    rw [h3, h5, h4]
    obtain ⟨g', hg⟩ := shift_walk (R := R) n a0 a2 out (i : Int) true false out.length (fun z21 z22 => Option.bind (getI a0 (i : Int)) fun x23 =>
  Option.bind (if 0 ≤ ((out.length : Nat) : Int) ∧ ((out.length : Nat) : Int) < ((out.length + 1 : Nat) : Int) ∧ ((out.length : Nat) : Int) < z22.length then some ((out.length : Nat) : Int).toNat else none) fun i24 =>
  Option.bind (if i24 < z22.length then some (z22.set i24 x23) else none) fun a25 =>
  k (out.length + 1) ((i + 1 : Nat) : Int) a25) (by omega) 0 n [] (by omega) (by omega)
    refine Eq.trans ?_ (hg.trans ?_)
    · simp only [getI_nat hx, Option.bind_some]
    · have hlen : (out.take out.length ++ g' :: out.drop out.length).length = out.length + 1 := by simp
      have h6 := getN (out := out.take out.length ++ g' :: out.drop out.length) (j := out.length) (by omega) (out.length + 1) (by omega)
      simp only [getI_nat hx, Option.bind_some, h6]
      rw [if_pos (by rw [hlen]; omega)]
      simp only [Option.bind_some]
      have h7 : (out.take out.length ++ g' :: out.drop out.length).set out.length x = out.take out.length ++ x :: out.drop out.length := by
        rw [List.set_append_right _ _ (by simp)]
        simp
      rw [h7]
      have : (out.take out.length ++ x :: out.drop out.length).length = out.length + 1 := by simp
      rw [this]
def sSorted (l : List (List UInt8)) : Option (List (List UInt8)) := if l.length ≤ B then some (sortT l) else none
theorem sSorted_of {l : List (List UInt8)} (h : l.length ≤ B) : sSorted l = some (sortT l) := if_pos h
theorem Sorted_walk (l : List (List UInt8)) (h : l.length ≤ B) : ref30_Sorted (l.length + 3) l = some (sortT l) := by
  have hB : B = 2 ^ 36 := rfl
  unfold ref30_Sorted
  cases l with
  | nil => rfl
  | cons x l =>
    have hlt : 0 < (x :: l).length := by simp
    have h0 : decide ((0 : Int) < ((x :: l).length : Int)) = true := by simp
    rw [h0, cond_true]
    have g0 : getI (x :: l) (0 : Int) = some x := getI_nat (i := 0) rfl
    rw [loop1_succ]
    have d0 : decide ((0 : Int) < (([] : List (List UInt8)).length : Int)) = false := rfl
    simp only [ref30_Sorted_L102, d0, cond_false, Option.bind_some]
    have r0 : room 16 ([([] : List UInt8)].length) = some () := room_of (by decide) (by decide)
    rw [r0]
    simp only [Option.bind_some]
    have w0 : IntKind.i64.wrap ((([([] : List UInt8)].length) : Int) - (1 : Int)) = 0 := by decide
    rw [w0, loop2_succ]
    have d1 : decide ((0 : Int) > 0) = false := rfl
    simp only [ref30_Sorted_L104, d1, cond_false, g0, Option.bind_some]
    have w1 : IntKind.i64.wrap ((0 : Int) + 1) = ((1 : Nat) : Int) := by decide
    rw [w1]
    have e1 : (if 0 ≤ (0 : Int) ∧ (0 : Int) < ([([] : List UInt8)].length : Int) ∧ (0 : Int) < ([([] : List UInt8)].length : Int) then some (0 : Int).toNat else none) = some 0 := rfl
    rw [e1]
    simp only [Option.bind_some]
    have e2 : (if 0 < [([] : List UInt8)].length then some ([([] : List UInt8)].set 0 x) else none) = some [x] := rfl
    rw [e2]
    simp only [Option.bind_some]
    have main := loopT_list (R := List (List UInt8)) (g := fun y k => ref30_Sorted_L0 ((x :: l).length + 3) (x :: l) [] (fun z11 z12 => Option.bind (if z11 ≤ z12.length then some (z12.take z11) else none) fun f13 => some f13) y.1 y.2.1 y.2.2.1 (fun a0 a1 a2 => k (a0, a1, a2, ()))) (x :: l)
      (fun i (b : List (List UInt8)) => (b.length, (i : Int), b, ())) (fun b v => .inl (insT v b)) (fun b => some b) (fun i b => b.length ≤ i)
      (fun i b v k hv hi hb => by
        simp only
        exact round_walk _ _ _ _ _ _ i v hv (by simp at h hi; omega) (by simp at h hi; omega) (by simp at h hi ⊢; omega))
      (fun i b v b' hv hb hs => by
        cases hs
        have := insT_len v b
        omega)
      (fun b k hb => by
        simp only [ref30_Sorted_L0, dlt0, cond_false]
        rw [if_pos (Nat.le_refl _), List.take_length]
        rfl) l ((x :: l).length + 3) 1 [x] rfl (by simp) (Nat.le_refl _) (by simp; omega)
    refine Eq.trans ?_ (main.trans ?_)
    · rfl
    · rw [runE_fold (fun (b : List (List UInt8)) v => insT v b)]
      rfl
theorem M_Sorted {K : CallT} (hK : KFree K) : Meets U (callV C K) 37 ⟨false, [.ty 40], [40], sSorted⟩ :=
  ref30_Sorted_meets (kf hK 37 (by decide)) _ fun a r h => by
    unfold sSorted at h
    split at h
    · rename_i h3; cases h; exact ⟨_, Sorted_walk a h3⟩
    · cases h
end Go.Tev.S1
