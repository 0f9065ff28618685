/- A certified evaluator for the walked functions, and their contracts, for the laws of the variables. -/
import Derived.Test.YtnmlodkomklpfaaGreatLG
set_option linter.unusedVariables false
set_option linter.unusedSimpArgs false
namespace Go.Tev
open Go.Abs
section
variable {x : Cx} {ρ : List Rf} {h0 : Base} {s s' : TSt x.X} {a : St}
def ZzN {X : Nat → Type} (k : Nat) : TX X → Bool
  | .sp k' _ => Nat.beq k' k
  | _ => false
def ZnJ (k : Nat) : XV → Bool
  | .sp k' _ => Nat.beq k' k
  | _ => false
theorem Zft {X : Nat → Type} (k t : Nat) (e : TE X) (r : List (Nat × TE X)) : ZiQ k ((t, e) :: r) = (!ZzN k e.x && ZiQ k r) := by
  obtain ⟨g, y⟩ := e
  cases y <;> simp only [ZiQ, ZzN] <;> (try simp)
theorem Zgz (k t : Nat) (e : XV) (r : List (Nat × XV)) : Zd2 k ((t, e) :: r) = (!ZnJ k e && Zd2 k r) := by
  cases e <;> simp only [Zd2, ZnJ] <;> (try simp)
theorem ZlK {X : Nat → Type} (k t : Nat) (e : TE X) : ∀ (l : List (Nat × TE X)), (∀ e', Zab l t = some e' → ZzN k e'.x = false) → ZiQ k (ins l t e) = (!ZzN k e.x && ZiQ k l)
  | [], _ => by simp only [ins, Zft, ZiQ]
  | (t', e') :: r, h => by
    simp only [ins]
    cases hb : Nat.blt t' t with
    | true => simp only [cond_true, Zft]
    | false =>
      simp only [cond_false]
      simp only [Zab] at h
      cases he : Nat.beq t' t with
      | true =>
        rw [he] at h
        have := h e' rfl
        simp only [cond_true, Zft, this, Bool.not_false, Bool.true_and]
      | false =>
        rw [he] at h
        simp only [cond_false, Zft, ZlK k t e r (by simpa using h)]
        cases ZzN k e'.x <;> cases ZzN k e.x <;> simp
theorem Zoy (k t : Nat) (e : XV) : ∀ (l : List (Nat × XV)), (∀ e', Zab l t = some e' → ZnJ k e' = false) → Zd2 k (ins l t e) = (!ZnJ k e && Zd2 k l)
  | [], _ => by simp only [ins, Zgz, Zd2]
  | (t', e') :: r, h => by
    simp only [ins]
    cases hb : Nat.blt t' t with
    | true => simp only [cond_true, Zgz]
    | false =>
      simp only [cond_false]
      simp only [Zab] at h
      cases he : Nat.beq t' t with
      | true =>
        rw [he] at h
        have := h e' rfl
        simp only [cond_true, Zgz, this, Bool.not_false, Bool.true_and]
      | false =>
        rw [he] at h
        simp only [cond_false, Zgz, Zoy k t e r (by simpa using h)]
        cases ZnJ k e' <;> cases ZnJ k e <;> simp
theorem Zzm {y : TX x.X} {z : XV} (h : XRel x.U ρ y z) (k : Nat) : ZnJ k z = ZzN k y := by cases h <;> rfl
def YcG {X : Nat → Type} (s : TSt X) (ch : Zb6) : Prop := ∀ p ∈ ch, (Zab s.tmp p.1).isSome = true
theorem Zic {X : Nat → Type} {s : TSt X} {t : Nat} {e : TE X} {g : Zb6} (hn : Zab s.tmp t = none) (hg : YcG s g) : holds { s with tmp := ins s.tmp t e } g ↔ holds s g := by
  unfold holds
  constructor
  · intro h p hp
    obtain ⟨c, hc⟩ := h p hp
    simp only [Za2] at hc
    have := hg p hp
    cases hb : Nat.beq t p.1 with
    | true => rw [← Nat.eq_of_beq_eq_true hb, hn] at this; cases this
    | false => rw [hb] at hc; exact ⟨c, by simpa using hc⟩
  · intro h p hp
    obtain ⟨c, hc⟩ := h p hp
    refine ⟨c, ?_⟩
    simp only [Za2]
    cases hb : Nat.beq t p.1 with
    | true => rw [← Nat.eq_of_beq_eq_true hb, hn] at hc; cases hc
    | false => simpa using hc
theorem ER.put {e : List (Nat × TSV x.X)} {env : List (Nat × SV)} (h : ER x.U ρ e env) (t : Nat) {v : TSV x.X} {w : SV} (hv : SRel x.U ρ v w) : ER x.U ρ (Zdk e t v) (Zdk env t w) := by
  intro t' v' h'
  rw [ZaN] at h'
  rw [ZaN]
  cases hb : Nat.beq t t' with
  | true => rw [hb] at h'; simp only [cond_true, Option.some.injEq] at h'; subst h'; exact ⟨w, rfl, hv⟩
  | false => rw [hb] at h'; exact h t' v' (by simpa using h')
theorem TR.put {tmp : List (Nat × XV)} (h : TR x.U ρ s tmp) {t : Nat} {ch : Zb6} {y : TX x.X} {z : XV} (hn : Zab s.tmp t = none) (hc : YcG s ch) (h1 : holds s ch → XRel x.U ρ y z) (h2 : ¬ holds s ch → z = .un) :
    TR x.U ρ { s with tmp := ins s.tmp t ⟨ch, y⟩ } (ins tmp t z) := by
  refine ⟨fun t' h' => ?_, fun t' e h' => ?_, fun t' e h' p hp => ?_, fun k h' => ?_⟩
  · simp only [Za2] at h' ⊢
    cases hb : Nat.beq t t' with
    | true => rw [hb] at h'; cases h'
    | false => rw [hb] at h'; exact h.no t' (by simpa using h')
  · simp only [Za2] at h' ⊢
    cases hb : Nat.beq t t' with
    | true =>
      rw [hb] at h'
      simp only [cond_true, Option.some.injEq] at h'
      subst h'
      refine ⟨z, rfl, fun hh => h1 ((Zic hn hc).1 hh), fun hh => h2 fun h3 => hh ((Zic hn hc).2 h3)⟩
    | false =>
      rw [hb] at h'
      obtain ⟨w, k1, k2, k3⟩ := h.yes t' e (by simpa using h')
      have hwf : YcG s e.g := h.wf t' e (by simpa using h')
      exact ⟨w, k1, fun hh => k2 ((Zic hn hwf).1 hh), fun hh => k3 fun h4 => hh ((Zic hn hwf).2 h4)⟩
  · simp only [Za2] at h' ⊢
    cases hb : Nat.beq t t' with
    | true =>
      rw [hb] at h'
      simp only [cond_true, Option.some.injEq] at h'
      subst h'
      cases Nat.beq t p.1 with
      | true => rfl
      | false => exact hc p hp
    | false =>
      rw [hb] at h'
      cases Nat.beq t p.1 with
      | true => rfl
      | false => exact h.wf t' e (by simpa using h') p hp
  · simp only at h'
    rw [ZlK _ _ _ _ (fun e' he => by rw [hn] at he; cases he), Bool.and_eq_true] at h'
    rw [Zoy _ _ _ _ (fun e' he => by rw [h.no t hn] at he; cases he), Bool.and_eq_true]
    refine ⟨?_, h.nosp k h'.2⟩
    by_cases hh : holds s ch
    · rw [Zzm (h1 hh)]; exact h'.1
    · rw [h2 hh]; rfl
theorem Zek (r : Rel x.U ρ h0 s a) {fa : FA} {ch : Zb6} {dst : Option Tmp} {y : TX x.X} {z : XV} (hc : YcG s ch) (hh : holds s ch) (hy : XRel x.U ρ y z) (h : Zmm fa ch s dst y = some s') :
    ∃ a', a.put fa dst z = some a' ∧ Rel x.U ρ h0 s' a' := by
  cases dst with
  | none => simp only [Zmm, Option.some.injEq] at h; subst h; exact ⟨a, rfl, r⟩
  | some t =>
    simp only [Zmm] at h
    simp only [St.put]
    cases hb : Nat.blt t fa.nt with
    | false => rw [hb] at h; cases h
    | true =>
      rw [hb] at h
      simp only [cond_true] at h ⊢
      cases hk : has fa.keep t with
      | true =>
        rw [hk] at h
        simp only [cond_true] at h ⊢
        split at h
        · rename_i v hv
          simp only [Option.some.injEq] at h
          subst h
          have := hy.flat
          rw [hv] at this
          obtain ⟨w, hw, h1⟩ := this.isA
          rw [hw]
          exact ⟨_, rfl, r.env.put t (.val _ _ h1), ⟨r.tmp.no, r.tmp.yes, r.tmp.wf, r.tmp.nosp⟩, r.heap⟩
        · cases h
      | false =>
        rw [hk] at h
        simp only [cond_false] at h ⊢
        split at h
        · rename_i hn
          simp only [Option.some.injEq] at h
          subst h
          exact ⟨_, rfl, r.env, r.tmp.put hn hc (fun _ => hy) (fun h => absurd hh h), r.heap⟩
        · cases h
theorem Ydr (r : Rel x.U ρ h0 s a) {fa : FA} {ch : Zb6} {dst : Option Tmp} {y : TX x.X} (hc : YcG s ch) (hh : ¬ holds s ch) (h : Zmm fa ch s dst y = some s') :
    ∃ a', a.put fa dst .un = some a' ∧ Rel x.U ρ h0 s' a' := by
  cases dst with
  | none => simp only [Zmm, Option.some.injEq] at h; subst h; exact ⟨a, rfl, r⟩
  | some t =>
    simp only [Zmm] at h
    simp only [St.put]
    cases hb : Nat.blt t fa.nt with
    | false => rw [hb] at h; cases h
    | true =>
      rw [hb] at h
      simp only [cond_true] at h ⊢
      cases hk : has fa.keep t with
      | true =>
        rw [hk] at h
        simp only [cond_true] at h
        split at h
        · exact absurd (fun p hp => by simp at hp) hh
        · cases h
      | false =>
        rw [hk] at h
        simp only [cond_false] at h ⊢
        split at h
        · rename_i hn
          simp only [Option.some.injEq] at h
          subst h
          exact ⟨_, rfl, r.env, r.tmp.put hn hc (fun h => absurd h hh) (fun _ => rfl), r.heap⟩
        · cases h
theorem Zd0 {X : Nat → Type} (k : Nat) (l : List (Nat × TE X)) (t : Nat) : Zab (Zoe k l) t = (Zab l t).map fun e => match e.x with
    | .al k' e' xs => ⟨e.g, bif Nat.beq k' k then .a (.l e' xs) else .al k' e' xs⟩
    | _ => e := by
  induction l with
  | nil => rfl
  | cons e l ih =>
    obtain ⟨t', g, u⟩ := e
    cases u <;> simp only [Zoe, Zab, ih] <;> cases Nat.beq t' t <;> simp
theorem Zuy {X : Nat → Type} (k k' : Nat) (l : List (Nat × TE X)) : ZiQ k (Zoe k' l) = ZiQ k l := by
  induction l with
  | nil => rfl
  | cons e l ih =>
    obtain ⟨t', g, u⟩ := e
    cases u <;> simp only [Zoe, Zft, ih, ZzN]
    rename_i k2 e xs
    cases Nat.beq k2 k' <;> simp [ZzN]
theorem ZwT (k k' : Nat) (l : List (Nat × XV)) : Zd2 k (unal k' l) = Zd2 k l := by
  induction l with
  | nil => rfl
  | cons e l ih =>
    obtain ⟨t', u⟩ := e
    cases u <;> simp only [unal, Zgz, ih, ZnJ]
    rename_i k2 xs
    cases Nat.beq k2 k' <;> simp [ZnJ]
theorem holds_unal {X : Nat → Type} {s : TSt X} {k : Nat} {g : Zb6} {env : List (Nat × TSV X)} : holds { s with env := env, tmp := Zoe k s.tmp } g ↔ holds s g := by
  unfold holds
  constructor
  · intro h p hp
    obtain ⟨c, hc⟩ := h p hp
    simp only [Zd0, Option.map_eq_some_iff] at hc
    obtain ⟨e, h1, h2⟩ := hc
    refine ⟨e.g, ?_⟩
    rw [h1]
    obtain ⟨g', y⟩ := e
    cases y <;> simp only [TE.mk.injEq] at h2 ⊢ <;> (try (cases h2.2; done))
    · simp [h2.2]
    · rename_i k2 e xs
      cases hb : Nat.beq k2 k <;> rw [hb] at h2 <;> simp at h2
  · intro h p hp
    obtain ⟨c, hc⟩ := h p hp
    refine ⟨c, ?_⟩
    simp only [Zd0, hc, Option.map_some]
theorem TR.unal {tmp : List (Nat × XV)} (h : TR x.U ρ s tmp) (k : Nat) (env : List (Nat × TSV x.X)) : TR x.U ρ { s with env := env, tmp := Zoe k s.tmp } (unal k tmp) := by
  refine ⟨fun t' h' => ?_, fun t' e h' => ?_, fun t' e h' p hp => ?_, fun k h' => ?_⟩
  · simp only [Zd0, Option.map_eq_none_iff] at h'
    rw [Zg2, h.no t' h']; rfl
  · simp only [Zd0, Option.map_eq_some_iff] at h'
    obtain ⟨e', h1, h2⟩ := h'
    obtain ⟨y, k1, k2, k3⟩ := h.yes t' e' h1
    rw [Zg2, k1]
    have hg : e.g = e'.g := by
      obtain ⟨g', y'⟩ := e'
      cases y' <;> simp only at h2 <;> subst h2 <;> rfl
    refine ⟨_, rfl, fun hh => ?_, fun hh => ?_⟩
    · have := k2 (by rw [← hg]; exact holds_unal.1 hh)
      obtain ⟨g', y'⟩ := e'
      cases this <;> simp only at h2 <;> subst h2 <;> (try exact this)
      · rename_i hv; exact .a _ _ hv
      · exact .sp _ _
      · rename_i hd; exact .fp _ _ hd
      · rename_i hj; exact .ap _ _ _ _ _ _ hj
      · exact .own _ _
      · rename_i k' e xs
        cases hb : Nat.beq k' k with
        | true => simp only [hb, cond_true]; exact .a _ _ (.d _ _ rfl)
        | false => simp only [hb, cond_false]; exact .al _ _ _
      · exact .un
    · have := k3 fun h3 => hh (holds_unal.2 (by rw [hg]; exact h3))
      subst this
      rfl
  · simp only [Zd0, Option.map_eq_some_iff] at h'
    obtain ⟨e', h1, h2⟩ := h'
    have hg : e.g = e'.g := by
      obtain ⟨g', y'⟩ := e'
      cases y' <;> simp only at h2 <;> subst h2 <;> rfl
    have := h.wf t' e' h1 p (hg ▸ hp)
    simp only [Zd0, Option.isSome_map]
    exact this
  · simp only [Zuy] at h'
    rw [ZwT]
    exact h.nosp k h'
theorem ZkI (r : Rel x.U ρ h0 s a) {fa : FA} {dst : Option Tmp} {e : Nat} {xs : List (x.X e)} (h : Zgf fa s dst e xs = some s') : ∃ a', a.putOwn fa dst (xs.map (x.U.enc e)) = some a' ∧ Rel x.U ρ h0 s' a' := by
  cases dst with
  | none => simp [Zgf] at h
  | some t =>
    simp only [Zgf] at h
    simp only [St.putOwn]
    cases hb : Nat.blt t fa.nt with
    | false => rw [hb] at h; cases h
    | true =>
      rw [hb] at h
      simp only [cond_true] at h ⊢
      cases hk : has fa.keep t with
      | true =>
        rw [hk] at h
        simp only [cond_true, Option.some.injEq] at h ⊢
        subst h
        exact ⟨_, rfl, r.env.put t (.own _ _), r.tmp.unal _ _, r.heap⟩
      | false =>
        rw [hk] at h
        simp only [cond_false] at h ⊢
        split at h
        · rename_i hn
          simp only [Option.some.injEq] at h
          subst h
          exact ⟨_, rfl, r.env, r.tmp.put hn (fun p hp => by simp at hp) (fun _ => .own _ _) (fun h => absurd (fun p hp => by simp at hp) h), r.heap⟩
        · cases h
theorem Zax {X : Nat → Type} (s : TSt X) : holds s [] := fun p hp => by simp at hp
theorem Zm0 (r : Rel x.U ρ h0 s a) (k : Nat) : Rel x.U ρ h0 (ZeX s k) (a.loseEnv k) := by
  unfold ZeX St.loseEnv
  cases hk : Zab s.env k with
  | none =>
    simp only
    cases ha : Zab a.env k with
    | none => exact r
    | some w =>
      cases w with
      | own es =>
        refine ⟨fun t v hv => ?_, ⟨r.tmp.no, r.tmp.yes, r.tmp.wf, r.tmp.nosp⟩, r.heap⟩
        obtain ⟨w, h1, h2⟩ := r.env t v hv
        refine ⟨w, ?_, h2⟩
        simp only [ZaN]
        cases hb : Nat.beq k t with
        | true => rw [← Nat.eq_of_beq_eq_true hb, hk] at hv; cases hv
        | false => simpa using h1
      | _ => exact r
  | some v =>
    obtain ⟨w, h1, h2⟩ := r.env k v hk
    cases h2 with
    | val v w h3 => simp only [h1]; exact r
    | own e xs =>
      simp only [h1]
      exact ⟨r.env.put k (.val _ _ (.d _ _ rfl)), ⟨r.tmp.no, r.tmp.yes, r.tmp.wf, r.tmp.nosp⟩, r.heap⟩
    | box cs ds h3 => simp only [h1]; exact r
theorem Yay (r : Rel x.U ρ h0 s a) {ty : Nat} {o : Operand} {e : Nat} {xs : List (x.X e)} (h : ZwZ x s ty o = some ⟨e, xs⟩) :
    Zbx a o = some (xs.map (x.U.enc e)) ∧ Rel x.U ρ h0 (Zj6 s o) (a.lose o) ∧ ∃ es, opd a o = some (.a (.d (.slc es))) := by
  cases o with
  | tmp t =>
    simp only [ZwZ] at h
    cases ht : Zab s.tmp t with
    | some en =>
      rw [ht] at h
      obtain ⟨g, y⟩ := en
      obtain ⟨z, h1, h2, -⟩ := r.tmp.yes t _ ht
      cases g with
      | cons => simp at h
      | nil =>
        replace h2 := h2 (Zax s)
        cases y <;> simp only at h <;> (try (cases h; done))
        · rename_i e' xs'
          simp only [Option.some.injEq, Sigma.mk.injEq] at h
          obtain ⟨rfl, h⟩ := h
          simp only [heq_eq_eq] at h
          subst h
          cases h2
          refine ⟨by simp only [Zbx, h1], ?_, ⟨xs'.map (x.U.enc e'), by simp only [opd, opx, h1]; rfl⟩⟩
          simp only [Zj6, ht, St.lose, h1]
          refine ⟨r.env, ⟨fun t' h' => ?_, fun t' en h' => ?_, fun t' en h' p hp => ?_, fun k h' => ?_⟩, r.heap⟩
          · simp only [Za2] at h' ⊢
            cases hb : Nat.beq t t' with
            | true => rw [hb] at h'; cases h'
            | false => rw [hb] at h'; exact r.tmp.no t' (by simpa using h')
          · have hold : ∀ g, holds { s with tmp := ins s.tmp t ⟨[], .a (.l e' xs')⟩ } g ↔ holds s g := by
              intro g
              unfold holds
              constructor
              · intro h p hp
                obtain ⟨c, hc⟩ := h p hp
                simp only [Za2] at hc
                cases hb : Nat.beq t p.1 with
                | true => rw [hb] at hc; simp at hc
                | false => rw [hb] at hc; exact ⟨c, by simpa using hc⟩
              · intro h p hp
                obtain ⟨c, hc⟩ := h p hp
                refine ⟨c, ?_⟩
                simp only [Za2]
                cases hb : Nat.beq t p.1 with
                | true => rw [← Nat.eq_of_beq_eq_true hb, ht] at hc; simp at hc
                | false => simpa using hc
            simp only [Za2] at h' ⊢
            cases hb : Nat.beq t t' with
            | true =>
              rw [hb] at h'
              simp only [cond_true, Option.some.injEq] at h'
              subst h'
              exact ⟨_, rfl, fun _ => .a _ _ (.d _ _ rfl), fun hh => absurd (Zax _) hh⟩
            | false =>
              rw [hb] at h'
              obtain ⟨w, k1, k2, k3⟩ := r.tmp.yes t' en (by simpa using h')
              exact ⟨w, k1, fun hh => k2 ((hold _).1 hh), fun hh => k3 fun h4 => hh ((hold _).2 h4)⟩
          · simp only [Za2] at h' ⊢
            cases hb : Nat.beq t t' with
            | true =>
              rw [hb] at h'
              simp only [cond_true, Option.some.injEq] at h'
              subst h'
              simp at hp
            | false =>
              rw [hb] at h'
              cases Nat.beq t p.1 with
              | true => rfl
              | false => exact r.tmp.wf t' en (by simpa using h') p hp
          · simp only at h'
            rw [ZlK _ _ _ _ (fun e' he => by rw [ht] at he; cases he; rfl), Bool.and_eq_true] at h'
            rw [Zoy _ _ _ _ (fun e' he => by rw [h1] at he; cases he; rfl), Bool.and_eq_true]
            exact ⟨rfl, r.tmp.nosp k h'.2⟩
        · rename_i k e' xs'
          cases h2
          split at h
          · rename_i e2 xs2 hk
            simp only [Option.some.injEq, Sigma.mk.injEq] at h
            obtain ⟨rfl, h⟩ := h
            simp only [heq_eq_eq] at h
            subst h
            obtain ⟨w, h3, h4⟩ := r.env _ _ hk
            cases h4
            exact ⟨by simp only [Zbx, h1, h3], by simp only [Zj6, ht, St.lose, h1]; exact Zm0 r k, ⟨xs'.map (x.U.enc e'), by simp only [opd, opx, h1]; rfl⟩⟩
          · cases h
    | none =>
      rw [ht] at h
      have h1 := r.tmp.no t ht
      simp only at h
      split at h
      · rename_i e2 xs2 hk
        simp only [Option.some.injEq, Sigma.mk.injEq] at h
        obtain ⟨rfl, h⟩ := h
        simp only [heq_eq_eq] at h
        subst h
        obtain ⟨w, h3, h4⟩ := r.env _ _ hk
        cases h4
        exact ⟨by simp only [Zbx, h1, h3], by simp only [Zj6, ht, St.lose, h1]; exact Zm0 r t, ⟨_, by simp only [opd, opx, h1, h3]; rfl⟩⟩
      · cases h
  | const v =>
    cases v <;> simp only [ZwZ] at h <;> (try (cases h; done))
    rename_i ad l c
    cases ad with
    | some ad => simp [ZwZ] at h
    | none =>
      cases l with
      | succ l => simp [ZwZ] at h
      | zero =>
        cases c with
        | succ c => simp [ZwZ] at h
        | zero =>
          simp only [ZwZ] at h
          split at h
          · rename_i e' he
            simp only [Option.some.injEq, Sigma.mk.injEq] at h
            obtain ⟨rfl, h⟩ := h
            simp only [heq_eq_eq] at h
            subst h
            exact ⟨rfl, r, ⟨[], rfl⟩⟩
          · cases h
  | func f => simp [ZwZ] at h
  | global g => simp [ZwZ] at h
theorem Zwj (r : Rel x.U ρ h0 s a) {o : Operand} (h : Zm3 s o = true) : Zbx a o = none := by
  cases o with
  | tmp t =>
    simp only [Zm3] at h
    cases ht : Zab s.tmp t with
    | some en =>
      rw [ht] at h
      obtain ⟨g, y⟩ := en
      obtain ⟨z, h1, h2, -⟩ := r.tmp.yes t _ ht
      cases g with
      | cons => simp at h
      | nil =>
        replace h2 := h2 (Zax s)
        cases y <;> simp only at h <;> (try (cases h; done))
        cases h2
        simp only [Zbx, h1]
    | none =>
      rw [ht] at h
      simp only at h
      have h1 := r.tmp.no t ht
      split at h
      · rename_i v hk
        obtain ⟨w, h3, h4⟩ := r.env _ _ hk
        cases h4
        simp only [Zbx, h1, h3]
      · cases h
  | const v =>
    cases v <;> (try rfl)
    rename_i ad l c
    cases ad with
    | some ad => rfl
    | none =>
      cases l with
      | succ l => rfl
      | zero =>
        cases c with
        | succ c => rfl
        | zero => simp [Zm3] at h
  | func f => rfl
  | global g => rfl
end
end Go.Tev
namespace Go.Tev
open Go.Abs
section
variable {x : Cx} {ρ : List Rf} {h0 : Base} {s s' : TSt x.X} {a : St}
theorem Zu9 {α : Type} {b : Bool} {q : Option α} {y : α} (h : (bif b then q else none) = some y) : b = true ∧ q = some y := by
  cases b with
  | false => cases h
  | true => exact ⟨rfl, h⟩
theorem ZmS {α : Type} : ∀ {l : List (Nat × α)} {t : Nat} {v : α}, Zab l t = some v → (t, v) ∈ l
  | [], t, v, h => by simp [Zab] at h
  | (k, u) :: l, t, v, h => by
    simp only [Zab] at h
    cases hb : Nat.beq k t with
    | true =>
      rw [hb] at h
      simp only [cond_true, Option.some.injEq] at h
      subst h
      rw [Nat.eq_of_beq_eq_true hb]
      exact List.mem_cons_self
    | false => rw [hb] at h; exact List.mem_cons_of_mem _ (ZmS h)
theorem Zya (ok : x.U.Ok x.C) (ts : List Nat) : ∀ (ws : List (TV x.X)) (y : PX x.X ts) (f : PX x.X ts → List (TV x.X)), Zjj x.U ts ws = some y → Zgh x.U ts = some f → dvL x.U (f y) = dvL x.U ws := by
  induction ts with
  | nil =>
    intro ws y f h hf
    cases ws with
    | nil => simp only [Zgh, Option.some.injEq] at hf; subst hf; rfl
    | cons => rw [Zlb] at h; cases h
  | cons t r ih =>
    intro ws y f h hf
    cases r with
    | nil =>
      cases ws with
      | nil => rw [ZlQ] at h; cases h
      | cons v ws =>
        cases ws with
        | cons => rw [ZlL] at h; cases h
        | nil =>
          rw [Znk] at h
          simp only [Zgh] at hf
          cases hg : x.U.inj t with
          | none => rw [hg] at hf; cases hf
          | some g =>
            rw [hg] at hf
            simp only [Option.some.injEq] at hf
            subst hf
            have h1 := ok.inj t g y hg
            have h2 := ok.prj t v y h
            rw [Zfe h1, Zfe h2]
    | cons u r =>
      cases ws with
      | nil => rw [Zl4] at h; cases h
      | cons v ws =>
        rw [Znv] at h
        cases hz : x.U.prj t v with
        | none => rw [hz] at h; cases h
        | some y1 =>
          rw [hz] at h
          cases hzs : Zjj x.U (u :: r) ws with
          | none => rw [hzs] at h; cases h
          | some ys =>
            rw [hzs] at h
            have hy : y = (y1, ys) := (Option.some.inj h).symm
            subst hy
            simp only [Zgh] at hf
            cases hg : x.U.inj t with
            | none => rw [hg] at hf; cases hf
            | some g =>
              rw [hg] at hf
              cases hg2 : Zgh x.U (u :: r) with
              | none => rw [hg2] at hf; cases hf
              | some g2 =>
                rw [hg2] at hf
                simp only [Option.some.injEq] at hf
                subst hf
                have h1 := ok.inj t g y1 hg
                have h2 := ok.prj t v y1 hz
                have h3 := ih ws ys g2 hzs hg2
                simp only [dvL]
                rw [h1, h2, h3]
theorem Zc6 {X : Nat → Type} (s : TSt X) : YcG s [] := fun p hp => by simp at hp
theorem TR.same {s t : TSt x.X} {tmp : List (Nat × XV)} (h : TR x.U ρ s tmp) (ht : t.tmp = s.tmp) : TR x.U ρ t tmp := by
  obtain ⟨e, tm, hp⟩ := s
  obtain ⟨e', tm', hp'⟩ := t
  simp only at ht
  subst ht
  exact ⟨h.no, h.yes, h.wf, h.nosp⟩
theorem Rel.heap_env (r : Rel x.U ρ h0 s a) {σ : List Rf} (hs : ρ <+: σ) {H : List (TObj x.X)} {h : List AObj} (hh : HR x.U σ h0 H h) : Rel x.U σ h0 { s with heap := H } { a with heap := h } :=
  ⟨r.env.mono hs, (r.tmp.mono hs).same rfl, hh⟩
theorem Zik {α : Type} {q : Option α} {pr : PR (Option α)} {y : α} (h : one q = some pr) (hi : PR.Is True pr (some y)) : q = some y := by
  cases q with
  | none => cases h
  | some b =>
    simp only [one, Option.some.injEq] at h
    subst h
    exact hi.symm
theorem ZuR (ok : x.U.Ok x.C) {v : TV x.X} {w : AV} {cs : List (TV x.X)} (hv : VRel x.U ρ v w) (h : x.vcells v = some cs) : w.cellOk = true ∧ VRels x.U ρ cs w.cells := by
  cases hv with
  | d v d hd =>
    have h1 := ZlM ok hd h
    refine ⟨?_, by rw [Zgd]; exact VRels.of_dvL h1⟩
    cases v <;> simp only [TV.dv] at hd <;> (try (cases hd; done)) <;> (try (simp only [Option.some.injEq] at hd; subst hd; first | rfl | exact ok.ok _ _))
    · simp only [Option.map_eq_some_iff] at hd; obtain ⟨ds, _, rfl⟩ := hd; rfl
    · simp only [Option.map_eq_some_iff] at hd; obtain ⟨ds, _, rfl⟩ := hd; rfl
    · simp [Cx.vcells] at h
  | ptr j i off hj =>
    simp only [Cx.vcells, Option.some.injEq] at h; subst h
    exact ⟨rfl, rfl, fun k v a h1 h2 => by cases k <;> simp [AV.cells] at h1 h2; subst h1; subst h2; exact .ptr _ _ _ hj⟩
  | osl j i g e n hj =>
    simp only [Cx.vcells, Option.some.injEq] at h; subst h
    exact ⟨rfl, rfl, fun k v a h1 h2 => by cases k <;> simp [AV.cells] at h1 h2; subst h1; subst h2; exact .osl _ _ _ _ _ hj⟩
  | mp j i hj =>
    simp only [Cx.vcells, Option.some.injEq] at h; subst h
    exact ⟨rfl, rfl, fun k v a h1 h2 => by cases k <;> simp [AV.cells] at h1 h2; subst h1; subst h2; exact .mp _ _ hj⟩
  | fn f caps as hl hh =>
    simp only [Cx.vcells, Option.some.injEq] at h; subst h
    have h1 : (ZuO f as).cells = [ZuO f as] ∧ (ZuO f as).cellOk = true := by unfold ZuO; split <;> exact ⟨rfl, rfl⟩
    refine ⟨h1.2, by rw [h1.1]; rfl, fun k v a h2 h3 => ?_⟩
    rw [h1.1] at h3
    cases k <;> simp at h2 h3
    subst h2; subst h3; exact .fn _ _ _ hl hh
  | tup => simp [Cx.vcells] at h
theorem ZsO (r : Rel x.U ρ h0 s a) {fa : FA} {dst : Option Tmp} {cs : List (TV x.X)} {w : AV} (h1 : w.cellOk = true) (h2 : VRels x.U ρ cs w.cells) (h3 : cs.all isD = true → ∃ d, w = .d d) (hc : (∃ ds, dvL x.U cs = some ds) ∨ cs.all isD = false) (h : ZmH x fa s dst cs = some s') :
    ∃ σ a', ρ <+: σ ∧ ZaU fa a dst w = some a' ∧ Rel x.U σ h0 s' a' := by
  unfold ZmH at h
  unfold ZaU
  rw [h1]
  simp only [Bool.not_true, cond_false]
  cases hp : ZaG fa dst with
  | true =>
    rw [hp] at h
    simp only [cond_true] at h ⊢
    have hs : ρ <+: ρ ++ [Rf.mk a.heap.length 0] := List.prefix_append _ _
    have hr := r.heap_env hs (r.heap.push (.var 0 cs w.cells ⟨h2.1, fun k v a h3 h4 => (h2.2 k v a h3 h4).mono hs⟩))
    obtain ⟨a', k1, k2⟩ := Zek (z := .a (.ptr a.heap.length 0)) hr (Zc6 _) (Zax _) (.a _ _ (.ptr _ ⟨a.heap.length, 0⟩ _ (by rw [← r.heap.len]; simp))) h
    exact ⟨_, a', hs, k1, k2⟩
  | false =>
    rw [hp] at h
    simp only [cond_false] at h ⊢
    split at h
    · rename_i t
      cases hb : (has fa.keep t && ZiQ t s.tmp && Nat.blt t fa.nt && cs.all isD) with
      | false => rw [hb] at h; cases h
      | true =>
        rw [hb] at h
        simp only [cond_true, Option.some.injEq] at h
        subst h
        simp only [Bool.and_eq_true] at hb
        obtain ⟨⟨⟨b1, b2⟩, b3⟩, b4⟩ := hb
        obtain ⟨d, rfl⟩ := h3 b4
        rcases hc with ⟨ds, hd⟩ | hc
        · have h5 := h2.dv hd
          rw [Zgd] at h5
          have h5 : d.cells = ds := List.map_inj_right (fun p q h => by cases h; rfl) |>.1 h5
          simp only [b1, r.tmp.nosp _ b2, b3, Bool.and_self, cond_true, h5]
          exact ⟨ρ, _, List.prefix_rfl, rfl, r.env.put t (.box _ _ hd), r.tmp.same rfl, r.heap⟩
        · rw [hc] at b4; cases b4
    · cases h
theorem Zvx (ok : x.U.Ok x.C) (r : Rel x.U ρ h0 s a) {fa : FA} {dst : Option Tmp} {ty : Nat} {o : Operand} (h : ZtJ x fa s dst ty o = some s') : ∃ a', Zbm fa a dst o = some a' ∧ Rel x.U ρ h0 s' a' := by
  unfold ZtJ at h
  unfold Zbm
  split at h
  · rename_i e xs ho
    obtain ⟨h1, h2, _⟩ := Yay r ho
    rw [h1]
    exact ZkI h2 h
  · cases hn : Zm3 s o with
    | false => rw [hn] at h; cases h
    | true =>
      rw [hn] at h
      simp only [cond_true] at h
      rw [Zwj r hn]
      split at h
      · rename_i y hy
        split at h
        · rename_i z hz
          obtain ⟨w, h1, h2⟩ := ZgV r (Zax _) hy
          simp only [h1]
          exact Zek r (Zc6 _) (Zax _) (ZjG ok h2 hz) h
        · cases h
      · cases h
theorem Zp7 {d : DV} (h : ∀ cs, d ≠ .agg cs) : (AV.d d).single = true ∧ d.cells = [d] := by
  cases d <;> first | exact ⟨rfl, rfl⟩ | exact absurd rfl (h _)
theorem ZvS {cs vs cs' : List (TV x.X)} {as ws : List AV} {off : Nat} (h1 : VRels x.U ρ cs as) (h2 : VRels x.U ρ vs ws) (h : Za1 cs off vs = some cs') : ∃ as', Za1 as off ws = some as' ∧ VRels x.U ρ cs' as' := by
  unfold Za1 at h ⊢
  rw [h1.1, h2.1] at h
  cases hb : Nat.ble (off + ws.length) as.length with
  | false => rw [hb] at h; cases h
  | true =>
    rw [hb] at h
    simp only [cond_true, Option.some.injEq] at h ⊢
    subst h
    exact ⟨_, rfl, ((h1.take _).append h2).append (h1.drop _)⟩
theorem Znj : ∀ {as : List AV} {ds : List DV}, ZcF as = some ds → as = ds.map .d
  | [], ds, h => by simp only [ZcF, mapO, Option.some.injEq] at h; subst h; rfl
  | b :: as, ds, h => by
    unfold ZcF at h
    simp only [mapO] at h
    cases b <;> simp only [AV.toD] at h <;> (try (cases h; done))
    split at h
    · rename_i ys hys
      simp only [Option.some.injEq] at h
      subst h
      rw [Znj hys]; rfl
    · cases h
theorem Zwt {α β : Type} (f : α → β) (l : List α) (i : Nat) (y : α) : (l.map f).set i (f y) = (l.set i y).map f := by rw [List.map_set]
theorem Zzv (ok : x.U.Ok x.C) (r : Rel x.U ρ h0 s a) {t : Nat} {p : TX x.X} {pw : XV} {v : TV x.X} {w : AV} {pr : PR (Option (TSt x.X))} (hp : XRel x.U ρ p pw) (hv : VRel x.U ρ v w) (h : storeT x t s p v = some pr) (hi : PR.Is True pr (some s')) :
    ∃ a', ZaZ x.C t a pw w = some a' ∧ Rel x.U ρ h0 s' a' := by
  unfold storeT at h
  unfold ZaZ
  split at h
  · rename_i n vs hn hvs
    rw [hn]
    obtain ⟨hc1, hc2⟩ := ZuR ok hv hvs
    cases hb : Nat.beq n vs.length with
    | false => rw [hb] at h; cases h
    | true =>
      rw [hb] at h
      have hb' := hb
      rw [hc2.1] at hb'
      simp only [cond_true, hb', hc1, Bool.and_self] at h ⊢
      cases hp with
      | sp k off =>
        simp only at h ⊢
        split at h
        · rename_i cs hk
          cases hd : vs.all isD with
          | false => rw [hd] at h; cases h
          | true =>
            rw [hd] at h
            simp only [cond_true] at h
            split at h
            · rename_i cs' hsp
              simp only [Option.some.injEq] at h
              subst h
              simp only [PR.Is, Option.some.injEq] at hi
              subst hi
              obtain ⟨b, h1, h2⟩ := r.env _ _ hk
              cases h2 with
              | box _ ds hds =>
                simp only [h1]
                have : ∃ es, dvL x.U vs = some es := by
                  clear hsp hvs hc2 hb hb'
                  induction vs with
                  | nil => exact ⟨[], by simp only [dvL]⟩
                  | cons u vs ih =>
                    simp only [List.all_cons, Bool.and_eq_true] at hd
                    obtain ⟨d, h3, _⟩ := Yal ok hd.1
                    obtain ⟨es, h4⟩ := ih hd.2
                    exact ⟨_, Zb0 h3 h4⟩
                obtain ⟨es, hes⟩ := this
                obtain ⟨ds', h5, h6⟩ := ZmT hds hes hsp
                rw [hc2.dv hes, Zhl]
                simp only [h5]
                exact ⟨_, rfl, r.env.put _ (.box _ _ h6), r.tmp.same rfl, r.heap⟩
            · cases h
        · cases h
      | ap j i g e ix off hj =>
        simp only at h ⊢
        split at h
        · rename_i g' ap e' xs hh
          cases hg : Nat.beq g' g with
          | false => rw [hg] at h; cases h
          | true =>
            rw [hg] at h
            simp only [cond_true] at h
            split at h
            · rename_i ys hcast
              obtain ⟨he, hcast⟩ := Zc7 hcast
              subst he
              simp only at hcast
              subst hcast
              obtain ⟨ao, k1, k2⟩ := Zgk r.heap hh hj
              cases k2
              have hgg := Nat.eq_of_beq_eq_true hg
              subst hgg
              simp only [Zel, k1, Nat.beq_refl, cond_true, ZqJ]
              split at h
              · rename_i hag
                cases ho : (Nat.beq off 0 && Zmr x.U e' 1) with
                | false => rw [ho] at h; cases h
                | true =>
                  rw [ho] at h
                  simp only [cond_true] at h
                  simp only [Bool.and_eq_true, Nat.beq_eq] at ho
                  obtain ⟨rfl, hcs⟩ := ho
                  have hcs := Zos hcs
                  split at h
                  · rename_i y hy
                    simp only [Option.some.injEq] at h
                    subst h
                    obtain ⟨zs, h1, h2⟩ := hi
                    have h1 := h1 trivial
                    simp only [Option.some.injEq] at h2
                    subst h2
                    split at h1
                    · rename_i hlt
                      simp only [Option.some.injEq] at h1
                      subst h1
                      have hwd := hv.isD (ok.prj _ _ _ hy)
                      subst hwd
                      have s1 := Zp7 (fun cs => ok.noagg e' 1 y hag hcs cs)
                      have s2 := Zp7 (fun cs => ok.noagg e' 1 xs[ix] hag hcs cs)
                      have hpk : Zed (AV.d (x.U.enc e' xs[ix])) [AV.d (x.U.enc e' y)] = some (AV.d (x.U.enc e' y)) := by
                        unfold Zed
                        have hne := fun cs => ok.noagg e' 1 xs[ix] hag hcs cs
                        split
                        · rename_i cs heq; simp only [AV.d.injEq] at heq; exact absurd heq (hne _)
                        · simp only [s1.1, cond_true]
                      simp only [List.getElem?_map, List.getElem?_eq_getElem hlt, Option.map_some, Zgd, s1.2, s2.2, List.map_cons, List.map_nil, Za1, List.length_cons, List.length_nil]
                      simp only [Nat.zero_add, show Nat.ble 1 1 = true from rfl, cond_true, List.take_zero, List.nil_append, List.drop_succ_cons, List.drop_zero, List.append_nil, List.drop_nil, hpk]
                      refine ⟨_, rfl, r.env, r.tmp.same rfl, ?_⟩
                      have := Zwt (fun y => AV.d (x.U.enc e' y)) xs ix y
                      rw [this]
                      exact r.heap.set hj (.arr _ _ _ _ _)
                    · cases h1
                  · cases h
              · rename_i hag
                split at h
                · rename_i f hf
                  simp only [Option.some.injEq] at h
                  subst h
                  obtain ⟨z, h1, h2⟩ := hi
                  have h1 := h1 trivial
                  have h2 := h2.symm
                  simp only at h2
                  split at h2
                  · rename_i cs' hsp
                    split at h2
                    · rename_i y' hy'
                      simp only [Option.some.injEq] at h2
                      subst h2
                      have hagg := ok.agg _ f z hag hf
                      obtain ⟨as', h5, h6⟩ := ZvS (VRels.of_dvL (ok.cells _ _ z hf)) hc2 hsp
                      obtain ⟨ds, h7, h8⟩ := ok.pack _ _ _ hy'
                      have h9 := h6.dv h7
                      subst h9
                      have hpk : Zed (AV.d (x.U.enc e' z)) (ds.map .d) = some (AV.d (x.U.enc e' y')) := by
                        unfold Zed
                        rw [hagg]
                        simp only [Zhl, Option.map_some, h8]
                      simp only [List.getElem?_map, h1, Option.map_some, Zgd, h5, hpk]
                      refine ⟨_, rfl, r.env, r.tmp.same rfl, ?_⟩
                      have := Zwt (fun y => AV.d (x.U.enc e' y)) xs ix y'
                      rw [this]
                      exact r.heap.set hj (.arr _ _ _ _ _)
                    · cases h2
                  · cases h2
                · cases h
              · cases h
            · cases h
        · cases h
      | a u uw hu =>
        cases u <;> simp only at h <;> (try (cases h; done))
        cases hu with
        | d v d hd => simp [TV.dv] at hd
        | ptr _ i _ hj =>
          split at h
          · rename_i cs hh
            split at h
            · rename_i cs' hsp
              simp only [Option.some.injEq] at h
              subst h
              simp only [PR.Is, Option.some.injEq] at hi
              subst hi
              obtain ⟨ao, k1, k2⟩ := Zgk r.heap hh hj
              cases k2 with
              | var _ as has =>
                obtain ⟨as', h5, h6⟩ := ZvS has hc2 hsp
                simp only [k1, h5]
                exact ⟨_, rfl, r.env, r.tmp.same rfl, r.heap.set hj (.var _ _ _ h6)⟩
            · cases h
          · cases h
      | fp => simp at h
      | own => simp at h
      | al => simp at h
      | un => simp at h
  · cases h
end
end Go.Tev
namespace Go.Tev
open Go.Abs
def YfB (U : Uni) : (r : RK) → r.T U.X → AObj → Prop
  | .map k v, es, ao => ao = .map ((show List (U.X k × U.X v) from es).map fun p => (U.enc k p.1, AV.d (U.enc v p.2)))
  | .var ts, y, ao => ∃ f ds, Zgh U ts = some f ∧ dvL U (f y) = some ds ∧ ao = .var (ds.map .d)
def Zmc (U : Uni) : (rs : List RK) → PR' U.X rs → List Nat → List AObj → Prop
  | [], _, [], _ => True
  | r :: rs, y, i :: ids, h => (∃ ao, h[i]? = some ao ∧ YfB U r y.1 ao) ∧ Zmc U rs y.2 ids h
  | _, _, _, _ => False
def Zdf : List AR → List DV → List Nat → Option (List AV)
  | [], [], [] => some []
  | .fn f :: r, ds, ids => match Zdf r ds ids with
    | some as => some (.d (.fn f []) :: as)
    | none => none
  | .ty _ :: r, d :: ds, ids => match Zdf r ds ids with
    | some as => some (.d d :: as)
    | none => none
  | .ref (.map _ _) :: r, ds, i :: ids => match Zdf r ds ids with
    | some as => some (.mp i :: as)
    | none => none
  | .ref (.var _) :: r, ds, i :: ids => match Zdf r ds ids with
    | some as => some (.ptr i 0 :: as)
    | none => none
  | _, _, _ => none
def Zee (U : Uni) (call : Zaa) (f : FuncId) (c : TCallR U.X) : Prop := ∀ vs a ds ids as cs (h : List AObj) r g, Zjj U (AR.tys c.ak) vs = some a → dvL U vs = some ds → Zdf c.ak ds ids = some as → ids.Nodup → Zmc U (AR.refs c.ak) cs ids h →
  c.fn a cs = some r → ZuN U c.rts = some g → ∃ d h', (g r.1).dv U = some d ∧ call f as h = some (.d d, h') ∧ Zmc U (AR.refs c.ak) r.2 ids h' ∧ (∀ (i : Nat), i < h.length → i ∉ ids → h'[i]? = h[i]?) ∧ h.length ≤ h'.length
structure CallsOk (x : Cx) (call : Zaa) : Prop where
  t : ∀ p ∈ x.T, ZaC x.U call p.1 p.2
  r : ∀ p ∈ x.TR, Zee x.U call p.1 p.2
section
variable {x : Cx} {ρ : List Rf} {h0 : Base} {s s' : TSt x.X} {a : St}
inductive At (ρ : List Rf) : List Nat → List Nat → Prop where
  | nil : At ρ [] []
  | cons (j : Nat) (i : Rf) (js ids) (h : ρ[j]? = some i) (t : At ρ js ids) : At ρ (j :: js) (i.id :: ids)
theorem At.mem {js ids : List Nat} (h : At ρ js ids) : ∀ i ∈ ids, ∃ j ∈ js, ∃ f, ρ[j]? = some f ∧ f.id = i := by
  induction h with
  | nil => intro i hi; simp at hi
  | cons j i js ids h t ih =>
    intro k hk
    rcases List.mem_cons.1 hk with rfl | hk
    · exact ⟨j, List.mem_cons_self, _, h, rfl⟩
    · obtain ⟨j', h1, h2⟩ := ih k hk
      exact ⟨j', List.mem_cons_of_mem _ h1, h2⟩
theorem Yc2 (hn : (ρ.map Rf.id).Nodup) {j j' : Nat} {i i' : Rf} (h1 : ρ[j]? = some i) (h2 : ρ[j']? = some i') (h : i.id = i'.id) : j = j' := by
  obtain ⟨a1, a2⟩ := List.getElem?_eq_some_iff.1 h1
  obtain ⟨b1, b2⟩ := List.getElem?_eq_some_iff.1 h2
  refine (List.getElem_inj hn (i := j) (j := j') (h₀ := by simpa using a1) (h₁ := by simpa using b1)).1 ?_
  simp only [List.getElem_map, a2, b2, h]
theorem At.nodup (hn : (ρ.map Rf.id).Nodup) {js ids : List Nat} (h : At ρ js ids) (hj : js.Nodup) : ids.Nodup := by
  induction h with
  | nil => exact List.nodup_nil
  | cons j i js ids h t ih =>
    rw [List.nodup_cons] at hj ⊢
    refine ⟨fun hm => ?_, ih hj.2⟩
    obtain ⟨j', h1, f, h2, h3⟩ := t.mem i.id hm
    have := Yc2 hn h h2 h3.symm
    subst this
    exact hj.1 h1
theorem ZoZ : ∀ {js : List Nat}, Zm1 js = true → js.Nodup
  | [], _ => List.nodup_nil
  | j :: js, h => by
    simp only [Zm1, Bool.and_eq_true, Bool.not_eq_true'] at h
    rw [List.nodup_cons]
    exact ⟨fun hm => by rw [has_iff.2 hm] at h; exact absurd h.1 (by simp), ZoZ h.2⟩
theorem Zyb (ak : List AR) : ∀ (vs us : List (TV x.X)) (as : List AV) (js : List Nat) (ds : List DV), VRels x.U ρ vs as → ZdM ak vs = some (us, js) → dvL x.U us = some ds → ∃ ids, Zdf ak ds ids = some as ∧ At ρ js ids := by
  induction ak with
  | nil =>
    intro vs us as js ds hv h hd
    cases vs with
    | cons => simp [ZdM] at h
    | nil =>
      simp only [ZdM, Option.some.injEq, Prod.mk.injEq] at h
      obtain ⟨rfl, rfl⟩ := h
      rw [ZgT hd]
      cases as with
      | nil => exact ⟨[], rfl, .nil⟩
      | cons => have := hv.1; simp at this
  | cons k r ih =>
    intro vs us as js ds hv h hd
    cases vs with
    | nil => cases k with
      | ref k => cases k <;> simp [ZdM] at h
      | _ => simp [ZdM] at h
    | cons v vs =>
      cases as with
      | nil => have := hv.1; simp at this
      | cons b as =>
        have hb := hv.2 0 v b rfl rfl
        have hr : VRels x.U ρ vs as := ⟨by simpa using hv.1, fun k v a h1 h2 => hv.2 (k + 1) v a (by simpa using h1) (by simpa using h2)⟩
        cases k with
        | ty t =>
          simp only [ZdM] at h
          split at h
          · rename_i ws js' hsp
            simp only [Option.some.injEq, Prod.mk.injEq] at h
            obtain ⟨rfl, rfl⟩ := h
            obtain ⟨d, ds', h1, h2, rfl⟩ := ZcS hd
            obtain ⟨ids, h3, h4⟩ := ih vs ws as js' ds' hr hsp h2
            rw [hb.isD h1]
            exact ⟨ids, by simp only [Zdf, h3], h4⟩
          · cases h
        | fn f =>
          cases v with
          | fn f' caps =>
            cases caps with
            | cons => simp [ZdM] at h
            | nil =>
              simp only [ZdM] at h
              obtain ⟨hf, h'⟩ := Zu9 h
              rw [Nat.beq_eq] at hf
              subst hf
              obtain ⟨ids, h3, h4⟩ := ih vs us as js ds hr h' hd
              rw [hb.isD (d := .fn f []) rfl]
              exact ⟨ids, by simp only [Zdf, h3], h4⟩
          | _ => simp [ZdM] at h
        | ref k =>
          cases k with
          | map kt vt =>
            cases v <;> simp only [ZdM] at h <;> (try (cases h; done))
            split at h
            · rename_i j ws js' hsp
              simp only [Option.some.injEq, Prod.mk.injEq] at h
              obtain ⟨rfl, rfl⟩ := h
              obtain ⟨ids, h3, h4⟩ := ih vs ws as js' ds hr hsp hd
              cases hb with
              | d v d hd => simp [TV.dv] at hd
              | mp _ i hj => exact ⟨i.id :: ids, by simp only [Zdf, h3], .cons _ _ _ _ hj h4⟩
            · cases h
          | var ts =>
            cases v with
            | ptr j off =>
              cases off with
              | succ => simp [ZdM] at h
              | zero =>
                simp only [ZdM] at h
                split at h
                · rename_i ws js' hsp
                  simp only [Option.some.injEq, Prod.mk.injEq] at h
                  obtain ⟨rfl, rfl⟩ := h
                  obtain ⟨ids, h3, h4⟩ := ih vs ws as js' ds hr hsp hd
                  cases hb with
                  | d v d hd => simp [TV.dv] at hd
                  | ptr _ i _ hj => exact ⟨i.id :: ids, by simp only [Zdf, h3], .cons _ _ _ _ hj h4⟩
                · cases h
            | _ => simp [ZdM] at h
theorem Zwk (ok : x.U.Ok x.C) {r : RK} {o : TObj x.X} {y : r.T x.X} {ao : AObj} (h : Ztz x.U r o = some y) {d : Nat} (ho : ORel x.U ρ d o ao) : YfB x.U r y ao := by
  cases r with
  | map k v =>
    cases o <;> simp only [Ztz] at h <;> (try (cases h; done))
    rename_i k' v' es
    cases h1 : Zfg (X := fun n => List (x.U.X n × x.U.X v')) k' k es with
    | none => rw [h1] at h; cases h
    | some e1 =>
      rw [h1] at h
      obtain ⟨he, h1⟩ := ZbY h1
      subst he
      cases h1
      obtain ⟨he, h2⟩ := ZbY h
      subst he
      cases h2
      cases ho
      rfl
  | var ts =>
    cases o <;> simp only [Ztz] at h <;> (try (cases h; done))
    rename_i cs
    cases hf : Zgh x.U ts with
    | none => rw [hf] at h; cases h
    | some f =>
      rw [hf] at h
      cases ho with
      | var _ as has =>
        obtain ⟨ds, h1⟩ := Zjq ok _ _ _ h
        have := has.dv h1
        subst this
        exact ⟨f, ds, hf, by rw [Zya ok ts cs y f h hf, h1], rfl⟩
theorem ZjA (ok : x.U.Ok x.C) {H : List (TObj x.X)} {h : List AObj} (hr : HR x.U ρ h0 H h) : ∀ {rs : List RK} {js ids : List Nat} {cs : PR' x.X rs}, At ρ js ids → ZfP x.U H rs js = some cs → Zmc x.U rs cs ids h
  | [], _, _, cs, .nil, _ => trivial
  | [], _, _, cs, .cons _ _ _ _ _ _, h => by simp [ZfP] at h
  | r :: rs, _, _, cs, .nil, h => by simp [ZfP] at h
  | r :: rs, _, _, cs, .cons j i js ids hj ht, h => by
    simp only [ZfP] at h
    split at h
    · rename_i o ho
      split at h
      · rename_i y hy
        split at h
        · rename_i ys hys
          cases h
          obtain ⟨i', ao, k1, k2, k3⟩ := hr.obj j o ho
          rw [hj] at k1
          cases k1
          exact ⟨⟨ao, k2, Zwk ok hy k3⟩, ZjA ok hr ht hys⟩
        · cases h
      · cases h
    · cases h
theorem Zph {r : RK} {y : r.T x.X} {ao : AObj} (h : YfB x.U r y ao) (d : Nat) : ORel x.U ρ d (Zr5 x.U r y) ao := by
  cases r with
  | map k v =>
    have h : ao = _ := h
    subst h
    exact .map _ _ _ _
  | var ts =>
    obtain ⟨f, ds, h1, h2, rfl⟩ := h
    simp only [Zr5, h1]
    exact .var _ _ _ (VRels.of_dvL h2)
theorem ZkR : ∀ {rs : List RK} {H : List (TObj x.X)} {js : List Nat} {y : PR' x.X rs}, (ZfQ x.U H rs js y).length = H.length
  | [], H, js, y => rfl
  | r :: rs, H, [], y => rfl
  | r :: rs, H, j :: js, y => by simp only [ZfQ]; rw [ZkR]; simp
theorem Zh3 : ∀ {rs : List RK} {H : List (TObj x.X)} {js : List Nat} {y : PR' x.X rs} {j : Nat}, j ∉ js → (ZfQ x.U H rs js y)[j]? = H[j]?
  | [], H, js, y, j, _ => rfl
  | r :: rs, H, [], y, j, _ => rfl
  | r :: rs, H, k :: js, y, j, hj => by
    simp only [ZfQ]
    rw [Zh3 (fun h => hj (List.mem_cons_of_mem _ h)), List.getElem?_set_ne (fun he => hj (by rw [← he]; exact List.mem_cons_self))]
theorem ZuJ {H : List (TObj x.X)} {h h' : List AObj} (hr : HR x.U ρ h0 H h) {rs : List RK} {js ids : List Nat} {y : PR' x.X rs} (hat : At ρ js ids) (hn : js.Nodup) (he : Zmc x.U rs y ids h') (hf : ∀ (i : Nat), i < h.length → i ∉ ids → h'[i]? = h[i]?) (hl : h.length ≤ h'.length) :
    HR x.U ρ h0 (ZfQ x.U H rs js y) h' := by
  have one : ∀ {rs : List RK} {H : List (TObj x.X)} {js ids : List Nat} {y : PR' x.X rs}, At ρ js ids → js.Nodup → Zmc x.U rs y ids h' → ∀ j ∈ js, ∀ o, (ZfQ x.U H rs js y)[j]? = some o → ∃ i ao, ρ[j]? = some i ∧ h'[i.id]? = some ao ∧ ORel x.U ρ i.off o ao := by
    intro rs
    induction rs with
    | nil =>
      intro H js ids y hat hn he j hj o ho
      cases hat with
      | nil => simp at hj
      | cons => exact absurd he (by simp [Zmc])
    | cons r rs ih =>
      intro H js ids y hat hn he j hj o ho
      cases hat with
      | nil => simp at hj
      | cons k i js ids hk ht =>
        obtain ⟨⟨ao, e1, e2⟩, e3⟩ := he
        rw [List.nodup_cons] at hn
        simp only [ZfQ] at ho
        rcases List.mem_cons.1 hj with rfl | hj
        · rw [Zh3 hn.1, List.getElem?_set] at ho
          simp only [if_true] at ho
          split at ho
          · cases ho
            exact ⟨i, ao, hk, e1, Zph e2 _⟩
          · cases ho
        · exact ih ht hn.2 e3 j hj o ho
  refine ⟨by rw [ZkR]; exact hr.len, hr.nd, fun j o hj => ?_, fun i hi hm => ?_, Nat.le_trans hr.grow hl, hr.fresh, hr.pre⟩
  · by_cases hm : j ∈ js
    · exact one hat hn he j hm o hj
    · rw [Zh3 hm] at hj
      obtain ⟨i, ao, k1, k2, k3⟩ := hr.obj j o hj
      refine ⟨i, ao, k1, ?_, k3⟩
      rw [hf i.id (hr.lt (Zs3 k1)) fun hmi => ?_, k2]
      obtain ⟨j', h1, f, h2, h3⟩ := hat.mem i.id hmi
      have := hr.inj k1 h2 h3.symm
      subst this
      exact hm h1
  · rw [hf i (Nat.lt_of_lt_of_le hi hr.grow) fun hmi => ?_]
    · exact hr.frame i hi hm
    · obtain ⟨j', h1, f, h2, h3⟩ := hat.mem i hmi
      exact hm (h3 ▸ Zs3 h2)
theorem ZtL (ak : List AR) : ∀ {ds : List DV} {ids : List Nat} {as : List AV}, Zdf ak ds ids = some as → ids ≠ [] → ZcF as = none := by
  induction ak with
  | nil =>
    intro ds ids as h hi
    cases ids with
    | nil => exact absurd rfl hi
    | cons => cases ds <;> simp [Zdf] at h
  | cons k r ih =>
    intro ds ids as h hi
    have cons : ∀ {b : AV} {as : List AV}, ZcF as = none → ZcF (b :: as) = none := by
      intro b as h
      unfold ZcF at h ⊢
      simp only [mapO]
      cases b.toD with
      | none => rfl
      | some d => simp only [h]
    cases k with
    | ty t =>
      cases ds with
      | nil => simp [Zdf] at h
      | cons d ds =>
        simp only [Zdf] at h
        split at h
        · rename_i as' h1; cases h; exact cons (ih h1 hi)
        · cases h
    | fn f =>
      simp only [Zdf] at h
      split at h
      · rename_i as' h1; cases h; exact cons (ih h1 hi)
      · cases h
    | ref k =>
      cases ids with
      | nil => exact absurd rfl hi
      | cons i ids =>
        cases k <;> simp only [Zdf] at h <;> split at h <;> cases h <;> rfl
theorem ZzF (ok : x.U.Ok x.C) {call : Zaa} (hT : ∀ p ∈ x.TR, Zee x.U call p.1 p.2) (r : Rel x.U ρ h0 s a) {fa : FA} {dst : Option Tmp} {f : FuncId} {c : TCallR x.X} (hc : Zab x.TR f = some c) {vs : List (TV x.X)} {as : List AV} (hv : VRels x.U ρ vs as)
    {pr : PR (Option (TSt x.X))} (h : ZxP x fa s dst c vs = some pr) (hi : PR.Is True pr (some s')) :
    ZcF as = none ∧ ∃ d h', call f as a.heap = some (.d d, h') ∧ ∃ a', { a with heap := h' }.put fa dst (.a (.d d)) = some a' ∧ Rel x.U ρ h0 s' a' := by
  unfold ZxP at h
  split at h
  · rename_i us js hsp
    cases hb : (Zm1 js && !js.isEmpty) with
    | false => rw [hb] at h; cases h
    | true =>
      rw [hb] at h
      simp only [cond_true] at h
      simp only [Bool.and_eq_true] at hb
      split at h
      · rename_i y cs g hy hcs hg
        simp only [Option.some.injEq] at h
        subst h
        obtain ⟨rr, k1, k2⟩ := hi
        have k1 := k1 trivial
        have k2 := k2.symm
        simp only at k2
        obtain ⟨ds, hd⟩ := Zjq ok _ _ _ hy
        obtain ⟨ids, e1, e2⟩ := Zyb (ρ := ρ) c.ak vs us as js ds hv hsp hd
        have hn := ZoZ hb.1
        have hne : ids ≠ [] := by
          intro he
          subst he
          cases e2
          simp at hb
        obtain ⟨d, h', m1, m2, m3, m4, m5⟩ := hT (f, c) (ZmS hc) us y ds ids as cs a.heap rr g hy hd e1 (e2.nodup r.heap.nd hn) (ZjA ok r.heap e2 hcs) k1 hg
        have r2 := r.heap_env List.prefix_rfl (ZuJ r.heap e2 hn m3 m4 m5)
        obtain ⟨a', p1, p2⟩ := Zek (z := .a (.d d)) r2 (Zc6 _) (Zax _) (.a _ _ (.d _ _ m1)) k2
        exact ⟨ZtL _ e1 hne, d, h', m2, a', p1, p2⟩
      · cases h
  · cases h
end
end Go.Tev
namespace Go.Tev
open Go.Abs
section
variable {x : Cx} {ρ : List Rf} {h0 : Base} {s s' : TSt x.X} {a : St}
theorem ZnD {C : Abs.Ctx} {t b n : Nat} (hb : C.elemBytes t = some b) {u : Unit} (h : room b n = some u) : ZbL C t n = true := by
  unfold room at h
  unfold ZbL
  rw [hb]
  split at h
  · rename_i hc
    simp only [Bool.and_eq_true, Nat.ble_eq]
    exact hc
  · cases h
theorem ZvE {e : Nat} (xs : List (x.X e)) : (xs.map (x.U.enc e)).map AV.d = xs.map fun y => AV.d (x.U.enc e y) := by simp [List.map_map, Function.comp_def]
theorem Zx0 {e n : Nat} (ok : x.U.Ok x.C) (hc : x.U.csz e = some n) (xs : List (x.X e)) : Zbl n (xs.map fun y => AV.d (x.U.enc e y)) = true := by
  cases xs with
  | nil => rfl
  | cons y xs =>
    simp only [List.map_cons, Zbl, Zgd, List.length_map, Nat.beq_eq]
    exact ok.csz _ _ _ hc
theorem Zxr (r : Rel x.U ρ h0 s a) {fa : FA} {o : Oper} {so : Operand} (h : (!Za5 fa o || Zw1 s so) = true) : (!Za5 fa o || ZrP a so) = true := by
  cases hk : Za5 fa o with
  | false => rfl
  | true =>
    rw [hk] at h
    simp only [Bool.not_true, Bool.false_or] at h ⊢
    unfold Zw1 at h
    split at h
    · split at h
      · rename_i u _ e xs heq
        obtain ⟨y, h1, h2, _⟩ := r.tmp.yes u _ heq
        have := h2 (Zax s)
        cases this
        simp only [ZrP, h1]
      · cases h
    · cases h
theorem Zwn (ok : x.U.Ok x.C) (r : Rel x.U ρ h0 s a) {fa : FA} {dst : Option Tmp} {t : Nat} {so xo : Operand} {pr : PR (Option (TSt x.X))} (h : Zlz x fa s dst t so xo = some pr) (hi : PR.Is True pr (some s')) :
    ∃ σ a', ρ <+: σ ∧ Zay x.C fa a dst t so xo = some a' ∧ Rel x.U σ h0 s' a' := by
  unfold Zlz at h
  split at h
  · rename_i e sz b he hsz hbt
    cases hb : (x.C.elemOk t sz && Zmr x.U e sz) with
    | false => rw [hb] at h; cases h
    | true =>
      rw [hb] at h
      simp only [cond_true] at h
      simp only [Bool.and_eq_true] at hb
      obtain ⟨heo, hcs⟩ := hb
      have hcs := Zos hcs
      split at h
      · rename_i nv hnv
        split at h
        · rename_i new hnew
          have hnd : nv.dv x.U = some (.slc (new.map (x.U.enc e))) := by
            split at hnew
            · rename_i e' ys
              obtain ⟨hee, hc⟩ := Zc7 hnew
              subst hee
              simp only at hc
              subst hc
              rfl
            · simp only [Option.some.injEq] at hnew; subst hnew; rfl
            · cases hnew
          obtain ⟨-, hxo, -⟩ := Zcw r (Zax _) hnv hnd
          unfold Zay
          rw [hsz, hxo]
          simp only
          split at h
          · rename_i j g eo n hso
            obtain ⟨z, hz1, hz2⟩ := ZgV r (Zax _) hso
            obtain ⟨w, rfl, hz3⟩ := hz2.isA
            cases hz3 with
            | d v d hd => simp [TV.dv] at hd
            | osl _ i _ _ _ hj =>
              rw [hz1]
              simp only
              split at h
              · rename_i g' e' xs hh
                cases hg : (Nat.beq g g' && Nat.beq eo e) with
                | false => rw [hg] at h; cases h
                | true =>
                  rw [hg] at h
                  simp only [cond_true] at h
                  split at h
                  · rename_i ys hcast
                    obtain ⟨hee, hc⟩ := Zc7 hcast
                    subst hee
                    simp only at hc
                    subst hc
                    simp only [Option.some.injEq] at h
                    subst h
                    obtain ⟨zs, k1, k2⟩ := hi
                    have k1 := k1 trivial
                    have k2 := k2.symm
                    simp only at k2
                    split at k1
                    · rename_i hn
                      cases hr : room b (xs.length + new.length) with
                      | none => rw [hr] at k1; cases k1
                      | some u =>
                        rw [hr] at k1
                        simp only [Option.bind_some, Option.some.injEq] at k1
                        subst k1
                        obtain ⟨ao, k3, k4⟩ := Zgk r.heap hh hj
                        cases k4
                        rw [k3]
                        subst hn
                        simp only [Bool.and_eq_true] at hg
                        have hgg := Nat.eq_of_beq_eq_true hg.1
                        subst hgg
                        have hlen : Nat.beq xs.length (xs.map fun y => AV.d (x.U.enc e' y)).length = true := by simp
                        simp only [Nat.beq_refl, hlen, Zx0 ok hcs, Zis ok hcs, List.length_map, ZnD hbt hr, heo, Bool.and_self, cond_true]
                        have hgo : g + i.off + 1 = g + 1 + i.off := by omega
                        have hm : (xs.map fun y => AV.d (x.U.enc e' y)) ++ (new.map (x.U.enc e')).map AV.d = (xs ++ new).map fun y => AV.d (x.U.enc e' y) := by rw [ZvE, List.map_append]
                        rw [hm]
                        have hr2 := r.heap_env List.prefix_rfl (r.heap.set hj (.arr i.off (g + 1) true e' (xs ++ new)))
                        have hb2 : Nat.beq xs.length xs.length = true := by simp
                        have hl2 : xs.length + new.length = (xs ++ new).length := by simp
                        rw [hl2, hgo]
                        obtain ⟨a', m1, m2⟩ := Zek (z := .a (.osl i.id (g + 1 + i.off) (xs ++ new).length)) hr2 (Zc6 _) (Zax _) (.a _ _ (.osl j i (g + 1) e' _ hj)) k2
                        exact ⟨ρ, a', List.prefix_rfl, m1, m2⟩
                    · cases k1
                  · cases h
              · cases h
          · rename_i hno
            split at h
            · rename_i e' xs ho
              obtain ⟨o1, o2, es, o3⟩ := Yay r ho
              rw [o3]
              simp only [o1]
              split at h
              · rename_i ys hcast
                obtain ⟨hee, hc⟩ := Zc7 hcast
                subst hee
                simp only at hc
                subst hc
                have q1 := Zis ok hcs new
                have q2 := Zjk 1 (Zis ok hcs xs)
                cases hp : ZaG fa dst with
                | true =>
                  rw [hp] at h
                  simp only [cond_true] at h
                  split at h
                  · rename_i y ys'
                    simp only [Option.some.injEq] at h
                    subst h
                    obtain ⟨u, k1, k2⟩ := hi
                    have k1 := k1 trivial
                    have k2 := k2.symm
                    simp only at k2
                    have hro : ZbL x.C t (([] : List (x.X e')).map (x.U.enc e')).length.succ.pred.succ = ZbL x.C t 1 := rfl
                    have hro2 : ZbL x.C t ((([] : List (x.X e')).map (x.U.enc e')).length + ((y :: ys').map (x.U.enc e')).length) = true := by
                      simp only [List.map_nil, List.length_nil, Nat.zero_add, List.length_map]
                      exact ZnD hbt k1
                    simp only [q1, q2, hro2, heo, Bool.and_self, cond_true]
                    simp only [List.map_nil, List.map_cons]
                    have hs : ρ <+: ρ ++ [Rf.mk a.heap.length 0] := List.prefix_append _ _
                    have hlh : (a.lose so).heap = a.heap := by unfold St.lose; split <;> (try split) <;> (try rfl) <;> (unfold St.loseEnv; split <;> rfl)
                    have hth : (Zj6 s so).heap = s.heap := by unfold Zj6; split <;> (try split) <;> (try rfl) <;> (unfold ZeX; split <;> rfl)
                    have hpush := o2.heap.push (.arr 0 0 true e' (y :: ys'))
                    rw [hlh, hth] at hpush
                    have hr2 := o2.heap_env hs hpush
                    obtain ⟨a', m1, m2⟩ := Zek (z := .a (.osl a.heap.length 0 (y :: ys').length)) hr2 (Zc6 _) (Zax _) (.a _ _ (.osl _ ⟨a.heap.length, 0⟩ _ _ _ (by rw [← r.heap.len]; simp))) k2
                    refine ⟨_, a', hs, ?_, m2⟩
                    have e1 : (AV.d (x.U.enc e' y) :: (ys'.map (x.U.enc e')).map AV.d) = (y :: ys').map fun y => AV.d (x.U.enc e' y) := by simp [List.map_map, Function.comp_def]
                    rw [e1]
                    simp only [List.length_cons, List.length_map] at m1 ⊢
                    exact m1
                  · cases h
                | false =>
                  rw [hp] at h
                  simp only [cond_false, Option.some.injEq] at h
                  subst h
                  obtain ⟨zs, k1, k2⟩ := hi
                  have k1 := k1 trivial
                  have k2 := k2.symm
                  simp only at k2
                  cases hr : room b (xs.length + new.length) with
                  | none => rw [hr] at k1; cases k1
                  | some u =>
                    rw [hr] at k1
                    simp only [Option.bind_some, Option.some.injEq] at k1
                    subst k1
                    have hro2 : ZbL x.C t ((xs.map (x.U.enc e')).length + (new.map (x.U.enc e')).length) = true := by
                      simp only [List.length_map]
                      exact ZnD hbt hr
                    simp only [q1, q2, hro2, heo, Bool.and_self, cond_true, cond_false]
                    obtain ⟨a', m1, m2⟩ := ZkI o2 k2
                    rw [List.map_append] at m1
                    exact ⟨ρ, a', List.prefix_rfl, m1, m2⟩
              · cases h
            · cases h
        · cases h
      · cases h
  · cases h
theorem Ych (ok : x.U.Ok x.C) {kt vt : Nat} (hk : x.U.isKey kt = true) (key : x.X kt) (y : x.X vt) (es : List (x.X kt × x.X vt)) :
    ZqW (x.U.enc kt key) (.d (x.U.enc vt y)) (es.map fun p => (x.U.enc kt p.1, AV.d (x.U.enc vt p.2))) = some ((Zgu (x.U.keq kt) key y es).map fun p => (x.U.enc kt p.1, AV.d (x.U.enc vt p.2))) := by
  induction es with
  | nil => rfl
  | cons p es ih =>
    obtain ⟨k', v⟩ := p
    simp only [List.map_cons, ZqW, ok.keq kt key k' hk, Zgu]
    cases x.U.keq kt key k' with
    | true => rfl
    | false => simp only [ih, Option.map_some, cond_false, List.map_cons]
theorem YbK (ok : x.U.Ok x.C) {kt vt : Nat} (hk : x.U.isKey kt = true) (key : x.X kt) (es : List (x.X kt × x.X vt)) :
    ZxD (x.U.enc kt key) (es.map fun p => (x.U.enc kt p.1, AV.d (x.U.enc vt p.2))) = some ((Ydz (x.U.keq kt) key es).map fun p => (x.U.enc kt p.1, AV.d (x.U.enc vt p.2))) := by
  induction es with
  | nil => rfl
  | cons p es ih =>
    obtain ⟨k', v⟩ := p
    simp only [List.map_cons, ZxD, ok.keq kt key k' hk, Ydz]
    cases x.U.keq kt key k' with
    | true => rfl
    | false => simp only [ih, Option.map_some, cond_false, List.map_cons]
theorem VRel.isMp {j : Nat} {w : AV} (h : VRel x.U ρ (.mp j) w) : ∃ i : Rf, w = .mp i.id ∧ ρ[j]? = some i := by
  cases h with
  | d v d hd => simp [TV.dv] at hd
  | mp _ i hj => exact ⟨i, rfl, hj⟩
theorem YcS (ok : x.U.Ok x.C) (r : Rel x.U ρ h0 s a) {call : Zaa} {fa : FA} {dst : Option Tmp} {t : Nat} {m k v : Operand} {ty : Nat} {pos : String} {after : Array Edge} {guard : Option (Nat × Bool)} (h : ZoH x fa s dst t m k v = some s') :
    ∃ a', Zbs x.C call fa ⟨dst, .mapUpdate t m k v, ty, pos, after, guard⟩ a = some a' ∧ Rel x.U ρ h0 s' a' := by
  unfold ZoH at h
  split at h
  · rename_i kt vt z j kv vv hm hz hmo hk hv
    split at h
    · rename_i key y kt' vt' es hpk hpv hh
      split at h
      · rename_i es1 h1
        obtain ⟨he, h1⟩ := ZbY h1
        subst he
        simp only at h1
        subst h1
        split at h
        · rename_i es2 h2
          obtain ⟨he, h2⟩ := ZbY h2
          subst he
          simp only at h2
          subst h2
          cases hb : (x.U.isKey kt' && x.C.keyOk t (x.U.enc kt' key)) with
          | false => rw [hb] at h; cases h
          | true =>
            rw [hb] at h
            simp only [cond_true] at h
            simp only [Bool.and_eq_true] at hb
            obtain ⟨mw, k1, k2⟩ := Zcq r (Zax _) hmo
            obtain ⟨i, rfl, hj⟩ := k2.isMp
            obtain ⟨_, k3, _⟩ := Zcw r (Zax _) hk (ok.prj _ _ _ hpk)
            obtain ⟨k4, _, _⟩ := Zcw r (Zax _) hv (ok.prj _ _ _ hpv)
            obtain ⟨ao, k5, k6⟩ := Zgk r.heap hh hj
            cases k6
            have hco : AV.cellOk (.d (x.U.enc vt' y)) = true := ok.ok _ _
            simp only [Zbs, hz, k1, k3, k4, hco, Bool.not_true, cond_false, k5, Ych ok hb.1 key y es, hb.2, cond_true]
            have hr2 := r.heap_env List.prefix_rfl (r.heap.set hj (.map _ kt' vt' (Zgu (x.U.keq kt') key y es)))
            exact Zek hr2 (Zc6 _) (Zax _) .un h
        · cases h
      · cases h
    · cases h
  · cases h
theorem YdX (ok : x.U.Ok x.C) (r : Rel x.U ρ h0 s a) {fa : FA} {dst : Option Tmp} {t : Nat} {m k : Operand} (h : Znf x fa s dst t m k = some s') :
    ∃ a', Zg9 x.C fa a dst t m k = some a' ∧ Rel x.U ρ h0 s' a' := by
  unfold Znf at h
  split at h
  · rename_i kt vt z j kv hm hz hmo hk
    split at h
    · rename_i key kt' vt' es hpk hh
      split at h
      · rename_i es1 h1
        obtain ⟨he, h1⟩ := ZbY h1
        subst he
        simp only at h1
        subst h1
        cases hb : (x.U.isKey kt' && x.C.keyOk t (x.U.enc kt' key)) with
        | false => rw [hb] at h; cases h
        | true =>
          rw [hb] at h
          simp only [cond_true] at h
          simp only [Bool.and_eq_true] at hb
          obtain ⟨mw, k1, k2⟩ := Zcq r (Zax _) hmo
          obtain ⟨i, rfl, hj⟩ := k2.isMp
          obtain ⟨_, k3, _⟩ := Zcw r (Zax _) hk (ok.prj _ _ _ hpk)
          obtain ⟨ao, k5, k6⟩ := Zgk r.heap hh hj
          cases k6
          simp only [Zg9, hz, k1, k3, k5, YbK ok hb.1 key es, hb.2, cond_true]
          have hr2 := r.heap_env List.prefix_rfl (r.heap.set hj (.map _ kt' vt' (Ydz (x.U.keq kt') key es)))
          exact Zek hr2 (Zc6 _) (Zax _) (.a _ _ (.d _ _ rfl)) h
      · cases h
    · cases h
  · cases h
theorem ZtS {C : Abs.Ctx} {t e : Nat} (h : Ctx.elemT C t = some e) : C.elemZero t = C.zero e := by
  unfold Ctx.elemT at h
  unfold Abs.Ctx.elemZero Abs.Ctx.zero
  split at h
  · rename_i e' he; rw [he]; simp only [Option.some.injEq] at h; subst h; rfl
  · cases h
theorem Zuz (ok : x.U.Ok x.C) (r : Rel x.U ρ h0 s a) {call : Zaa} {fa : FA} {dst : Option Tmp} {t : Nat} {l c : Operand} {ty : Nat} {pos : String} {after : Array Edge} {guard : Option (Nat × Bool)} {pr : PR (Option (TSt x.X))}
    (h : Zkv x fa s dst t l c = some pr) (hi : PR.Is True pr (some s')) :
    ∃ σ a', ρ <+: σ ∧ Zbs x.C call fa ⟨dst, .makeSlice t l c, ty, pos, after, guard⟩ a = some a' ∧ Rel x.U σ h0 s' a' := by
  unfold Zkv at h
  split at h
  · rename_i e z sz b k1 n k2 m he hz hsz hbt hl hc
    cases hb : (x.C.elemOk t sz && x.U.dok e) with
    | false => rw [hb] at h; cases h
    | true =>
      rw [hb] at h
      simp only [cond_true, Option.some.injEq] at h
      subst h
      simp only [Bool.and_eq_true] at hb
      obtain ⟨zs, k3, k4⟩ := hi
      have k3 := k3 trivial
      have k4 := k4.symm
      simp only at k4
      split at k3
      · rename_i hn
        cases hr : room b n.toNat with
        | none => rw [hr] at k3; cases k3
        | some u =>
          rw [hr] at k3
          simp only [Option.bind_some, Option.some.injEq] at k3
          subst k3
          obtain ⟨_, l1, _⟩ := Zcw r (Zax _) hl (d := .int k1 n) rfl
          obtain ⟨_, l2, _⟩ := Zcw r (Zax _) hc (d := .int k2 m) rfl
          have hzz : z = x.U.enc e (x.U.dflt e) := by
            rw [ZtS he, ok.dok _ hb.2] at hz
            simp only [Option.some.injEq] at hz
            exact hz.symm
          simp only [Zbs, hz, hsz, l1, l2]
          rw [if_pos ⟨hn.1, hn.2, ZnD hbt hr, hb.1⟩]
          have hs : ρ <+: ρ ++ [Rf.mk a.heap.length 0] := List.prefix_append _ _
          have hr2 := r.heap_env hs (r.heap.push (.arr 0 0 true e (List.replicate n.toNat (x.U.dflt e))))
          obtain ⟨a', m1, m2⟩ := Zek (z := .a (.osl a.heap.length 0 n.toNat)) hr2 (Zc6 _) (Zax _) (by rw [List.length_replicate]; exact .a _ _ (.osl _ ⟨a.heap.length, 0⟩ _ _ _ (by rw [← r.heap.len]; simp))) k4
          refine ⟨_, a', hs, ?_, m2⟩
          rw [List.map_replicate, ← hzz] at m1
          exact m1
      · cases k3
  · cases h
theorem Zqu : ∀ (b : List UInt8), ZdA b = b.map fun c => AV.d (.int .u8 c.toNat)
  | [] => rfl
  | c :: b => by simp only [ZdA, List.map_cons, Zqu b]
theorem Zqj {C : Abs.Ctx} {t : Nat} (h : C.isBytes t = true) : C.isStr t = false := by
  unfold Abs.Ctx.isBytes at h
  unfold Abs.Ctx.isStr
  split at h
  · rename_i e he; rw [he]
  · cases h
theorem Yda (ok : x.U.Ok x.C) {call : Zaa} (hT : ∀ p ∈ x.TR, Zee x.U call p.1 p.2) (r : Rel x.U ρ h0 s a) {fa : FA} {o : Oper} {pr : PR (Option (TSt x.X))} (h : ZgB x fa s o = some pr) (hi : PR.Is True pr (some s')) :
    ZaQ x.C call fa o a = none ∧ ∃ σ a', ρ <+: σ ∧ Zbs x.C call fa o a = some a' ∧ Rel x.U σ h0 s' a' := by
  obtain ⟨dst, op, ty, pos, after, guard⟩ := o
  cases op with
  | move v =>
    simp only [ZgB] at h
    cases ht : Zbn fa dst with
    | false => rw [ht] at h; cases h
    | true =>
      rw [ht] at h
      obtain ⟨a', h1, h2⟩ := Zvx ok r (Zik h hi)
      exact ⟨by simp only [ZaQ, ht, cond_true], ρ, a', List.prefix_rfl, h1, h2⟩
  | assign v =>
    simp only [ZgB] at h
    cases ht : Zbn fa dst with
    | false => rw [ht] at h; cases h
    | true =>
      rw [ht] at h
      obtain ⟨a', h1, h2⟩ := Zvx ok r (Zik h hi)
      exact ⟨by simp only [ZaQ, ht, cond_true], ρ, a', List.prefix_rfl, h1, h2⟩
  | alloc t =>
    simp only [ZgB] at h
    split at h
    · rename_i z hz
      obtain ⟨z0, k1, k2, k3, _⟩ := ok.zcells _ _ hz
      obtain ⟨σ, a', h1, h2, h3⟩ := ZsO (w := .d z0) r k3 (by rw [Zgd]; exact VRels.of_dvL k2) (fun _ => ⟨z0, rfl⟩) (.inl ⟨_, k2⟩) (Zik h hi)
      exact ⟨rfl, σ, a', h1, by simp only [Zbs, k1, h2], h3⟩
    · cases h
  | box t v =>
    simp only [ZgB] at h
    split at h
    · rename_i u hu
      split at h
      · rename_i cs hcs
        obtain ⟨w, h1, h2⟩ := Zcq r (Zax _) hu
        obtain ⟨h3, h4⟩ := ZuR ok h2 hcs
        have hdd : cs.all isD = true → ∃ d, w = .d d := by
          intro hd
          cases h2 with
          | d v d hd => exact ⟨d, rfl⟩
          | ptr => simp only [Cx.vcells, Option.some.injEq] at hcs; subst hcs; simp [isD] at hd
          | osl => simp only [Cx.vcells, Option.some.injEq] at hcs; subst hcs; simp [isD] at hd
          | mp => simp only [Cx.vcells, Option.some.injEq] at hcs; subst hcs; simp [isD] at hd
          | fn f caps as hl hh =>
            simp only [Cx.vcells, Option.some.injEq] at hcs; subst hcs
            cases caps with
            | nil => cases as with
              | nil => exact ⟨_, rfl⟩
              | cons => simp at hl
            | cons => simp [isD] at hd
          | tup => simp [Cx.vcells] at hcs
        have hdv : (∃ ds, dvL x.U cs = some ds) ∨ cs.all isD = false := by
          cases hd : cs.all isD with
          | false => exact .inr rfl
          | true =>
            left
            cases hud : u.dv x.U with
            | some d => exact ⟨_, ZlM ok hud hcs⟩
            | none =>
              cases h2 with
              | d v d hd2 => rw [hd2] at hud; cases hud
              | ptr => simp only [Cx.vcells, Option.some.injEq] at hcs; subst hcs; simp [isD] at hd
              | osl => simp only [Cx.vcells, Option.some.injEq] at hcs; subst hcs; simp [isD] at hd
              | mp => simp only [Cx.vcells, Option.some.injEq] at hcs; subst hcs; simp [isD] at hd
              | fn f caps as hl hh =>
                simp only [Cx.vcells, Option.some.injEq] at hcs; subst hcs
                cases caps with
                | nil => simp only [TV.dv, dvL, Option.map_some] at hud; cases hud
                | cons => simp [isD] at hd
              | tup => simp [Cx.vcells] at hcs
        obtain ⟨σ, a', k1, k2, k3⟩ := ZsO r h3 h4 hdd hdv (Zik h hi)
        exact ⟨rfl, σ, a', k1, by simp only [Zbs, h1, k2], k3⟩
      · cases h
    · cases h
  | buildSlice t n ps =>
    simp only [ZgB] at h
    cases ht : Zbn fa dst with
    | false => rw [ht] at h; cases h
    | true =>
      rw [ht] at h
      simp only [cond_true] at h
      split at h
      · rename_i e ys hb
        obtain ⟨a', h1, h2⟩ := ZkI r (Zik h hi)
        exact ⟨by simp only [ZaQ, ht, cond_true], ρ, a', List.prefix_rfl, by simp only [Zbs, Ziv ok r (Zax _) hb, h1], h2⟩
      · cases h
  | store t p v =>
    simp only [ZgB] at h
    split at h
    · rename_i q u hq hu
      split at h
      · rename_i r1 hr1
        simp only [Option.some.injEq] at h
        subst h
        obtain ⟨so, h1, h2⟩ := PR.Is_map.1 hi
        cases so with
        | none => simp at h2
        | some s1 =>
          have h2 := h2.symm
          simp only at h2
          obtain ⟨z, k1, k2⟩ := ZgV r (Zax _) hq
          obtain ⟨w, k3, k4⟩ := Zcq r (Zax _) hu
          obtain ⟨a1, k5, k6⟩ := Zzv ok r k2 k4 hr1 h1
          obtain ⟨a', k7, k8⟩ := Zek (z := .un) k6 (Zc6 _) (Zax _) .un h2
          exact ⟨rfl, ρ, a', List.prefix_rfl, by simp only [Zbs, k1, k3, k5, k7], k8⟩
      · cases h
    · cases h
  | convert s1 t v =>
    simp only [ZgB] at h
    split at h
    · rename_i b hb
      cases hc : (x.C.isStr s1 && x.C.isBytes t && x.C.elemOne t) with
      | false => rw [hc] at h; cases h
      | true =>
        rw [hc] at h
        simp only [cond_true] at h
        have hc' := hc
        simp only [Bool.and_eq_true] at hc'
        split at h
        · rename_i e he
          split at h
          · rename_i f g hby
            obtain ⟨k1, k2, _⟩ := Zcw r (Zax _) hb (d := .str b) rfl
            have hs : ρ <+: ρ ++ [Rf.mk a.heap.length 0] := List.prefix_append _ _
            have hr2 := r.heap_env hs (r.heap.push (.arr 0 0 false e (f b)))
            obtain ⟨a', m1, m2⟩ := Zek (z := .a (.osl a.heap.length 0 b.length)) hr2 (Zc6 _) (Zax _) (.a _ _ (.osl _ ⟨a.heap.length, 0⟩ _ _ _ (by rw [← r.heap.len]; simp))) (Zik h hi)
            refine ⟨?_, _, a', hs, ?_, m2⟩
            · simp only [ZaQ, k1, Zai, Zqj hc'.1.2, Bool.and_false, cond_false, oD]
            · have hbb : ZdA b = (f b).map fun y => AV.d (x.U.enc e y) := by
                rw [← ZvE, (ok.bytes _ _ _ hby).1, Zqu, List.map_map]; rfl
              simp only [Zbs, k2, hc, cond_true, hbb]
              exact m1
          · cases h
        · cases h
    · cases h
  | makeMap t rv =>
    cases rv with
    | some rv => simp [ZgB] at h
    | none =>
      simp only [ZgB] at h
      cases hm : x.C.isMap t with
      | false => rw [hm] at h; cases h
      | true =>
        rw [hm] at h
        simp only [cond_true] at h
        split at h
        · rename_i k v hkv
          have hs : ρ <+: ρ ++ [Rf.mk a.heap.length 0] := List.prefix_append _ _
          have hr2 := r.heap_env hs (r.heap.push (.map 0 k v []))
          obtain ⟨a', m1, m2⟩ := Zek (z := .a (.mp a.heap.length)) hr2 (Zc6 _) (Zax _) (.a _ _ (.mp _ ⟨a.heap.length, 0⟩ (by rw [← r.heap.len]; simp))) (Zik h hi)
          exact ⟨rfl, _, a', hs, by simp only [Zbs, hm, cond_true]; exact m1, m2⟩
        · cases h
  | makeSlice t l c =>
    simp only [ZgB] at h
    cases hfl : Zaq fa.frz dst with
    | true => rw [hfl] at h; cases h
    | false =>
      rw [hfl] at h
      exact ⟨by simp only [ZaQ, hfl, cond_false], Zuz ok r h hi⟩
  | mapUpdate t m k v =>
    simp only [ZgB] at h
    obtain ⟨a', h1, h2⟩ := YcS (call := call) (ty := ty) (pos := pos) (after := after) (guard := guard) ok r (Zik h hi)
    exact ⟨rfl, ρ, a', List.prefix_rfl, h1, h2⟩
  | call c =>
    obtain ⟨callee, args, types⟩ := c
    cases callee with
    | value g =>
      cases g with
      | func f =>
        simp only [ZgB] at h
        split at h
        · rename_i cr vs hcr hvs
          cases hl : Zaq fa.lend dst with
          | true => rw [hl] at h; cases h
          | false =>
            rw [hl] at h
            simp only [cond_false] at h
            obtain ⟨ws, h1, h2⟩ := Zi4 r (Zax _) hvs
            obtain ⟨k0, d, h', k1, a', k2, k3⟩ := ZzF ok hT r hcr h2 h hi
            have hf : opA a (.func f) = some (.d (.fn f [])) := rfl
            refine ⟨by simp only [ZaQ, hf, h1, ZeB, List.map_nil, List.append_nil, hl, cond_false, k0], ρ, a', List.prefix_rfl, ?_, k3⟩
            simp only [Zbs, hf, h1, ZeB, List.map_nil, List.append_nil, hl, cond_false, Zh1, k0, k1]
            exact k2
        · cases h
      | _ => simp [ZgB] at h
    | invoke => simp [ZgB] at h
    | builtin b =>
      simp only [ZgB] at h
      split at h
      · split at h
        · rename_i so xo t t' ha ht
          cases hb : Nat.beq t t' with
          | false => rw [hb] at h; cases h
          | true =>
            rw [hb] at h
            simp only [Bool.true_and] at h
            obtain ⟨hg, h⟩ := Zli h
            obtain ⟨σ, a', h1, h2, h3⟩ := Zwn ok r h hi
            have hg2 := Zxr r hg
            exact ⟨rfl, σ, a', h1, by simp only [Zbs, ha, ht, hb, hg2, Bool.and_self, cond_true, h2], h3⟩
        · cases h
      · split at h
        · rename_i m k t _ ha ht
          obtain ⟨a', h2, h3⟩ := YdX ok r (Zik h hi)
          exact ⟨rfl, ρ, a', List.prefix_rfl, by simp only [Zbs, ha, ht, h2], h3⟩
        · cases h
      · cases h
  | _ => simp [ZgB] at h
end
end Go.Tev
namespace Go.Tev
open Go.Abs
section
variable {x : Cx} {ρ : List Rf} {h0 : Base} {s s' : TSt x.X} {a : St}
theorem Zcv {α : Type} {b : Bool} {q : Option α} {y : α} (h : (bif b then q else none) = some y) : b = true ∧ q = some y := by
  cases b with
  | false => cases h
  | true => exact ⟨rfl, h⟩
def Keep {X : Nat → Type} (P : Nat → Prop) (s s' : TSt X) : Prop := ∀ t v, P t → Zab s.env t = some (.val v) → Zab s'.env t = some (.val v)
theorem Keep.refl {X : Nat → Type} (P : Nat → Prop) (s : TSt X) : Keep P s s := fun _ _ _ h => h
theorem Keep.trans {X : Nat → Type} {P : Nat → Prop} {s t u : TSt X} (h : Keep P s t) (k : Keep P t u) : Keep P s u := fun n v p e => k n v p (h n v p e)
theorem Keep.imp {X : Nat → Type} {P Q : Nat → Prop} {s t : TSt X} (hpq : ∀ n, Q n → P n) (h : Keep P s t) : Keep Q s t := fun n v p e => h n v (hpq n p) e
theorem aput_keep {X : Nat → Type} {s : TSt X} {t : Nat} {v : TSV X} {tmp heap} : Keep (fun n => t ≠ n) s ⟨Zdk s.env t v, tmp, heap⟩ := fun n w p e => by
  simp only [ZaN]
  rw [beq_ne.2 p]
  exact e
theorem Zc4 {fa : FA} {ch : Zb6} {dst : Option Tmp} {y : TX x.X} (h : Zmm fa ch s dst y = some s') : Keep (fun n => dst ≠ some n) s s' ∧ s'.heap = s.heap := by
  cases dst with
  | none => simp only [Zmm, Option.some.injEq] at h; subst h; exact ⟨Keep.refl _ _, rfl⟩
  | some t =>
    simp only [Zmm] at h
    cases hb : Nat.blt t fa.nt with
    | false => rw [hb] at h; cases h
    | true =>
      rw [hb] at h
      simp only [cond_true] at h
      cases hk : has fa.keep t with
      | true =>
        rw [hk] at h
        simp only [cond_true] at h
        split at h
        · simp only [Option.some.injEq] at h; subst h
          exact ⟨aput_keep.imp fun n hn he => hn (congrArg some he), rfl⟩
        · cases h
      | false =>
        rw [hk] at h
        simp only [cond_false] at h
        split at h
        · simp only [Option.some.injEq] at h; subst h; exact ⟨fun _ _ _ h => h, rfl⟩
        · cases h
theorem Zh9 {fa : FA} {dst : Option Tmp} {e : Nat} {xs : List (x.X e)} (h : Zgf fa s dst e xs = some s') : Keep (fun n => dst ≠ some n) s s' ∧ s'.heap = s.heap := by
  cases dst with
  | none => simp [Zgf] at h
  | some t =>
    simp only [Zgf] at h
    cases hb : Nat.blt t fa.nt with
    | false => rw [hb] at h; cases h
    | true =>
      rw [hb] at h
      simp only [cond_true] at h
      cases hk : has fa.keep t with
      | true =>
        rw [hk] at h
        simp only [cond_true, Option.some.injEq] at h; subst h
        exact ⟨aput_keep.imp fun n hn he => hn (congrArg some he), rfl⟩
      | false =>
        rw [hk] at h
        simp only [cond_false] at h
        split at h
        · simp only [Option.some.injEq] at h; subst h; exact ⟨fun _ _ _ h => h, rfl⟩
        · cases h
theorem ZjI (k : Nat) (P : Nat → Prop) : Keep P s (ZeX s k) ∧ (ZeX s k).heap = s.heap := by
  unfold ZeX
  split
  · rename_i e xs hk
    refine ⟨fun n v _ he => ?_, rfl⟩
    simp only [ZaN]
    cases hb : Nat.beq k n with
    | true => rw [← Nat.eq_of_beq_eq_true hb, hk] at he; simp at he
    | false => exact he
  · exact ⟨Keep.refl _ _, rfl⟩
theorem Zlc (o : Operand) (P : Nat → Prop) : Keep P s (Zj6 s o) ∧ (Zj6 s o).heap = s.heap := by
  unfold Zj6
  split
  · split
    · exact ⟨fun _ _ _ h => h, rfl⟩
    · exact ZjI _ _
    · exact ⟨Keep.refl _ _, rfl⟩
    · exact ZjI _ _
  · exact ⟨Keep.refl _ _, rfl⟩
theorem Zqh {fa : FA} {dst : Option Tmp} {ty : Nat} {o : Operand} (h : ZtJ x fa s dst ty o = some s') : Keep (fun n => dst ≠ some n) s s' ∧ s'.heap = s.heap := by
  unfold ZtJ at h
  split at h
  · obtain ⟨h1, h2⟩ := Zh9 h
    obtain ⟨h3, h4⟩ := Zlc (s := s) o (fun n => dst ≠ some n)
    exact ⟨h3.trans h1, h2.trans h4⟩
  · cases hn : Zm3 s o with
    | false => rw [hn] at h; cases h
    | true =>
      rw [hn] at h
      simp only [cond_true] at h
      split at h
      · split at h
        · exact Zc4 h
        · cases h
      · cases h
theorem ZmC {fa : FA} {dst : Option Tmp} {cs : List (TV x.X)} (h : ZmH x fa s dst cs = some s') : Keep (fun n => dst ≠ some n) s s' := by
  unfold ZmH at h
  cases hp : ZaG fa dst with
  | true => rw [hp] at h; simp only [cond_true] at h; exact fun n v p e => (Zc4 h).1 n v p e
  | false =>
    rw [hp] at h
    simp only [cond_false] at h
    split at h
    · rename_i t
      cases hb : (has fa.keep t && ZiQ t s.tmp && Nat.blt t fa.nt && cs.all isD) with
      | false => rw [hb] at h; cases h
      | true =>
        rw [hb] at h
        simp only [cond_true, Option.some.injEq] at h
        subst h
        exact aput_keep.imp fun n hn he => hn (congrArg some he)
    · cases h
theorem ZuA {t : Nat} {p : TX x.X} {v : TV x.X} {pr : PR (Option (TSt x.X))} {P : Prop} (h : storeT x t s p v = some pr) (hi : PR.Is P pr (some s')) (Q : Nat → Prop) : Keep Q s s' := by
  unfold storeT at h
  split at h
  · rename_i n vs hn hvs
    cases hb : Nat.beq n vs.length with
    | false => rw [hb] at h; cases h
    | true =>
      rw [hb] at h
      simp only [cond_true] at h
      cases p with
      | sp k off =>
        simp only at h
        split at h
        · rename_i cs hk
          cases hd : vs.all isD with
          | false => rw [hd] at h; cases h
          | true =>
            rw [hd] at h
            simp only [cond_true] at h
            split at h
            · simp only [Option.some.injEq] at h
              subst h
              simp only [PR.Is, Option.some.injEq] at hi
              subst hi
              intro n v _ he
              simp only [ZaN]
              cases hb : Nat.beq k n with
              | true => rw [← Nat.eq_of_beq_eq_true hb, hk] at he; simp at he
              | false => exact he
            · cases h
        · cases h
      | ap j g e i off =>
        simp only at h
        split at h
        · rename_i g' ap e' xs hh
          cases hg : Nat.beq g' g with
          | false => rw [hg] at h; cases h
          | true =>
            rw [hg] at h
            simp only [cond_true] at h
            split at h
            · split at h
              · cases ho : (Nat.beq off 0 && Zmr x.U e 1) with
                | false => rw [ho] at h; cases h
                | true =>
                  rw [ho] at h
                  simp only [cond_true] at h
                  split at h
                  · simp only [Option.some.injEq] at h
                    subst h
                    obtain ⟨zs, h1, h2⟩ := hi
                    simp only [Option.some.injEq] at h2
                    subst h2
                    exact fun _ _ _ h => h
                  · cases h
              · split at h
                · simp only [Option.some.injEq] at h
                  subst h
                  obtain ⟨zs, h1, h2⟩ := hi
                  have h2 := h2.symm
                  simp only at h2
                  split at h2
                  · split at h2
                    · simp only [Option.some.injEq] at h2
                      subst h2
                      exact fun _ _ _ h => h
                    · cases h2
                  · cases h2
                · cases h
              · cases h
            · cases h
        · cases h
      | a u =>
        cases u <;> simp only at h <;> (try (cases h; done))
        split at h
        · split at h
          · simp only [Option.some.injEq] at h
            subst h
            simp only [PR.Is, Option.some.injEq] at hi
            subst hi
            exact fun _ _ _ h => h
          · cases h
        · cases h
      | fp => simp at h
      | own => simp at h
      | al => simp at h
      | un => simp at h
  · cases h
theorem Zrk {fa : FA} {dst : Option Tmp} {t : Nat} {so xo : Operand} {pr : PR (Option (TSt x.X))} {P : Prop} (h : Zlz x fa s dst t so xo = some pr) (hi : PR.Is P pr (some s')) : Keep (fun n => dst ≠ some n) s s' := by
  unfold Zlz at h
  split at h
  · rename_i e sz b he hsz hbt
    cases hb : (x.C.elemOk t sz && Zmr x.U e sz) with
    | false => rw [hb] at h; cases h
    | true =>
      rw [hb] at h
      simp only [cond_true] at h
      split at h
      · split at h
        · split at h
          · rename_i j g eo n hso
            split at h
            · rename_i g' e' xs hh
              cases hg : (Nat.beq g g' && Nat.beq eo e) with
              | false => rw [hg] at h; cases h
              | true =>
                rw [hg] at h
                simp only [cond_true] at h
                split at h
                · simp only [Option.some.injEq] at h
                  subst h
                  obtain ⟨zs, k1, k2⟩ := hi
                  exact fun n v p e => (Zc4 k2.symm).1 n v p e
                · cases h
            · cases h
          · split at h
            · split at h
              · cases hp : ZaG fa dst with
                | true =>
                  rw [hp] at h
                  simp only [cond_true] at h
                  split at h
                  · simp only [Option.some.injEq] at h
                    subst h
                    obtain ⟨u, k1, k2⟩ := hi
                    obtain ⟨h3, h4⟩ := Zlc (s := s) so (fun n => dst ≠ some n)
                    exact fun n v p e => (Zc4 k2.symm).1 n v p (h3 n v p e)
                  · cases h
                | false =>
                  rw [hp] at h
                  simp only [cond_false, Option.some.injEq] at h
                  subst h
                  obtain ⟨zs, k1, k2⟩ := hi
                  obtain ⟨h3, h4⟩ := Zlc (s := s) so (fun n => dst ≠ some n)
                  exact h3.trans (Zh9 k2.symm).1
              · cases h
            · cases h
        · cases h
      · cases h
  · cases h
def Zfh (x : Cx) (o : Oper) : Bool := match o.op with
  | .store _ _ _ => true
  | .mapUpdate _ _ _ _ => true
  | .alloc _ => true
  | .box _ _ => true
  | .makeMap _ _ => true
  | .makeSlice _ _ _ => true
  | .convert _ _ _ => true
  | .call { callee := .builtin .append, .. } => true
  | .call { callee := .builtin .delete, .. } => true
  | .call { callee := .value (.func f), .. } => (Zab x.TR f).isSome
  | _ => false
theorem Zf8 {α : Type} {q : Option α} {pr : PR (Option α)} {y : α} {P : Prop} (h : one q = some pr) (hi : PR.Is P pr (some y)) : q = some y := by
  cases q with
  | none => cases h
  | some b =>
    simp only [one, Option.some.injEq] at h
    subst h
    exact hi.symm
theorem ZyL {fa : FA} {o : Oper} {pr : PR (Option (TSt x.X))} {P : Prop} (h : ZgB x fa s o = some pr) (hi : PR.Is P pr (some s')) : Keep (fun n => o.dst ≠ some n) s s' ∧ (Zfh x o = false → s'.heap = s.heap) := by
  obtain ⟨dst, op, ty, pos, after, guard⟩ := o
  cases op with
  | move v =>
    simp only [ZgB] at h
    cases ht : Zbn fa dst with
    | false => rw [ht] at h; cases h
    | true =>
      rw [ht] at h
      obtain ⟨h1, h2⟩ := Zqh (Zf8 h hi)
      exact ⟨h1, fun _ => h2⟩
  | assign v =>
    simp only [ZgB] at h
    cases ht : Zbn fa dst with
    | false => rw [ht] at h; cases h
    | true =>
      rw [ht] at h
      obtain ⟨h1, h2⟩ := Zqh (Zf8 h hi)
      exact ⟨h1, fun _ => h2⟩
  | alloc t =>
    simp only [ZgB] at h
    split at h
    · exact ⟨ZmC (Zf8 h hi), fun h => by simp [Zfh] at h⟩
    · cases h
  | box t v =>
    simp only [ZgB] at h
    split at h
    · split at h
      · exact ⟨ZmC (Zf8 h hi), fun h => by simp [Zfh] at h⟩
      · cases h
    · cases h
  | buildSlice t n ps =>
    simp only [ZgB] at h
    cases ht : Zbn fa dst with
    | false => rw [ht] at h; cases h
    | true =>
      rw [ht] at h
      simp only [cond_true] at h
      split at h
      · obtain ⟨h1, h2⟩ := Zh9 (Zf8 h hi)
        exact ⟨h1, fun _ => h2⟩
      · cases h
  | store t p v =>
    simp only [ZgB] at h
    split at h
    · split at h
      · rename_i r1 hr1
        simp only [Option.some.injEq] at h
        subst h
        obtain ⟨so, h1, h2⟩ := PR.Is_map.1 hi
        cases so with
        | none => simp at h2
        | some s1 =>
          have h2 := h2.symm
          simp only at h2
          exact ⟨(ZuA hr1 h1 _).trans (Zc4 h2).1, fun h => by simp [Zfh] at h⟩
      · cases h
    · cases h
  | convert s1 t v =>
    simp only [ZgB] at h
    split at h
    · cases hc : (x.C.isStr s1 && x.C.isBytes t && x.C.elemOne t) with
      | false => rw [hc] at h; cases h
      | true =>
        rw [hc] at h
        simp only [cond_true] at h
        split at h
        · split at h
          · exact ⟨fun n v p e => (Zc4 (Zf8 h hi)).1 n v p e, fun h => by simp [Zfh] at h⟩
          · cases h
        · cases h
    · cases h
  | makeMap t rv =>
    cases rv with
    | some rv => simp [ZgB] at h
    | none =>
      simp only [ZgB] at h
      cases hm : x.C.isMap t with
      | false => rw [hm] at h; cases h
      | true =>
        rw [hm] at h
        simp only [cond_true] at h
        split at h
        · exact ⟨fun n v p e => (Zc4 (Zf8 h hi)).1 n v p e, fun h => by simp [Zfh] at h⟩
        · cases h
  | makeSlice t l c =>
    simp only [ZgB] at h
    have hfl : Zaq fa.frz dst = false := by
      cases hfl : Zaq fa.frz dst with
      | true => rw [hfl] at h; cases h
      | false => rfl
    rw [hfl] at h
    simp only [cond_false] at h
    refine ⟨?_, fun h => by simp [Zfh] at h⟩
    unfold Zkv at h
    split at h
    · rename_i e z sz b k1 n k2 m he hz hsz hbt hl hc
      cases hb : (x.C.elemOk t sz && x.U.dok e) with
      | false => rw [hb] at h; cases h
      | true =>
        rw [hb] at h
        simp only [cond_true, Option.some.injEq] at h
        subst h
        obtain ⟨zs, k3, k4⟩ := hi
        exact fun n v p e => (Zc4 k4.symm).1 n v p e
    · cases h
  | mapUpdate t m k v =>
    simp only [ZgB] at h
    refine ⟨?_, fun h => by simp [Zfh] at h⟩
    have h := Zf8 h hi
    unfold ZoH at h
    split at h
    · split at h
      · split at h
        · split at h
          · exact fun n v p e => (Zc4 (Zcv h).2).1 n v p e
          · cases h
        · cases h
      · cases h
    · cases h
  | call c =>
    obtain ⟨callee, args, types⟩ := c
    cases callee with
    | value g =>
      cases g with
      | func f =>
        simp only [ZgB] at h
        split at h
        · rename_i cr vs hcr hvs
          refine ⟨?_, fun hh => by simp [Zfh, hcr] at hh⟩
          cases hl : Zaq fa.lend dst with
          | true => rw [hl] at h; cases h
          | false =>
            rw [hl] at h
            simp only [cond_false] at h
            unfold ZxP at h
            split at h
            · rename_i ws js hsp
              revert h
              cases (Zm1 js && !js.isEmpty) with
              | false => intro h; cases h
              | true =>
                intro h
                simp only [cond_true] at h
                split at h
                · simp only [Option.some.injEq] at h
                  subst h
                  obtain ⟨b, k1, k2⟩ := hi
                  exact fun n v p e => (Zc4 k2.symm).1 n v p e
                · cases h
            · cases h
        · cases h
      | _ => simp [ZgB] at h
    | invoke => simp [ZgB] at h
    | builtin b =>
      simp only [ZgB] at h
      split at h
      · split at h
        · rename_i so xo t t' ha ht
          cases hb : Nat.beq t t' with
          | false => rw [hb] at h; cases h
          | true =>
            rw [hb] at h
            simp only [Bool.true_and] at h
            obtain ⟨_, h⟩ := Zli h
            exact ⟨Zrk h hi, fun h => by simp [Zfh] at h⟩
        · cases h
      · split at h
        · refine ⟨?_, fun h => by simp [Zfh] at h⟩
          have h := Zf8 h hi
          unfold Znf at h
          split at h
          · split at h
            · split at h
              · exact fun n v p e => (Zc4 (Zcv h).2).1 n v p e
              · cases h
            · cases h
          · cases h
        · cases h
      · cases h
  | _ => simp [ZgB] at h
end
end Go.Tev
namespace Go.Tev
open Go.Abs
section
variable {x : Cx} {ρ : List Rf} {h0 : Base} {s s' : TSt x.X} {a : St}
theorem Zua {fa : FA} {o : Oper} (h : ZvZ fa o = true) : ZaK fa o = true := by
  obtain ⟨dst, op, ty, pos, after, guard⟩ := o
  unfold ZaK
  unfold ZvZ at h
  split at h <;> first | (cases h; done) | (rename_i ho; simp only at ho; subst ho; first | rfl | (simp only [h, Bool.or_true, Bool.true_or]; done))
theorem ZtC (r : Rel x.U ρ h0 s a) {all : List Oper} {o : Oper} {ch : Zb6} {gb : Option Bool} (h : Zrx all o s = some (ch, gb)) :
    YcG s ch ∧ (holds s ch → Zaw all o a = some true) ∧ (¬ holds s ch → Zaw all o a = some false) := by
  unfold Zrx at h
  unfold Zaw
  split at h
  · rename_i hg
    simp only [Option.some.injEq, Prod.mk.injEq] at h
    obtain ⟨rfl, rfl⟩ := h
    rw [hg]
    exact ⟨Zc6 _, fun _ => rfl, fun hh => absurd (Zax _) hh⟩
  · rename_i j want hg
    rw [hg]
    simp only
    split at h
    · rename_i t ht
      rw [ht]
      simp only
      split at h
      · rename_i g b hb
        simp only [Option.some.injEq, Prod.mk.injEq] at h
        obtain ⟨rfl, rfl⟩ := h
        obtain ⟨y, h1, h2, h3⟩ := r.tmp.yes _ _ hb
        have hwf := r.tmp.wf _ _ hb
        refine ⟨fun p hp => ?_, fun hh => ?_, fun hh => ?_⟩
        · rcases List.mem_cons.1 hp with rfl | hp
          · simp only [hb, Option.isSome_some]
          · exact hwf p hp
        · obtain ⟨c, hc⟩ := hh (t, want) (List.mem_cons_self)
          rw [hb] at hc
          simp only [Option.some.injEq, TE.mk.injEq, TX.a.injEq, TV.b.injEq] at hc
          have hg' : holds s g := fun p hp => hh p (List.mem_cons_of_mem _ hp)
          obtain ⟨w, rfl, hw⟩ := (h2 hg').isA
          rw [h1, hw.isD rfl]
          simp [hc.2]
        · by_cases hg' : holds s g
          · obtain ⟨w, rfl, hw⟩ := (h2 hg').isA
            rw [h1, hw.isD rfl]
            simp only [Option.some.injEq, beq_eq_false_iff_ne]
            intro he
            subst he
            exact hh fun p hp => by
              rcases List.mem_cons.1 hp with rfl | hp
              · exact ⟨g, hb⟩
              · exact hg' p hp
          · rw [h1, h3 hg']
      · cases h
    · cases h
theorem Yan {X : Nat → Type} {s : TSt X} : ∀ {ch : Zb6}, holds s ch → gof s ch ≠ some false
  | [], _ => by simp [gof]
  | (t, w) :: r, h => by
    obtain ⟨c, hc⟩ := h (t, w) (List.mem_cons_self)
    have ih := Yan (s := s) (ch := r) fun p hp => h p (List.mem_cons_of_mem _ hp)
    simp only [gof, hc]
    cases hr : gof s r with
    | none => cases w <;> simp [ZxG]
    | some b =>
      rw [hr] at ih
      cases b with
      | false => exact absurd rfl ih
      | true => cases w <;> simp [ZxG]
theorem Zre {g c : Option Bool} (h1 : g ≠ some false) (h2 : c ≠ some false) : ZxG g c ≠ some false := by
  cases g with
  | none => exact h2
  | some b =>
    cases b with
    | false => exact absurd rfl h1
    | true =>
      cases c with
      | none => simp [ZxG]
      | some d =>
        cases d with
        | false => exact absurd rfl h2
        | true => simp [ZxG]
def Yae (x : Cx) (h0 : Base) (call : Zaa) (fa : FA) (g : Option Bool) (draw : Bool) (all ops : List Oper) (s s' : TSt x.X) : Prop :=
  Keep (fun n => ∀ o ∈ ops, o.dst ≠ some n) s s' ∧ ((∀ o ∈ ops, Zfh x o = false) → s'.heap = s.heap) ∧
  (g ≠ some false → ∀ ρ a, Rel x.U ρ h0 s a → ∃ σ a', ρ <+: σ ∧ Za9 x.C call fa draw all ops a = some a' ∧ Rel x.U σ h0 s' a')
theorem Zs7 (ok : x.U.Ok x.C) {call : Zaa} (hT : CallsOk x call) {R : Type} {fa : FA} {g : Option Bool} {draw : Bool} {all : List Oper} {k : TSt x.X → Option R} {z : R} : ∀ {ops : List Oper} {s : TSt x.X},
    evR x fa g draw all ops s k = some z → ∃ s', k s' = some z ∧ Yae x h0 call fa g draw all ops s s'
  | [], s, h => ⟨s, h, Keep.refl _ _, fun _ => rfl, fun _ ρ a r => ⟨ρ, a, List.prefix_rfl, rfl, r⟩⟩
  | o :: ops, s, h => by
    simp only [evR] at h
    split at h
    · cases h
    · rename_i ch gb hch
      cases he : (ZvZ fa o || (Yav x o && !draw)) with
      | true =>
        rw [he] at h
        simp only [cond_true] at h
        split at h
        · rename_i pr hpr
          obtain ⟨so, h1, h2⟩ := PR.go_some h
          split at h2
          · rename_i s1
            obtain ⟨s', h3, h4, h5, h6⟩ := Zs7 ok hT h2
            obtain ⟨k1, k2⟩ := ZyL hpr h1
            refine ⟨s', h3, ?_, fun hh => ?_, fun hg ρ a r => ?_⟩
            · exact (k1.imp fun n hn => hn o (List.mem_cons_self)).trans (h4.imp fun n hn o' ho' => hn o' (List.mem_cons_of_mem _ ho'))
            · exact (h5 fun o' ho' => hh o' (List.mem_cons_of_mem _ ho')).trans (k2 (hh o (List.mem_cons_self)))
            · obtain ⟨c1, c2, c3⟩ := ZtC r hch
              obtain ⟨e1, σ, a1, e2, e3, e4⟩ := Yda (call := call) ok hT.r r hpr (h1.imp fun _ => hg)
              obtain ⟨τ, a', e5, e6, e7⟩ := h6 hg σ a1 e4
              refine ⟨τ, a', e2.trans e5, ?_, e7⟩
              have hq : (draw && !ZaK fa o) = false := by
                cases hb : ZvZ fa o with
                | true => rw [Zua hb]; simp
                | false => rw [hb] at he; simp only [Bool.false_or, Bool.and_eq_true, Bool.not_eq_true'] at he; rw [he.2]; rfl
              have hst : Zau x.C call fa all (draw && !ZaK fa o) o a = some a1 := by
                rw [hq]
                simp only [Zau, c2 (Zax _), cond_false, Zeh, e1, e3]
              simp only [Za9, hst, e6]
          · cases h2
        · cases h
      | false =>
        rw [he] at h
        simp only [cond_false] at h
        split at h
        · rename_i pr hpr
          obtain ⟨yo, h1, h2⟩ := PR.go_some h
          split at h2
          · rename_i y
            split at h2
            · rename_i s1 hput
              obtain ⟨s', h3, h4, h5, h6⟩ := Zs7 ok hT h2
              obtain ⟨k1, k2⟩ := Zc4 hput
              refine ⟨s', h3, ?_, fun hh => ?_, fun hg ρ a r => ?_⟩
              · exact (k1.imp fun n hn => hn o (List.mem_cons_self)).trans (h4.imp fun n hn o' ho' => hn o' (List.mem_cons_of_mem _ ho'))
              · exact (h5 fun o' ho' => hh o' (List.mem_cons_of_mem _ ho')).trans k2
              · obtain ⟨c1, c2, c3⟩ := ZtC r hch
                have : ∃ a1, Zau x.C call fa all (draw && !ZaK fa o) o a = some a1 ∧ Rel x.U ρ h0 s1 a1 := by
                  by_cases hh : holds s ch
                  · obtain ⟨w, w1, w2⟩ := Ybp ok hT.t r hh hpr (h1.imp fun _ => Zre hg (Yan hh))
                    obtain ⟨a1, p1, p2⟩ := Zek r c1 hh w2 hput
                    refine ⟨a1, ?_, p2⟩
                    simp only [Zau, c2 hh]
                    cases (draw && !ZaK fa o) with
                    | true => simp only [cond_true, w1, p1]
                    | false => simp only [cond_false, Zeh, w1, p1]
                  · obtain ⟨a1, p1, p2⟩ := Ydr r c1 hh hput
                    exact ⟨a1, by simp only [Zau, c3 hh, p1], p2⟩
                obtain ⟨a1, hst, r1⟩ := this
                obtain ⟨τ, a', e5, e6, e7⟩ := h6 hg ρ a1 r1
                exact ⟨τ, a', e5, by simp only [Za9, hst, e6], e7⟩
            · cases h2
          · cases h2
        · cases h
theorem VRel.toD {v : TV x.X} {w : AV} (h : VRel x.U ρ v w) : ∀ {d : DV}, w = .d d → v.dv x.U = some d := by
  have lst : ∀ {vs : List (TV x.X)} {as : List AV} {ds : List DV}, vs.length = as.length → (∀ (k : Nat) v a, vs[k]? = some v → as[k]? = some a → ∀ {d : DV}, a = .d d → v.dv x.U = some d) → ZcF as = some ds → dvL x.U vs = some ds := by
    intro vs
    induction vs with
    | nil =>
      intro as ds hl _ had
      cases as with
      | nil => simp only [ZcF, mapO, Option.some.injEq] at had; subst had; simp only [dvL]
      | cons => simp at hl
    | cons v vs ih =>
      intro as ds hl hh had
      cases as with
      | nil => simp at hl
      | cons b as =>
        have := Znj had
        cases ds with
        | nil => simp at this
        | cons d ds =>
          simp only [List.map_cons, List.cons.injEq] at this
          obtain ⟨rfl, rfl⟩ := this
          exact Zb0 (hh 0 v _ rfl rfl rfl) (ih (by simpa using hl) (fun k v a h1 h2 => hh (k + 1) v a (by simpa using h1) (by simpa using h2)) (Zhl ds))
  induction h with
  | d v d' h => intro d he; cases he; exact h
  | ptr => intro d he; cases he
  | osl => intro d he; cases he
  | mp => intro d he; cases he
  | fn f caps as hl h ih =>
    intro d he
    unfold ZuO at he
    split at he
    · rename_i ds had
      cases he
      simp only [TV.dv, lst hl ih had, Option.map_some]
    · cases he
  | tup vs as hl h ih =>
    intro d he
    unfold ZbF at he
    split at he
    · rename_i ds had
      cases he
      simp only [TV.dv, lst hl ih had, Option.map_some]
    · cases he
theorem VRels.toDv {vs : List (TV x.X)} {ds : List DV} (h : VRels x.U ρ vs (ds.map .d)) : dvL x.U vs = some ds := by
  obtain ⟨h1, h2⟩ := h
  induction vs generalizing ds with
  | nil => cases ds with
    | nil => simp only [dvL]
    | cons => simp at h1
  | cons v vs ih =>
    cases ds with
    | nil => simp at h1
    | cons d ds => exact Zb0 ((h2 0 v _ rfl rfl).toD rfl) (ih (by simpa using h1) fun k v a k1 k2 => h2 (k + 1) v a (by simpa using k1) (by simpa using k2))
theorem ZfO (ok : x.U.Ok x.C) {R : Type} {c : Bool} {z : R} : ∀ {cs ds : List (TV x.X)} {k : List (TV x.X) → Option R}, ZdU x c cs ds k = some z →
    ∃ es, k es = some z ∧ (c = true → ∀ ρ as, VRels x.U ρ cs as → VRels x.U ρ es as) ∧ (c = false → ∀ ρ as, VRels x.U ρ ds as → VRels x.U ρ es as)
  | [], [], k, h => ⟨[], h, fun _ ρ as h => h, fun _ ρ as h => h⟩
  | [], _ :: _, k, h => by simp [ZdU] at h
  | _ :: _, [], k, h => by simp [ZdU] at h
  | p :: cs, q :: ds, k, h => by
    simp only [ZdU] at h
    split at h
    · rename_i pr hpr
      obtain ⟨v, h1, h2⟩ := PR.go_some h
      obtain ⟨es, h3, h4, h5⟩ := ZfO ok h2
      have hi : PR.Is True pr v := h1.imp fun _ => by simp
      refine ⟨v :: es, h3, fun hc ρ as has => ?_, fun hc ρ as has => ?_⟩
      · cases as with
        | nil => have := has.1; simp at this
        | cons b as =>
          have hb := has.2 0 p b rfl rfl
          have h6 := h4 hc ρ as ⟨by simpa using has.1, fun k v a k1 k2 => has.2 (k + 1) v a (by simpa using k1) (by simpa using k2)⟩
          have h7 := Zhw (ρ := ρ) ok (uw := b) (vw := b) (fun _ => hb) (fun hf => by rw [hc] at hf; cases hf) hpr hi
          refine ⟨by simp [h6.1], fun k v' a k1 k2 => ?_⟩
          cases k with
          | zero => simp only [List.getElem?_cons_zero, Option.some.injEq] at k1 k2; subst k1; subst k2; simpa using h7
          | succ k => exact h6.2 k v' a (by simpa using k1) (by simpa using k2)
      · cases as with
        | nil => have := has.1; simp at this
        | cons b as =>
          have hb := has.2 0 q b rfl rfl
          have h6 := h5 hc ρ as ⟨by simpa using has.1, fun k v a k1 k2 => has.2 (k + 1) v a (by simpa using k1) (by simpa using k2)⟩
          have h7 := Zhw (ρ := ρ) ok (uw := b) (vw := b) (fun hf => by rw [hc] at hf; cases hf) (fun _ => hb) hpr hi
          refine ⟨by simp [h6.1], fun k v' a k1 k2 => ?_⟩
          cases k with
          | zero => simp only [List.getElem?_cons_zero, Option.some.injEq] at k1 k2; subst k1; subst k2; simpa using h7
          | succ k => exact h6.2 k v' a (by simpa using k1) (by simpa using k2)
    · cases h
theorem Yaw {cs es : List (TV x.X)} (h : ∀ ρ as, VRels x.U ρ cs as → VRels x.U ρ es as) {w : SV} (hw : SRel x.U ρ (.box cs) w) : SRel x.U ρ (.box es) w := by
  cases hw with
  | box _ ds hd => exact .box _ _ (h ρ _ (VRels.of_dvL hd)).toDv
def Zu7 (x : Cx) (c : Bool) (asg : Nat → Bool) (e0 eA eB : List (Nat × TSV x.X)) (p : Nat × TSV x.X) : Prop :=
  (asg p.1 = false → ∀ v, Zab e0 p.1 = some (.val v) → p.2 = .val v) ∧
  (c = true → ∃ v, Zab eA p.1 = some v ∧ ∀ ρ w, SRel x.U ρ v w → SRel x.U ρ p.2 w) ∧ (c = false → ∃ v, Zab eB p.1 = some v ∧ ∀ ρ w, SRel x.U ρ v w → SRel x.U ρ p.2 w)
theorem Zh7 (ok : x.U.Ok x.C) {R : Type} {c : Bool} {asg : Nat → Bool} {e0 eA eB : List (Nat × TSV x.X)} {z : R} (kA : ∀ t v, asg t = false → Zab e0 t = some (.val v) → Zab eA t = some (.val v)) (kB : ∀ t v, asg t = false → Zab e0 t = some (.val v) → Zab eB t = some (.val v)) :
    ∀ {ts : List Nat} {k : List (Nat × TSV x.X) → Option R}, ZcU x c asg e0 eA eB ts k = some z → ∃ e, k e = some z ∧ (∀ p ∈ e, Zu7 x c asg e0 eA eB p) ∧ ∀ t ∈ ts, asg t = false → ∀ v, Zab e0 t = some (.val v) → (t, .val v) ∈ e
  | [], k, h => ⟨[], h, fun p hp => by simp at hp, fun t ht => by simp at ht⟩
  | t :: r, k, h => by
    have skip : ∀ {k : List (Nat × TSV x.X) → Option R}, (∀ v, asg t = false → Zab e0 t = some (.val v) → False) → ZcU x c asg e0 eA eB r k = some z →
        ∃ e, k e = some z ∧ (∀ p ∈ e, Zu7 x c asg e0 eA eB p) ∧ ∀ u ∈ t :: r, asg u = false → ∀ v, Zab e0 u = some (.val v) → (u, .val v) ∈ e := by
      intro k hn h
      obtain ⟨e, h1, h2, h3⟩ := Zh7 ok kA kB h
      refine ⟨e, h1, h2, fun u hu ha v hv => ?_⟩
      rcases List.mem_cons.1 hu with rfl | hu
      · exact absurd hv (hn v ha)
      · exact h3 u hu ha v hv
    have add : ∀ {v : TSV x.X} {k : List (Nat × TSV x.X) → Option R}, Zu7 x c asg e0 eA eB (t, v) → ZcU x c asg e0 eA eB r (fun l => k ((t, v) :: l)) = some z →
        ∃ e, k e = some z ∧ (∀ p ∈ e, Zu7 x c asg e0 eA eB p) ∧ ∀ u ∈ t :: r, asg u = false → ∀ v, Zab e0 u = some (.val v) → (u, .val v) ∈ e := by
      intro v k he h
      obtain ⟨e, h1, h2, h3⟩ := Zh7 ok kA kB h
      refine ⟨_, h1, fun p hp => ?_, fun u hu ha w hw => ?_⟩
      · rcases List.mem_cons.1 hp with rfl | hp
        · exact he
        · exact h2 p hp
      · rcases List.mem_cons.1 hu with rfl | hu
        · have := he.1 ha w hw
          simp only at this
          rw [this]
          exact List.mem_cons_self
        · exact List.mem_cons_of_mem _ (h3 u hu ha w hw)
    simp only [ZcU] at h
    split at h
    · rename_i v hv
      cases ha : asg t with
      | true =>
        rw [ha] at h
        simp only [cond_true] at h
        have hn : ∀ v, asg t = false → Zab e0 t = some (.val v) → False := fun v hf => by rw [ha] at hf; cases hf
        split at h
        · rename_i p q hp hq
          split at h
          · rename_i pr hpr
            obtain ⟨w, h1, h2⟩ := PR.go_some h
            have hi : PR.Is True pr w := h1.imp fun _ => by simp
            refine add ⟨fun hf => absurd (ha.symm.trans hf) (by simp), fun hc => ⟨_, hp, fun ρ y hy => ?_⟩, fun hc => ⟨_, hq, fun ρ y hy => ?_⟩⟩ h2
            · cases hy with
              | val _ y hy => exact .val _ _ (by simpa [hc] using Zhw (ρ := ρ) ok (uw := y) (vw := y) (fun _ => hy) (fun hf => by rw [hc] at hf; cases hf) hpr hi)
            · cases hy with
              | val _ y hy => exact .val _ _ (by simpa [hc] using Zhw (ρ := ρ) ok (uw := y) (vw := y) (fun hf => by rw [hc] at hf; cases hf) (fun _ => hy) hpr hi)
          · exact skip hn h
        · exact skip hn h
      | false =>
        rw [ha] at h
        exact add ⟨fun _ w hw => by rw [hv] at hw; simp only [Option.some.injEq, TSV.val.injEq] at hw; subst hw; rfl, fun hc => ⟨_, kA t v ha hv, fun ρ w hw => hw⟩, fun hc => ⟨_, kB t v ha hv, fun ρ w hw => hw⟩⟩ h
    · rename_i hnv
      have hn : ∀ v, asg t = false → Zab e0 t = some (.val v) → False := fun v _ hv => hnv v hv
      split at h
      · rename_i e xs e' ys hp hq
        split at h
        · rename_i ys' hc
          obtain ⟨he, hc⟩ := Zc7 hc
          subst he
          simp only at hc
          subst hc
          simp only [Option.bind_some] at h
          refine add ⟨fun hf w hw => absurd hw (fun hw => hn w hf hw), fun hc => ⟨_, hp, fun ρ w hw => by rw [hc]; exact hw⟩, fun hc => ⟨_, hq, fun ρ w hw => by rw [hc]; exact hw⟩⟩ h
        · exact skip hn h
      · rename_i cs ds hp hq
        obtain ⟨es, h1, h2, h3⟩ := ZfO ok h
        exact add ⟨fun hf w hw => absurd hw (fun hw => hn w hf hw), fun hc => ⟨_, hp, fun ρ w hw => Yaw (h2 hc) hw⟩, fun hc => ⟨_, hq, fun ρ w hw => Yaw (h3 hc) hw⟩⟩ h1
      · exact skip hn h
theorem ZjO (ok : x.U.Ok x.C) {R : Type} {c : Bool} {z : R} : ∀ {A B : List (TObj x.X)} {k : List (TObj x.X) → Option R}, ZcK x c A B k = some z →
    ∃ H, k H = some z ∧ H.length = A.length ∧ H.length = B.length ∧ (c = true → ∀ (j : Nat) o, H[j]? = some o → ∃ o', A[j]? = some o' ∧ ∀ ρ d w, ORel x.U ρ d o' w → ORel x.U ρ d o w) ∧
      (c = false → ∀ (j : Nat) o, H[j]? = some o → ∃ o', B[j]? = some o' ∧ ∀ ρ d w, ORel x.U ρ d o' w → ORel x.U ρ d o w)
  | [], [], k, h => ⟨[], h, rfl, rfl, fun _ j o h => by simp at h, fun _ j o h => by simp at h⟩
  | [], _ :: _, k, h => by simp [ZcK] at h
  | _ :: _, [], k, h => by simp [ZcK] at h
  | p :: A, q :: B, k, h => by
    have add : ∀ {o : TObj x.X}, (c = true → ∀ ρ d w, ORel x.U ρ d p w → ORel x.U ρ d o w) → (c = false → ∀ ρ d w, ORel x.U ρ d q w → ORel x.U ρ d o w) → ZcK x c A B (fun l => k (o :: l)) = some z →
      ∃ H, k H = some z ∧ H.length = (p :: A).length ∧ H.length = (q :: B).length ∧ (c = true → ∀ (j : Nat) o, H[j]? = some o → ∃ o', (p :: A)[j]? = some o' ∧ ∀ ρ d w, ORel x.U ρ d o' w → ORel x.U ρ d o w) ∧
      (c = false → ∀ (j : Nat) o, H[j]? = some o → ∃ o', (q :: B)[j]? = some o' ∧ ∀ ρ d w, ORel x.U ρ d o' w → ORel x.U ρ d o w) := by
      intro o h1 h2 h
      obtain ⟨H, k1, k2, k3, k4, k5⟩ := ZjO ok h
      refine ⟨o :: H, k1, by simp [k2], by simp [k3], fun hc j o' hj => ?_, fun hc j o' hj => ?_⟩
      · cases j with
        | zero => simp only [List.getElem?_cons_zero, Option.some.injEq] at hj; subst hj; exact ⟨p, rfl, h1 hc⟩
        | succ j => exact k4 hc j o' (by simpa using hj)
      · cases j with
        | zero => simp only [List.getElem?_cons_zero, Option.some.injEq] at hj; subst hj; exact ⟨q, rfl, h2 hc⟩
        | succ j => exact k5 hc j o' (by simpa using hj)
    cases p with
    | arr g ap e xs =>
      cases q <;> simp only [ZcK] at h <;> (try (cases h; done))
      rename_i g' ap' e' ys
      obtain ⟨hb, h2⟩ := Zcv h
      clear h
      have h := h2
      clear h2
      simp only [Bool.and_eq_true, Nat.beq_eq, beq_iff_eq] at hb
      obtain ⟨rfl, rfl⟩ := hb
      split at h
      · rename_i ys' hc
        obtain ⟨he, hc⟩ := Zc7 hc
        subst he
        simp only at hc
        subst hc
        simp only [Option.bind_some] at h
        exact add (fun hc ρ d w hw => by rw [hc]; exact hw) (fun hc ρ d w hw => by rw [hc]; exact hw) h
      · cases h
    | var cs =>
      cases q <;> simp only [ZcK] at h <;> (try (cases h; done))
      obtain ⟨es, h1, h2, h3⟩ := ZfO ok h
      refine add (fun hc ρ d w hw => ?_) (fun hc ρ d w hw => ?_) h1
      · cases hw with | var _ as has => exact .var _ _ _ (h2 hc ρ as has)
      · cases hw with | var _ as has => exact .var _ _ _ (h3 hc ρ as has)
    | map kt vt es =>
      cases q <;> simp only [ZcK] at h <;> (try (cases h; done))
      split at h
      · rename_i f1 h1
        obtain ⟨he, h1⟩ := ZbY h1
        subst he
        simp only at h1
        subst h1
        split at h
        · rename_i f2 h2
          obtain ⟨he, h2⟩ := ZbY h2
          subst he
          simp only at h2
          subst h2
          simp only [Option.bind_some] at h
          exact add (fun hc ρ d w hw => by rw [hc]; exact hw) (fun hc ρ d w hw => by rw [hc]; exact hw) h
        · cases h
      · cases h
theorem ZgS {α : Type} : ∀ {l : List (Nat × α)} {t : Nat} {v : α}, Zab l t = some v → (t, v) ∈ l
  | [], t, v, h => by simp [Zab] at h
  | (k, u) :: l, t, v, h => by
    simp only [Zab] at h
    cases hb : Nat.beq k t with
    | true =>
      rw [hb] at h
      simp only [cond_true, Option.some.injEq] at h
      subst h
      rw [Nat.eq_of_beq_eq_true hb]
      exact List.mem_cons_self
    | false => rw [hb] at h; exact List.mem_cons_of_mem _ (ZgS h)
theorem ZwV (ok : x.U.Ok x.C) {R : Type} {c : Bool} {p q : Code} {sA sB : TSt x.X} {k : TSt x.X → Option R} {z : R} (kA : Keep (fun n => ZmE p n = false) s sA) (kB : Keep (fun n => ZmE q n = false) s sB)
    (hA : Zgn x p = false → sA.heap = s.heap) (hB : Zgn x q = false → sB.heap = s.heap) (tA : sA.tmp = []) (tB : sB.tmp = []) (h : merge x c p q s sA sB k = some z) :
    ∃ s', k s' = some z ∧ s'.tmp = [] ∧ (c = true → ∀ ρ a, Rel x.U ρ h0 sA a → Rel x.U ρ h0 s' a) ∧ (c = false → ∀ ρ a, Rel x.U ρ h0 sB a → Rel x.U ρ h0 s' a) ∧
      Keep (fun n => ZmE p n = false ∧ ZmE q n = false) s s' ∧ ((Zgn x p || Zgn x q) = false → s'.heap = s.heap) := by
  unfold merge at h
  obtain ⟨e, h1, h2, h3⟩ := Zh7 ok (fun t v ha hv => kA t v (by simp only [Bool.or_eq_false_iff] at ha; exact ha.1) hv) (fun t v ha hv => kB t v (by simp only [Bool.or_eq_false_iff] at ha; exact ha.2) hv) h
  have hent : ∀ t v, Zab e t = some v → Zu7 x c (fun t => ZmE p t || ZmE q t) s.env sA.env sB.env (t, v) := fun t v hv => h2 _ (ZgS hv)
  have hkeep : ∀ H, Keep (fun n => ZmE p n = false ∧ ZmE q n = false) s ⟨e, [], H⟩ := by
    intro H t v ht hv
    have hm := h3 t (List.mem_map.2 ⟨(t, .val v), ZgS hv, rfl⟩) (by simp [ht.1, ht.2]) v hv
    have : ∀ {l : List (Nat × TSV x.X)} {t : Nat} {v : TSV x.X}, (t, v) ∈ l → ∃ w, Zab l t = some w := by
      intro l
      induction l with
      | nil => intro t v h; simp at h
      | cons q l ih =>
        obtain ⟨k, u⟩ := q
        intro t v h
        simp only [Zab]
        cases hb : Nat.beq k t with
        | true => exact ⟨u, rfl⟩
        | false =>
          rcases List.mem_cons.1 h with h | h
          · simp only [Prod.mk.injEq] at h; rw [h.1] at hb; simp at hb
          · exact ih h
    obtain ⟨w, hw⟩ := this hm
    have := (hent t w hw).1 (by simp [ht.1, ht.2]) v hv
    simp only at this
    rw [hw, this]
  have rel : ∀ {ρ : List Rf} {a : St} {sX : TSt x.X} {H : List (TObj x.X)}, sX.tmp = [] → Rel x.U ρ h0 sX a → (∀ t v, Zab e t = some v → ∃ w, Zab sX.env t = some w ∧ ∀ ρ y, SRel x.U ρ w y → SRel x.U ρ v y) → HR x.U ρ h0 H a.heap → Rel x.U ρ h0 ⟨e, [], H⟩ a := by
    intro ρ a sX H ht r he hH
    refine ⟨fun t v hv => ?_, r.tmp.same ht.symm, hH⟩
    obtain ⟨w, k1, k2⟩ := he t v hv
    obtain ⟨y, k3, k4⟩ := r.env t w k1
    exact ⟨y, k3, k2 ρ y k4⟩
  have eA : c = true → ∀ t v, Zab e t = some v → ∃ w, Zab sA.env t = some w ∧ ∀ ρ y, SRel x.U ρ w y → SRel x.U ρ v y := fun hc t v hv => (hent t v hv).2.1 hc
  have eB : c = false → ∀ t v, Zab e t = some v → ∃ w, Zab sB.env t = some w ∧ ∀ ρ y, SRel x.U ρ w y → SRel x.U ρ v y := fun hc t v hv => (hent t v hv).2.2 hc
  cases hh : (Zgn x p || Zgn x q) with
  | false =>
    rw [hh] at h1
    simp only [Bool.or_eq_false_iff] at hh
    refine ⟨_, h1, rfl, fun hc ρ a r => rel tA r (eA hc) ?_, fun hc ρ a r => rel tB r (eB hc) ?_, hkeep _, fun _ => rfl⟩
    · rw [← hA hh.1]; exact r.heap
    · rw [← hB hh.2]; exact r.heap
  | true =>
    rw [hh] at h1
    simp only [cond_true] at h1
    obtain ⟨H, k1, k2, k3, k4, k5⟩ := ZjO ok h1
    refine ⟨_, k1, rfl, fun hc ρ a r => rel tA r (eA hc) ?_, fun hc ρ a r => rel tB r (eB hc) ?_, hkeep _, fun hf => by cases hf⟩
    · refine ⟨by rw [k2]; exact r.heap.len, r.heap.nd, fun j o hj => ?_, r.heap.frame, r.heap.grow, r.heap.fresh, r.heap.pre⟩
      obtain ⟨o', l1, l2⟩ := k4 hc j o hj
      obtain ⟨i, ao, l3, l4, l5⟩ := r.heap.obj j o' l1
      exact ⟨i, ao, l3, l4, l2 ρ _ ao l5⟩
    · refine ⟨by rw [k3]; exact r.heap.len, r.heap.nd, fun j o hj => ?_, r.heap.frame, r.heap.grow, r.heap.fresh, r.heap.pre⟩
      obtain ⟨o', l1, l2⟩ := k5 hc j o hj
      obtain ⟨i, ao, l3, l4, l5⟩ := r.heap.obj j o' l1
      exact ⟨i, ao, l3, l4, l2 ρ _ ao l5⟩
end
end Go.Tev
namespace Go.Tev
open Go.Abs
section
variable {x : Cx} {ρ : List Rf} {h0 : Base} {s s' : TSt x.X} {a : St}
theorem Rel.noTmp {X : Unit} {e : List (Nat × TSV x.X)} {tm : List (Nat × TE x.X)} {H : List (TObj x.X)} (r : Rel x.U ρ h0 ⟨e, tm, H⟩ a) : Rel x.U ρ h0 ⟨e, [], H⟩ { a with tmp := [] } :=
  ⟨r.env, ⟨fun _ _ => rfl, fun t e h => by simp [Zab] at h, fun t e h => by simp [Zab] at h, fun _ _ => rfl⟩, r.heap⟩
theorem ZhZ (e0 : List (Nat × TSV x.X)) : ∀ (e : List (Nat × TSV x.X)) (t : Nat) (v : TSV x.X), Zab (Zkf e0 e) t = some v → Zab e t = some v ∧ (Zab e0 t).isSome = true
  | [], t, v, h => by simp [Zkf, Zab] at h
  | (k, u) :: e, t, v, h => by
    simp only [Zkf] at h
    split at h
    · rename_i w hw
      simp only [Zab] at h ⊢
      cases hb : Nat.beq k t with
      | true =>
        rw [hb] at h
        rw [← Nat.eq_of_beq_eq_true hb, hw]
        exact ⟨h, rfl⟩
      | false =>
        rw [hb] at h
        exact ZhZ e0 e t v h
    · rename_i hw
      obtain ⟨h1, h2⟩ := ZhZ e0 e t v h
      simp only [Zab]
      cases hb : Nat.beq k t with
      | true => rw [← Nat.eq_of_beq_eq_true hb, hw] at h2; cases h2
      | false => exact ⟨h1, h2⟩
theorem alook_trimE (e0 : List (Nat × SV)) : ∀ (e : List (Nat × SV)) (t : Nat), (Zab e0 t).isSome = true → Zab (ZaI e0 e) t = Zab e t
  | [], t, h => rfl
  | (k, u) :: e, t, h => by
    simp only [ZaI]
    split
    · simp only [Zab, alook_trimE e0 e t h]
    · rename_i hw
      simp only [Zab, alook_trimE e0 e t h]
      cases hb : Nat.beq k t with
      | true => rw [← Nat.eq_of_beq_eq_true hb, hw] at h; cases h
      | false => rfl
theorem Rel.trimmed {s0 : TSt x.X} {a0 : St} (h : ER x.U ρ s0.env a0.env) {σ : List Rf} (r : Rel x.U σ h0 s a) : Rel x.U σ h0 { s with env := Zkf s0.env s.env } (a.trim a0.env) := by
  refine ⟨fun t v hv => ?_, r.tmp.same rfl, r.heap⟩
  obtain ⟨h1, h2⟩ := ZhZ _ _ _ _ hv
  obtain ⟨w, h3, h4⟩ := r.env t v h1
  obtain ⟨v0, hv0⟩ := Option.isSome_iff_exists.1 h2
  obtain ⟨w0, h5, _⟩ := h t v0 hv0
  refine ⟨w, ?_, h4⟩
  simp only [St.trim]
  rw [alook_trimE _ _ _ (by rw [h5]; rfl), h3]
def Yam (x : Cx) (h0 : Base) (call : Zaa) (fa : FA) (n : Nat) (g : Option Bool) (c : Code) (s s' : TSt x.X) : Prop :=
  s'.tmp = [] ∧ Keep (fun n => ZmE c n = false) s s' ∧ (Zgn x c = false → s'.heap = s.heap) ∧
  (g ≠ some false → ∀ ρ a, Rel x.U ρ h0 s a → ∃ σ a', ρ <+: σ ∧ evQ x.C call fa n c a = some (.norm a') ∧ Rel x.U σ h0 s' a')
theorem ZmY (ok : x.U.Ok x.C) {call : Zaa} {fa : FA} {g : Option Bool} {id : Nat} {ops : Array Oper} {d : Bool} (n : Nat) (h : Yae x h0 call fa g d ops.toList ops.toList s s') : Yam x h0 call fa n g (.region id ops d) s { s' with tmp := [] } := by
  obtain ⟨h1, h2, h3⟩ := h
  refine ⟨rfl, fun t v hp hv => h1 t v (fun o ho hd => ?_) hv, fun hh => h2 ?_, fun hg ρ a r => ?_⟩
  · simp only [ZmE, List.any_eq_false] at hp
    have := hp o ho
    rw [hd] at this
    simp at this
  · intro o ho
    simp only [Zgn, List.any_eq_false] at hh
    have := hh o ho
    simp only [Bool.not_eq_true] at this
    unfold Zfh
    exact this
  · obtain ⟨σ, a', k1, k2, k3⟩ := h3 hg ρ a r
    refine ⟨σ, { a' with tmp := [] }, k1, ?_, Rel.noTmp (X := ()) k3⟩
    simp only [evQ, k2]
theorem Zxn {s0 : TSt x.X} {P : Nat → Prop} (h : Keep P s0 s) : Keep P s0 { s with env := Zkf s0.env s.env } := by
  intro t v hp hv
  have h1 := h t v hp hv
  have : ∀ (e : List (Nat × TSV x.X)), Zab e t = some (.val v) → Zab (Zkf s0.env e) t = some (.val v) := by
    intro e
    induction e with
    | nil => intro h; exact h
    | cons p e ih =>
      obtain ⟨k, u⟩ := p
      intro h
      simp only [Zab] at h
      simp only [Zkf]
      cases hb : Nat.beq k t with
      | true =>
        rw [hb] at h
        have := Nat.eq_of_beq_eq_true hb
        subst this
        rw [hv]
        simp only [Zab, hb]
        exact h
      | false =>
        rw [hb] at h
        split
        · simp only [Zab, hb, cond_false]; exact ih h
        · exact ih h
  exact this _ h1
theorem YdB (ok : x.U.Ok x.C) {call : Zaa} (hT : CallsOk x call) {R : Type} {fa : FA} (n : Nat) {z : R} (c : Code) : ∀ {g : Option Bool} {s : TSt x.X} {k : TSt x.X → Option R}, s.tmp = [] → evS x fa g c s k = some z →
    ∃ s', k s' = some z ∧ Yam x h0 call fa n g c s s' := by
  induction c with
  | skip => intro g s k ht h; exact ⟨s, h, ht, Keep.refl _ _, fun _ => rfl, fun _ ρ a r => ⟨ρ, a, List.prefix_rfl, rfl, r⟩⟩
  | label l => intro g s k ht h; exact ⟨s, h, ht, Keep.refl _ _, fun _ => rfl, fun _ ρ a r => ⟨ρ, a, List.prefix_rfl, rfl, r⟩⟩
  | region id ops d =>
    intro g s k ht h
    simp only [evS] at h
    obtain ⟨s', h1, h2⟩ := Zs7 (h0 := h0) ok hT h
    exact ⟨_, h1, ZmY ok n h2⟩
  | seq p q ihp ihq =>
    intro g s k ht h
    simp only [evS] at h
    obtain ⟨s1, h1, t1, k1, m1, r1⟩ := ihp ht h
    obtain ⟨s2, h2, t2, k2, m2, r2⟩ := ihq t1 h1
    refine ⟨s2, h2, t2, fun t v hp hv => ?_, fun hh => ?_, fun hg ρ a r => ?_⟩
    · simp only [ZmE, Bool.or_eq_false_iff] at hp
      exact k2 t v hp.2 (k1 t v hp.1 hv)
    · simp only [Zgn, Bool.or_eq_false_iff] at hh
      rw [m2 hh.2, m1 hh.1]
    · obtain ⟨σ, a1, e1, e2, e3⟩ := r1 hg ρ a r
      obtain ⟨τ, a2, e4, e5, e6⟩ := r2 hg σ a1 e3
      exact ⟨τ, a2, e1.trans e4, by simp only [evQ, e2, e5], e6⟩
  | cond c p q ihp ihq =>
    intro g s k ht h
    simp only [evS] at h
    split at h
    · rename_i cb hcb
      obtain ⟨sA, h1, tA, kA, mA, rA⟩ := ihp ht h
      obtain ⟨sB, h2, tB, kB, mB, rB⟩ := ihq ht h1
      obtain ⟨s', h3, t', lA, lB, kk, mm⟩ := ZwV (h0 := h0) ok kA kB mA mB tA tB h2
      refine ⟨s', h3, t', fun t v hp hv => ?_, fun hh => ?_, fun hg ρ a r => ?_⟩
      · simp only [ZmE, Bool.or_eq_false_iff] at hp
        exact kk t v hp hv
      · simp only [Zgn] at hh
        exact mm hh
      · obtain ⟨_, hc, _⟩ := Zcw r (Zax _) hcb (d := .bool cb) rfl
        cases cb with
        | true =>
          obtain ⟨σ, a1, e1, e2, e3⟩ := rA (Zre hg (by simp)) ρ a r
          exact ⟨σ, a1, e1, by simp only [evQ, hc, cond_true, e2], lA rfl _ _ e3⟩
        | false =>
          obtain ⟨σ, a1, e1, e2, e3⟩ := rB (Zre hg (by simp)) ρ a r
          exact ⟨σ, a1, e1, by simp only [evQ, hc, cond_false, e2], lB rfl _ _ e3⟩
    · cases h
  | block id c ih =>
    intro g s k ht h
    simp only [evS] at h
    obtain ⟨s1, h1, t1, k1, m1, r1⟩ := ih ht h
    refine ⟨_, h1, t1, Zxn k1, m1, fun hg ρ a r => ?_⟩
    obtain ⟨σ, a1, e1, e2, e3⟩ := r1 hg ρ a r
    exact ⟨σ, a1.trim a.env, e1, by simp only [evQ, e2], Rel.trimmed r.env e3⟩
  | _ => intro g s k ht h; simp [evS] at h
inductive TORel (x : Cx) (ρ : List Rf) (h0 : Base) : TOut x.X → Out → Prop where
  | norm (s : TSt x.X) (a : St) (ht : s.tmp = []) (r : Rel x.U ρ h0 s a) : TORel x ρ h0 (.norm s) (.norm a)
  | exit (id : Nat) (s : TSt x.X) (a : St) (ht : s.tmp = []) (r : Rel x.U ρ h0 s a) : TORel x ρ h0 (.exit id s) (.exit id a)
  | ret (s : TSt x.X) (a : St) (ht : s.tmp = []) (r : Rel x.U ρ h0 s a) : TORel x ρ h0 (.ret s) (.ret a)
end
end Go.Tev
namespace Go.Tev
open Go.Abs
section
variable {x : Cx} {ρ : List Rf} {h0 : Base} {s s' : TSt x.X} {a : St}
def Ycf (U : Uni) (dir : Bool) (h : List AObj) (u : AV) (w : TV U.X) : Prop := ∀ d, w.dv U = some d → (u = .d d) ∨ (dir = false ∧ ∀ m, Abs.freeze h (m + 1) u = some d)
theorem YaY {dir : Bool} {R : Type} {z : R} {v : TV x.X} {k : TV x.X → Option R} {H : List (TObj x.X)} {h : List AObj} {u : AV} (hr : HR x.U ρ h0 H h) (hv : VRel x.U ρ v u) (hk : Yfx x dir H v k = some z) :
    ∃ w, k w = some z ∧ Ycf x.U dir h u w := by
  have data : ∀ {v : TV x.X}, VRel x.U ρ v u → k v = some z → ∃ w, k w = some z ∧ Ycf x.U dir h u w := fun {v} hv hk => ⟨v, hk, fun d hd => .inl (hv.isD hd)⟩
  cases v <;> simp only [Yfx] at hk <;> (try (cases hk; done)) <;> (try (exact data hv hk))
  · rename_i j g e n
    cases dir with
    | true => cases hk
    | false =>
      simp only [cond_false] at hk
      split at hk
      · rename_i g' ap e' xs hh
        obtain ⟨hb, hk2⟩ := Zcv hk
        clear hk
        have hk := hk2
        clear hk2
        simp only [Bool.and_eq_true, Nat.beq_eq] at hb
        obtain ⟨rfl, rfl⟩ := hb
        split at hk
        · rename_i hn
          simp only [Option.bind_some] at hk
          refine ⟨_, hk, fun d hd => .inr ⟨rfl, fun m => ?_⟩⟩
          cases hd
          cases hv with
          | d v d hd => simp [TV.dv] at hd
          | osl _ i _ _ _ hj =>
            obtain ⟨i', ao, k1, k2, k3⟩ := hr.obj j _ hh
            rw [hj] at k1
            cases k1
            cases k3
            have hb1 : ∀ m, Nat.beq m m = true := fun m => by simp
            have hb2 : Nat.ble n (xs.map fun y => AV.d (x.U.enc e y)).length = true := by rw [Nat.ble_eq]; simpa using hn
            simp only [Abs.freeze, k2, hb1, hb2, Bool.and_self, cond_true]
            rw [← List.map_take]
            have : ∀ (l : List (x.X e)), mapO (Abs.freeze h m) (l.map fun y => AV.d (x.U.enc e y)) = some (l.map (x.U.enc e)) := by
              intro l
              induction l with
              | nil => rfl
              | cons y l ih =>
                have hf : Abs.freeze h m (AV.d (x.U.enc e y)) = some (x.U.enc e y) := by cases m <;> rfl
                simp only [List.map_cons, mapO, hf, ih]
            rw [this]; rfl
        · cases hk
      · cases hk
  · rename_i j
    cases dir with
    | true => cases hk
    | false =>
      simp only [cond_false] at hk
      split at hk
      · rename_i kt vt es hh
        refine ⟨_, hk, fun d hd => .inr ⟨rfl, fun m => ?_⟩⟩
        cases hd
        cases hv with
        | d v d hd => simp [TV.dv] at hd
        | mp _ i hj =>
          obtain ⟨i', ao, k1, k2, k3⟩ := hr.obj j _ hh
          rw [hj] at k1
          cases k1
          cases k3
          simp only [Abs.freeze, k2]
          have : ∀ (l : List (x.X kt × x.X vt)), mapO (fun e => (Abs.freeze h m e.2).map fun v => (e.1, v)) (l.map fun p => (x.U.enc kt p.1, AV.d (x.U.enc vt p.2))) = some (l.map fun p => (x.U.enc kt p.1, x.U.enc vt p.2)) := by
            intro l
            induction l with
            | nil => rfl
            | cons y l ih =>
              have hf : Abs.freeze h m (AV.d (x.U.enc vt y.2)) = some (x.U.enc vt y.2) := by cases m <;> rfl
              simp only [List.map_cons, mapO, hf, ih, Option.map_some]
          rw [this]; rfl
      · cases hk
def YcZ (U : Uni) (dir : Bool) (h : List AObj) (vs : List AV) (ws : List (TV U.X)) : Prop := vs.length = ws.length ∧ ∀ (i : Nat) v w, vs[i]? = some v → ws[i]? = some w → Ycf U dir h v w
theorem Zox (ok : x.U.Ok x.C) {dir : Bool} {R : Type} {z : R} (r : Rel x.U ρ h0 s a) : ∀ {rs : List ResultVar} {k : List (TV x.X) → Option R}, Zv4 x dir s rs k = some z →
    ∃ ws vs, k ws = some z ∧ Zbp x.C a rs = some vs ∧ YcZ x.U dir a.heap vs ws
  | [], k, h => ⟨[], [], h, rfl, rfl, fun i v w h => by simp at h⟩
  | .tmp t :: rs, k, h => by
    simp only [Zv4] at h
    split at h
    · rename_i v hv
      obtain ⟨u, h1, h2⟩ := Zcq r (Zax _) hv
      obtain ⟨w, h3, h4⟩ := YaY r.heap h2 h
      obtain ⟨ws, vs, h5, h6, h7, h8⟩ := Zox ok r h3
      refine ⟨w :: ws, u :: vs, h5, by simp only [Zbp, h1, h6, Option.map_some], by simp [h7], fun i v w hi hj => ?_⟩
      cases i with
      | zero => simp only [List.getElem?_cons_zero, Option.some.injEq] at hi hj; subst hi; subst hj; exact h4
      | succ i => exact h8 i v w (by simpa using hi) (by simpa using hj)
    · cases h
  | .cell t ty :: rs, k, h => by
    simp only [Zv4] at h
    split at h
    · rename_i sl off hv
      split at h
      · rename_i cs hcs
        split at h
        · rename_i v hld
          obtain ⟨z1, h1, h2⟩ := ZgV r (Zax _) hv
          cases h2
          obtain ⟨w1, h3, h4⟩ := r.env _ _ hcs
          cases h4 with
          | box _ ds hd =>
            obtain ⟨d, h9, h10⟩ := ZyH ok (Zha hd off) hld
            obtain ⟨ws, vs, h5, h6, h7, h8⟩ := Zox ok r h
            refine ⟨v :: ws, .d d :: vs, h5, by simp only [Zbp, h1, ZaX, h3, h9, Option.map_some, h6], by simp [h7], fun i v' w hi hj => ?_⟩
            cases i with
            | zero => simp only [List.getElem?_cons_zero, Option.some.injEq] at hi hj; subst hi; subst hj; exact fun d' hd' => .inl (by rw [h10] at hd'; cases hd'; rfl)
            | succ i => exact h8 i v' w (by simpa using hi) (by simpa using hj)
        · cases h
      · cases h
    · cases h
theorem ZlB (ok : x.U.Ok x.C) (ts : List Nat) : ∀ (ws : List (TV x.X)) (y : PX x.X ts) (f : PX x.X ts → List (TV x.X)), Zjj x.U ts ws = some y → Zgh x.U ts = some f → dvL x.U (f y) = dvL x.U ws := by
  induction ts with
  | nil =>
    intro ws y f h hf
    cases ws with
    | nil => simp only [Zgh, Option.some.injEq] at hf; subst hf; rfl
    | cons => rw [Zlb] at h; cases h
  | cons t r ih =>
    intro ws y f h hf
    cases r with
    | nil =>
      cases ws with
      | nil => rw [ZlQ] at h; cases h
      | cons v ws =>
        cases ws with
        | cons => rw [ZlL] at h; cases h
        | nil =>
          rw [Znk] at h
          simp only [Zgh] at hf
          cases hg : x.U.inj t with
          | none => rw [hg] at hf; cases hf
          | some g =>
            rw [hg] at hf
            simp only [Option.some.injEq] at hf
            subst hf
            have h1 := ok.inj t g y hg
            have h2 := ok.prj t v y h
            rw [Zfe h1, Zfe h2]
    | cons u r =>
      cases ws with
      | nil => rw [Zl4] at h; cases h
      | cons v ws =>
        rw [Znv] at h
        cases hz : x.U.prj t v with
        | none => rw [hz] at h; cases h
        | some y1 =>
          rw [hz] at h
          cases hzs : Zjj x.U (u :: r) ws with
          | none => rw [hzs] at h; cases h
          | some ys =>
            rw [hzs] at h
            have hy : y = (y1, ys) := (Option.some.inj h).symm
            subst hy
            simp only [Zgh] at hf
            cases hg : x.U.inj t with
            | none => rw [hg] at hf; cases hf
            | some g =>
              rw [hg] at hf
              cases hg2 : Zgh x.U (u :: r) with
              | none => rw [hg2] at hf; cases hf
              | some g2 =>
                rw [hg2] at hf
                simp only [Option.some.injEq] at hf
                subst hf
                have h1 := ok.inj t g y1 hg
                have h2 := ok.prj t v y1 hz
                have h3 := ih ws ys g2 hzs hg2
                simp only [dvL]
                rw [h1, h2, h3]
theorem ZxS (ak : List AK) : ∀ (vs ws us : List (TV x.X)) (es : List DV), ZeG ak vs = some ws → dvL x.U ws = some es → dvL x.U us = some es → ∃ ds, dvL x.U (Zuc ak us) = some ds ∧ dvL x.U vs = some ds ∧ ds.length = ak.length := by
  induction ak with
  | nil =>
    intro vs ws us es h _ _
    cases vs with
    | nil => exact ⟨[], by simp only [Zuc, dvL], by simp only [dvL], rfl⟩
    | cons => simp [ZeG] at h
  | cons k r ih =>
    intro vs ws us es h h1 h2
    cases vs with
    | nil => cases k <;> simp [ZeG] at h
    | cons v vs =>
      cases k with
      | ty t =>
        simp only [ZeG] at h
        cases hw : ZeG r vs with
        | none => rw [hw] at h; cases h
        | some ws' =>
          rw [hw] at h
          simp only [Option.some.injEq] at h
          subst h
          obtain ⟨d, es', k1, k2, rfl⟩ := ZcS h1
          cases us with
          | nil => have := ZgT h2; cases this
          | cons u us =>
            obtain ⟨d', es2, k3, k4, k5⟩ := ZcS h2
            simp only [List.cons.injEq] at k5
            obtain ⟨rfl, rfl⟩ := k5
            obtain ⟨ds, k6, k7, k8⟩ := ih vs ws' us es' hw k2 k4
            exact ⟨d :: ds, Zb0 k3 k6, Zb0 k1 k7, by simp [k8]⟩
      | fn f =>
        cases v with
        | fn f' caps =>
          cases caps with
          | cons => simp [ZeG] at h
          | nil =>
            simp only [ZeG] at h
            obtain ⟨hb, hh⟩ := Zcv h
            rw [Nat.beq_eq] at hb
            subst hb
            obtain ⟨ds, k6, k7, k8⟩ := ih vs ws us es hh h1 h2
            exact ⟨.fn f [] :: ds, Zb0 rfl k6, Zb0 rfl k7, by simp [k8]⟩
        | _ => simp [ZeG] at h
theorem Zvv : ∀ {vs : List (TV x.X)} {ds : List DV} (k : Nat), dvL x.U vs = some ds → ER x.U ρ (ZvB k vs) (Zgo k (ds.map .d))
  | [], ds, k, h => fun t v hv => by simp [ZvB, Zab] at hv
  | v :: vs, ds, k, h => by
    obtain ⟨d, ds', h1, h2, rfl⟩ := ZcS h
    intro t w hw
    simp only [ZvB, Zab] at hw
    simp only [List.map_cons, Zgo, Zab]
    cases hb : Nat.beq k t with
    | true =>
      rw [hb] at hw
      simp only [cond_true, Option.some.injEq] at hw
      subst hw
      exact ⟨_, rfl, .val _ _ (.d _ _ h1)⟩
    | false =>
      rw [hb] at hw
      exact Zvv (k + 1) h2 t w hw
theorem Yaf (ok : x.U.Ok x.C) {dir : Bool} {h : List AObj} {vs : List AV} {ws : List (TV x.X)} {rts : List Nat} {y : PX x.X rts} {g : PX x.X rts → TV x.X} (hr : YcZ x.U dir h vs ws) (hp : Zjj x.U rts ws = some y) (hg : ZuN x.U rts = some g) :
    ∃ d, (g y).dv x.U = some d ∧ ((ZaW vs = .d d) ∨ (dir = false ∧ Abs.freeze h 100 (ZaW vs) = some d)) := by
  obtain ⟨es, hes⟩ := Zjq ok _ _ _ hp
  have each : ∀ (i : Nat) v e, vs[i]? = some v → es[i]? = some e → v = .d e ∨ (dir = false ∧ ∀ m, Abs.freeze h (m + 1) v = some e) := by
    intro i v e hv he
    have hi : i < ws.length := by rw [Zb5 hes]; exact (List.getElem?_eq_some_iff.1 he).1
    obtain ⟨d, h1, h2⟩ := Zi5 hes i _ (List.getElem?_eq_getElem hi)
    rw [he] at h1
    cases h1
    exact hr.2 i v _ hv (List.getElem?_eq_getElem hi) _ h2
  have hlen : vs.length = es.length := by rw [hr.1, Zb5 hes]
  have many : ∀ (g' : PX x.X rts → List (TV x.X)), Zgh x.U rts = some g' → dvL x.U (g' y) = some es := fun g' hg' => by rw [ZlB ok rts ws y g' hp hg', hes]
  have tup : vs.length ≠ 1 → ((ZaW vs = .d (.tup es)) ∨ (dir = false ∧ Abs.freeze h 100 (ZaW vs) = some (.tup es))) := by
    intro hn
    have hrv : ZaW vs = ZbF vs := by
      cases vs with
      | nil => rfl
      | cons a l => cases l with
        | nil => simp at hn
        | cons => rfl
    rw [hrv]
    unfold ZbF
    cases had : ZcF vs with
    | some ds =>
      have := Znj had
      subst this
      have : ds = es := by
        apply List.ext_getElem?
        intro i
        rcases Nat.lt_or_ge i ds.length with hi | hi
        · have hi' : i < es.length := by simp at hlen; omega
          rcases each i (.d ds[i]) es[i] (by simp [hi]) (List.getElem?_eq_getElem hi') with h1 | ⟨_, h1⟩
          · have h1 : ds[i] = es[i] := by simpa using h1
            rw [List.getElem?_eq_getElem hi, List.getElem?_eq_getElem hi', h1]
          · have := h1 0
            simp only [Abs.freeze, Option.some.injEq] at this
            rw [List.getElem?_eq_getElem hi, List.getElem?_eq_getElem hi', this]
        · rw [List.getElem?_eq_none hi, List.getElem?_eq_none (by simp at hlen; omega)]
      exact .inl (by rw [this])
    | none =>
      right
      have hdir : dir = false := by
        cases hd : dir with
        | false => rfl
        | true =>
          have : vs = es.map .d := by
            apply List.ext_getElem?
            intro i
            rcases Nat.lt_or_ge i vs.length with hi | hi
            · have hi' : i < es.length := by rw [← hlen]; exact hi
              rcases each i vs[i] es[i] (List.getElem?_eq_getElem hi) (List.getElem?_eq_getElem hi') with h1 | ⟨h1, _⟩
              · rw [List.getElem?_eq_getElem hi, h1, List.getElem?_map, List.getElem?_eq_getElem hi']; rfl
              · rw [hd] at h1; cases h1
            · rw [List.getElem?_eq_none hi, List.getElem?_eq_none (by simp; omega)]
          rw [this, Zhl] at had
          cases had
      refine ⟨hdir, ?_⟩
      have fm : ∀ (vs : List AV) (es : List DV), vs.length = es.length → (∀ (i : Nat) v e, vs[i]? = some v → es[i]? = some e → v = .d e ∨ (dir = false ∧ ∀ m, Abs.freeze h (m + 1) v = some e)) → mapO (Abs.freeze h 99) vs = some es := by
        intro vs
        induction vs with
        | nil => intro es hl _; cases es with
          | nil => rfl
          | cons => simp at hl
        | cons v vs ih =>
          intro es hl hh
          cases es with
          | nil => simp at hl
          | cons e es =>
            have h1 : Abs.freeze h 99 v = some e := by
              rcases hh 0 v e rfl rfl with h1 | ⟨_, h1⟩
              · subst h1; rfl
              · exact h1 98
            simp only [mapO, h1, ih es (by simpa using hl) fun i v e k1 k2 => hh (i + 1) v e (by simpa using k1) (by simpa using k2)]
      simp only [Abs.freeze, fm vs es hlen each, Option.map_some]
  cases rts with
  | nil =>
    have hw := hp
    simp only [ZuN, Option.some.injEq] at hg
    subst hg
    have h1 := many (fun _ => []) rfl
    have : es = [] := by simp only [dvL, Option.some.injEq] at h1; exact h1.symm
    subst this
    refine ⟨.tup [], rfl, ?_⟩
    exact tup (by rw [hlen]; simp)
  | cons t r =>
    cases r with
    | nil =>
      have hg' : x.U.inj t = some g := hg
      have h1 := ok.inj t g y hg'
      have h2 := many (fun y => [g y]) (by simp only [Zgh, hg'])
      rw [Zfe h1] at h2
      simp only [Option.some.injEq] at h2
      subst h2
      refine ⟨_, h1, ?_⟩
      cases vs with
      | nil => simp at hlen
      | cons v vs =>
        cases vs with
        | cons => simp at hlen
        | nil =>
          rcases each 0 v _ rfl rfl with k1 | ⟨k1, k2⟩
          · exact .inl k1
          · exact .inr ⟨k1, k2 99⟩
    | cons u r =>
      simp only [ZuN] at hg
      cases hf : Zgh x.U (t :: u :: r) with
      | none => rw [hf] at hg; cases hg
      | some f =>
        rw [hf] at hg
        simp only [Option.some.injEq] at hg
        subst hg
        refine ⟨.tup es, by simp only [TV.dv, many f hf, Option.map_some], ?_⟩
        have h2 : es.length ≠ 1 := by
          have h3 := Zb5 (many f hf)
          simp only [Zgh] at hf
          cases hg1 : x.U.inj t with
          | none => rw [hg1] at hf; cases hf
          | some g1 =>
            rw [hg1] at hf
            cases hg2 : Zgh x.U (u :: r) with
            | none => rw [hg2] at hf; cases hf
            | some g2 =>
              rw [hg2] at hf
              simp only [Option.some.injEq] at hf
              subst hf
              have : ∀ (r : List Nat) (u : Nat) (g2 : PX x.X (u :: r) → List (TV x.X)) y, Zgh x.U (u :: r) = some g2 → (g2 y).length ≠ 0 := by
                intro r u g2 y hg
                cases r with
                | nil =>
                  simp only [Zgh] at hg
                  cases hi : x.U.inj u with
                  | none => rw [hi] at hg; cases hg
                  | some i => rw [hi] at hg; simp only [Option.some.injEq] at hg; subst hg; simp
                | cons w r =>
                  simp only [Zgh] at hg
                  cases hi : x.U.inj u with
                  | none => rw [hi] at hg; cases hg
                  | some i =>
                    rw [hi] at hg
                    cases hi2 : Zgh x.U (w :: r) with
                    | none => rw [hi2] at hg; cases hg
                    | some i2 => rw [hi2] at hg; simp only [Option.some.injEq] at hg; subst hg; simp
              have := this r u g2 y.2 hg2
              simp only [List.length_cons] at h3
              omega
        exact tup (by rw [hlen]; exact h2)
end
end Go.Tev
namespace Go.Tev
open Go.Abs
inductive It where
  | val (slot t : Nat)
  | own (slot e : Nat)
  | box (slot : Nat) (ts : List Nat)
  | osl (slot j e : Nat)
  | mp (slot j : Nat)
  | ptr (slot j off : Nat)
  | fn (slot f : Nat)
  | harr (ap : Bool) (e : Nat)
  | hmap (k v : Nat)
  | hvar (ts : List Nat)
def It.T (X : Nat → Type) : It → Type
  | .val _ t => X t
  | .own _ e => List (X e)
  | .box _ ts => PX X ts
  | .osl _ _ _ => Nat
  | .mp _ _ => Unit
  | .ptr _ _ _ => Unit
  | .fn _ _ => Unit
  | .harr _ e => List (X e)
  | .hmap k v => List (X k × X v)
  | .hvar ts => PX X ts
def PI (X : Nat → Type) : List It → Type
  | [] => Unit
  | i :: r => i.T X × PI X r
def Zdl : List It → Nat
  | [] => 0
  | .harr _ _ :: r => Zdl r + 1
  | .hmap _ _ :: r => Zdl r + 1
  | .hvar _ :: r => Zdl r + 1
  | _ :: r => Zdl r
def ZvJ {X : Nat → Type} : TObj X → Nat
  | .arr g _ _ _ => g
  | _ => 0
def gAt {X : Nat → Type} : List (TObj X) → Nat → Nat
  | [], _ => 0
  | o :: _, 0 => ZvJ o
  | _ :: r, j + 1 => gAt r j
section
variable {U : Uni}
def ZsD (U : Uni) (s : TSt U.X) (n t : Nat) : Option (U.X t) := match Zab s.env n, U.inj t with
    | some (.val v), some _ => U.prj t v
    | _, _ => none
def ZsA (U : Uni) (s : TSt U.X) (n e : Nat) : Option (List (U.X e)) := match Zab s.env n with
    | some (.own e' xs) => Zih e' e xs
    | _ => none
def ZsV (U : Uni) (s : TSt U.X) (n : Nat) (ts : List Nat) : Option (PX U.X ts) := match Zab s.env n, Zgh U ts with
    | some (.box cs), some _ => Zjj U ts cs
    | _, _ => none
def ZtD (U : Uni) (m : Nat) (s : TSt U.X) (n j e : Nat) : Option Nat := match Zab s.env n with
    | some (.val (.osl j' g' e' k)) => bif Nat.beq j j' && Nat.beq g' (gAt s.heap j') && Nat.beq e e' && Nat.blt j m then some k else none
    | _ => none
def ZzG (U : Uni) (m : Nat) (s : TSt U.X) (n j : Nat) : Option Unit := match Zab s.env n with
    | some (.val (.mp j')) => bif Nat.beq j j' && Nat.blt j m then some () else none
    | _ => none
def Zsh (U : Uni) (m : Nat) (s : TSt U.X) (n j off : Nat) : Option Unit := match Zab s.env n with
    | some (.val (.ptr j' off')) => bif Nat.beq j j' && Nat.beq off off' && Nat.blt j m then some () else none
    | _ => none
def Zyv (U : Uni) (s : TSt U.X) (n f : Nat) : Option Unit := match Zab s.env n with
    | some (.val (.fn f' [])) => bif Nat.beq f f' then some () else none
    | _ => none
def ZvP (U : Uni) (h : List (TObj U.X)) (ap : Bool) (e : Nat) : Option (List (U.X e)) := match h with
    | .arr _ ap' e' xs :: _ => bif ap == ap' then Zih e' e xs else none
    | _ => none
def Zxg (U : Uni) (h : List (TObj U.X)) (k v : Nat) : Option (List (U.X k × U.X v)) := match h with
    | .map k' v' es :: _ => match Zfg (X := fun n => List (U.X n × U.X v')) k' k es with
      | some e1 => Zfg (X := fun n => List (U.X k × U.X n)) v' v e1
      | none => none
    | _ => none
def Zv9 (U : Uni) (h : List (TObj U.X)) (ts : List Nat) : Option (PX U.X ts) := match h with
    | .var cs :: _ => (match Zgh U ts with
      | some _ => Zjj U ts cs
      | none => none)
    | _ => none
def Yd3 (U : Uni) (m : Nat) (s : TSt U.X) (h : List (TObj U.X)) : (i : It) → Option (i.T U.X)
  | .val n t => ZsD U s n t
  | .own n e => ZsA U s n e
  | .box n ts => ZsV U s n ts
  | .osl n j e => ZtD U m s n j e
  | .mp n j => ZzG U m s n j
  | .ptr n j off => Zsh U m s n j off
  | .fn n f => Zyv U s n f
  | .harr ap e => ZvP U h ap e
  | .hmap k v => Zxg U h k v
  | .hvar ts => Zv9 U h ts
def It.heap : It → Bool
  | .harr _ _ => true
  | .hmap _ _ => true
  | .hvar _ => true
  | _ => false
def ZqU (U : Uni) (m : Nat) (s : TSt U.X) : List (TObj U.X) → (its : List It) → Option (PI U.X its)
  | _, [] => some ()
  | h, i :: r => match Yd3 U m s h i with
    | some y => match ZqU U m s (bif i.heap then h.drop 1 else h) r with
      | some ys => some (y, ys)
      | none => none
    | none => none
def ZtM (U : Uni) : (i : It) → i.T U.X → List (Nat × TSV U.X)
  | .val n t, y => match U.inj t with
    | some f => [(n, .val (f y))]
    | none => []
  | .own n e, xs => [(n, .own e xs)]
  | .box n ts, y => match Zgh U ts with
    | some f => [(n, .box (f y))]
    | none => []
  | .osl n j e, k => [(n, .val (.osl j 0 e k))]
  | .mp n j, _ => [(n, .val (.mp j))]
  | .ptr n j off, _ => [(n, .val (.ptr j off))]
  | .fn n f, _ => [(n, .val (.fn f []))]
  | .harr _ _, _ => []
  | .hmap _ _, _ => []
  | .hvar _, _ => []
def Zzg (U : Uni) : (i : It) → i.T U.X → List (TObj U.X)
  | .harr ap e, xs => [.arr 0 ap e xs]
  | .hmap k v, es => [.map k v es]
  | .hvar ts, y => match Zgh U ts with
    | some f => [.var (f y)]
    | none => []
  | _, _ => []
def Zx4 (U : Uni) : (its : List It) → PI U.X its → List (Nat × TSV U.X)
  | [], _ => []
  | i :: r, y => ZtM U i y.1 ++ Zx4 U r y.2
def Yau (U : Uni) : (its : List It) → PI U.X its → List (TObj U.X)
  | [], _ => []
  | i :: r, y => Zzg U i y.1 ++ Yau U r y.2
def encS (U : Uni) (cs its : List It) (c : PI U.X cs) (y : PI U.X its) : TSt U.X := ⟨Zx4 U cs c ++ Zx4 U its y, [], Yau U its y⟩
structure LD where
  nr : Nat := 0
  cap : List It
  din : List It
  dex : List (Nat × List It)
  ret : List It
def LD.ex (D : LD) (i : Nat) : List It := match Zab D.dex i with
  | some d => d
  | none => []
def Zkd {σ R : Type} (g : σ → (σ → Option R) → Option R) : Nat → σ → Option R
  | 0, _ => none
  | n + 1, y => g y (Zkd g n)
abbrev LG (U : Uni) (R : Type) (D : LD) : Type := PI U.X D.cap → ((i : Nat) → PI U.X (D.ex i) → Option R) → (PI U.X D.ret → Option R) → PI U.X D.din → (PI U.X D.din → Option R) → Option R
abbrev Yba (U : Uni) (R : Type) : Type := (TOut U.X → Option R) → TSt U.X → Option R
def Zgy (U : Uni) {R : Type} (D : LD) (g : LG U R D) (n : Nat) : Yba U R := fun k s =>
  match bif Nat.ble D.nr (Zdl D.din) then ZqU U (Zdl D.din) s s.heap D.cap else none, ZqU U (Zdl D.din) s s.heap D.din with
  | some c, some y => Zkd (g c (fun i z => k (.exit i (encS U D.cap (D.ex i) c z))) (fun z => k (.ret (encS U [] D.ret () z)))) n y
  | _, _ => none
def Zfx (U : Uni) {R : Type} (D : LD) (kx : (i : Nat) → PI U.X D.cap → PI U.X (D.ex i) → Option R) (kr : PI U.X D.ret → Option R) (k1 : PI U.X D.cap → PI U.X D.din → Option R) : TOut U.X → Option R
  | .norm s => match bif Nat.ble D.nr (Zdl D.din) then ZqU U (Zdl D.din) s s.heap D.cap else none, ZqU U (Zdl D.din) s s.heap D.din with
    | some c, some y => k1 c y
    | _, _ => none
  | .exit i s => match bif Nat.ble D.nr (Zdl (D.ex i)) then ZqU U (Zdl (D.ex i)) s s.heap D.cap else none, ZqU U (Zdl (D.ex i)) s s.heap (D.ex i) with
    | some c, some y => kx i c y
    | _, _ => none
  | .ret s => match bif Nat.ble D.nr (Zdl D.ret) then ZqU U (Zdl D.ret) s s.heap D.ret else none with
    | some y => kr y
    | none => none
end
section
variable (x : Cx)
abbrev ZfY (R : Type) := List (Nat × Yba x.U R)
def evL {R : Type} (fa : FA) (sums : ZfY x R) : Nat → Code → (TOut x.X → Option R) → TSt x.X → Option R
  | _, .skip, k, s => k (.norm s)
  | _, .label _, k, s => k (.norm s)
  | _, .region _ ops d, k, s => evR x fa none d ops.toList ops.toList s fun s' => k (.norm { s' with tmp := [] })
  | id, .seq a b, k, s => evL fa sums id a (fun o => match o with
    | .norm s' => evL fa sums id b k s'
    | .exit i s' => k (.exit i s')
    | .ret s' => k (.ret s')) s
  | id, .cond c a b, k, s => match Zfd s [] c with
    | some (.b cb) => bif ZiS a && ZiS b then evS x fa (some cb) a s fun sA => evS x fa (some (!cb)) b s fun sB => merge x cb a b s sA sB fun s' => k (.norm s')
      else cond cb (evL fa sums id a k s) (evL fa sums id b k s)
    | _ => none
  | _, .block id c, k, s => evL fa sums id c (fun o => match o with
    | .norm s' => k (.norm { s' with env := Zkf s.env s'.env })
    | .exit i s' => bif Nat.beq i id then k (.norm { s' with env := Zkf s.env s'.env }) else k (.exit i s')
    | .ret s' => k (.ret s')) s
  | id, .loop c, k, s => match Zab sums id with
    | some L => L k s
    | none => none
  | _, .exit id, k, s => k (.exit id s)
  | _, .ret, k, s => k (.ret s)
  | _, _, _, _ => none
def ZaD : Nat → Code → List (Nat × Code)
  | id, .seq a b => ZaD id a ++ ZaD id b
  | id, .cond _ a b => ZaD id a ++ ZaD id b
  | _, .block id c => ZaD id c
  | id, .loop c => (id, c) :: ZaD id c
  | _, _ => []
def ZaH (c : Code) (id : Nat) : Code := match Zab (ZaD 0 c) id with
  | some b => b
  | none => .skip
def fnL (dir : Bool) (f : FuncId) (fn : Func) (ak : List AK) (rts : List Nat) (sums : ZfY x (PX x.X rts)) (a : PX x.X (AK.tys ak)) : Option (PX x.X rts) :=
  match Ydl x.U ak a with
  | some vs => evL x (x.C.ann f) sums 0 (Zad fn) (endK x dir fn rts) ⟨ZvB 0 vs, [], []⟩
  | none => none
end
end Go.Tev
namespace Go.Tev
open Go.Abs
section
variable {x : Cx} {ρ : List Rf} {h0 : Base} {s s' : TSt x.X} {a : St}
theorem ZiN {ρ : List Rf} {m j : Nat} {i : Rf} (h : ρ[j]? = some i) (hj : j < m) : (ρ.take m)[j]? = some i := by
  rw [List.getElem?_take, if_pos hj, h]
def upR {X : Nat → Type} : List (TObj X) → List Rf → List Rf
  | o :: H, i :: ρ => ⟨i.id, i.off + ZvJ o⟩ :: upR H ρ
  | _, _ => []
theorem Zh2 {X : Nat → Type} : ∀ {H : List (TObj X)} {ρ : List Rf} {j : Nat} {i : Rf}, ρ.length = H.length → ρ[j]? = some i → (upR H ρ)[j]? = some ⟨i.id, i.off + gAt H j⟩
  | [], [], j, i, _, h => by simp at h
  | o :: H, r :: ρ, 0, i, hl, h => by
    simp only [List.getElem?_cons_zero, Option.some.injEq] at h
    subst h; rfl
  | o :: H, r :: ρ, j + 1, i, hl, h => by
    simp only [upR, List.getElem?_cons_succ, gAt] at h ⊢
    exact Zh2 (by simpa using hl) h
  | [], _ :: _, _, _, hl, _ => by simp at hl
  | _ :: _, [], _, _, hl, _ => by simp at hl
theorem ZwC {X : Nat → Type} : ∀ {H : List (TObj X)} {ρ : List Rf}, ρ.length = H.length → (upR H ρ).map Rf.id = ρ.map Rf.id
  | [], [], _ => rfl
  | o :: H, r :: ρ, hl => by
    simp only [upR, List.map_cons, ZwC (H := H) (ρ := ρ) (by simpa using hl)]
  | [], _ :: _, hl => by simp at hl
  | _ :: _, [], hl => by simp at hl
theorem ZwN {X : Nat → Type} : ∀ {H : List (TObj X)} {j : Nat} {o : TObj X}, H[j]? = some o → gAt H j = ZvJ o
  | o :: H, 0, p, h => by simp only [List.getElem?_cons_zero, Option.some.injEq] at h; subst h; rfl
  | o :: H, j + 1, p, h => by simp only [gAt]; exact ZwN (by simpa using h)
  | [], _, _, h => by simp at h
theorem SRel.data {v w : TV x.X} {d : DV} (h1 : v.dv x.U = some d) (h2 : w.dv x.U = some d) {ρ σ : List Rf} {u : SV} (h : SRel x.U ρ (.val v) u) : SRel x.U σ (.val w) u := by
  cases h with
  | val _ u h => rw [h.isD h1]; exact .val _ _ (.d _ _ h2)
theorem Zy5 (ok : x.U.Ok x.C) {m : Nat} {h : List (TObj x.X)} {i : It} {y : i.T x.X} (hd : Yd3 x.U m s h i = some y) : ∀ p ∈ ZtM x.U i y, ∃ w, Zab s.env p.1 = some w ∧ ∀ ρ u, ρ.length = s.heap.length → SRel x.U ρ w u → SRel x.U ((upR s.heap ρ).take m) p.2 u := by
  intro p hp
  cases i with
  | val n t =>
    change x.U.X t at y
    change ZsD x.U s n t = some y at hd
    unfold ZsD at hd
    split at hd
    · rename_i v f hv hf
      simp only [ZtM, hf, List.mem_singleton] at hp
      subst hp
      exact ⟨_, hv, fun ρ u hl hu => hu.data (ok.prj _ _ _ hd) (ok.inj _ _ _ hf)⟩
    · cases hd
  | own n e =>
    change List (x.U.X e) at y
    change ZsA x.U s n e = some y at hd
    unfold ZsA at hd
    split at hd
    · rename_i e' xs hv
      obtain ⟨he, hc⟩ := Zc7 hd
      subst he
      cases hc
      simp only [ZtM, List.mem_singleton] at hp
      subst hp
      exact ⟨_, hv, fun ρ u hl hu => by cases hu; exact .own _ _⟩
    · cases hd
  | box n ts =>
    change PX x.U.X ts at y
    change ZsV x.U s n ts = some y at hd
    unfold ZsV at hd
    split at hd
    · rename_i cs f hv hf
      simp only [ZtM, hf, List.mem_singleton] at hp
      subst hp
      refine ⟨_, hv, fun ρ u hl hu => ?_⟩
      cases hu with
      | box _ ds hds => exact .box _ _ (by rw [ZlB ok ts cs y f hd hf, hds])
    · cases hd
  | osl n j e =>
    change Nat at y
    change ZtD x.U m s n j e = some y at hd
    unfold ZtD at hd
    split at hd
    · rename_i j' g' e' k hv
      obtain ⟨hb, hd2⟩ := Zcv hd
      simp only [Bool.and_eq_true, Nat.beq_eq] at hb
      obtain ⟨⟨⟨rfl, hgen⟩, rfl⟩, hm⟩ := hb
      cases hd2
      simp only [ZtM, List.mem_singleton] at hp
      subst hp
      refine ⟨_, hv, fun ρ u hl hu => ?_⟩
      cases hu with
      | val _ u hu =>
        cases hu with
        | d v d hd => simp [TV.dv] at hd
        | osl _ i _ _ _ hj =>
          have := VRel.osl (U := x.U) _ _ 0 e y (ZiN (Zh2 hl hj) (by simpa [Nat.blt_eq] using hm))
          rw [hgen]
          refine .val _ _ ?_
          rw [show 0 + (i.off + gAt s.heap j) = gAt s.heap j + i.off from by omega] at this
          exact this
    · cases hd
  | mp n j =>
    change Unit at y
    change ZzG x.U m s n j = some y at hd
    unfold ZzG at hd
    split at hd
    · rename_i j' hv
      obtain ⟨hb, hd2⟩ := Zcv hd
      simp only [Bool.and_eq_true, Nat.beq_eq] at hb
      obtain ⟨rfl, hm⟩ := hb
      simp only [ZtM, List.mem_singleton] at hp
      subst hp
      refine ⟨_, hv, fun ρ u hl hu => ?_⟩
      cases hu with
      | val _ u hu =>
        cases hu with
        | d v d hd => simp [TV.dv] at hd
        | mp _ i hj => exact .val _ _ (.mp _ ⟨i.id, i.off + gAt s.heap _⟩ (ZiN (Zh2 hl hj) (by simpa [Nat.blt_eq] using hm)))
    · cases hd
  | ptr n j off =>
    change Unit at y
    change Zsh x.U m s n j off = some y at hd
    unfold Zsh at hd
    split at hd
    · rename_i j' off' hv
      obtain ⟨hb, hd2⟩ := Zcv hd
      simp only [Bool.and_eq_true, Nat.beq_eq] at hb
      obtain ⟨⟨rfl, rfl⟩, hm⟩ := hb
      simp only [ZtM, List.mem_singleton] at hp
      subst hp
      refine ⟨_, hv, fun ρ u hl hu => ?_⟩
      cases hu with
      | val _ u hu =>
        cases hu with
        | d v d hd => simp [TV.dv] at hd
        | ptr _ i _ hj => exact .val _ _ (.ptr _ ⟨i.id, i.off + gAt s.heap _⟩ _ (ZiN (Zh2 hl hj) (by simpa [Nat.blt_eq] using hm)))
    · cases hd
  | fn n f =>
    change Unit at y
    change Zyv x.U s n f = some y at hd
    unfold Zyv at hd
    split at hd
    · rename_i f' hv
      obtain ⟨hb, hd2⟩ := Zcv hd
      rw [Nat.beq_eq] at hb
      subst hb
      simp only [ZtM, List.mem_singleton] at hp
      subst hp
      exact ⟨_, hv, fun ρ u hl hu => hu.data rfl rfl⟩
    · cases hd
  | harr => simp [ZtM] at hp
  | hmap => simp [ZtM] at hp
  | hvar => simp [ZtM] at hp
theorem Zoz (ok : x.U.Ok x.C) {m : Nat} : ∀ {its : List It} {h : List (TObj x.X)} {y : PI x.X its}, ZqU x.U m s h its = some y → ∀ p ∈ Zx4 x.U its y, ∃ w, Zab s.env p.1 = some w ∧ ∀ ρ u, ρ.length = s.heap.length → SRel x.U ρ w u → SRel x.U ((upR s.heap ρ).take m) p.2 u
  | [], h, y, hd, p, hp => by simp [Zx4] at hp
  | i :: r, h, y, hd, p, hp => by
    simp only [ZqU] at hd
    split at hd
    · rename_i y1 h1
      split at hd
      · rename_i ys h2
        cases hd
        simp only [Zx4, List.mem_append] at hp
        rcases hp with hp | hp
        · exact Zy5 ok h1 p hp
        · exact Zoz ok h2 p hp
      · cases hd
    · cases hd
theorem ZyS (ok : x.U.Ok x.C) {m : Nat} {h : List (TObj x.X)} {i : It} {y : i.T x.X} (hd : Yd3 x.U m s h i = some y) : match i.heap with
    | true => ∃ o o' r, h = o :: r ∧ Zzg x.U i y = [o'] ∧ ∀ ρ σ d w, ORel x.U ρ d o w → ORel x.U σ (d + ZvJ o) o' w
    | false => Zzg x.U i y = [] := by
  cases i with
  | harr ap e =>
    change List (x.U.X e) at y
    change ZvP x.U h ap e = some y at hd
    unfold ZvP at hd
    split at hd
    · rename_i g' ap' e' xs r
      obtain ⟨hb, hd2⟩ := Zcv hd
      simp only [beq_iff_eq] at hb
      subst hb
      obtain ⟨he, hc⟩ := Zc7 hd2
      subst he
      cases hc
      refine ⟨_, _, r, rfl, rfl, fun ρ σ d w hw => ?_⟩
      cases hw
      have := ORel.arr (U := x.U) (ρ := σ) (d + g') 0 ap e' xs
      rw [show 0 + (d + g') = g' + d from by omega] at this
      exact this
    · cases hd
  | hmap k v =>
    change List (x.U.X k × x.U.X v) at y
    change Zxg x.U h k v = some y at hd
    unfold Zxg at hd
    split at hd
    · rename_i k' v' es r
      split at hd
      · rename_i e1 h1
        obtain ⟨he, h1⟩ := ZbY h1
        subst he
        cases h1
        obtain ⟨he, h2⟩ := ZbY hd
        subst he
        cases h2
        exact ⟨_, _, r, rfl, rfl, fun ρ σ d w hw => by cases hw; exact .map _ _ _ _⟩
      · cases hd
    · cases hd
  | hvar ts =>
    change PX x.U.X ts at y
    change Zv9 x.U h ts = some y at hd
    unfold Zv9 at hd
    split at hd
    · rename_i cs r
      split at hd
      · rename_i f hf
        refine ⟨_, _, r, rfl, by simp only [Zzg, hf]; rfl, fun ρ σ d w hw => ?_⟩
        cases hw with
        | var _ as has =>
          obtain ⟨ds, h1⟩ := Zjq ok _ _ _ hd
          have := has.dv h1
          subst this
          exact .var _ _ _ (VRels.of_dvL (by rw [ZlB ok ts cs y f hd hf, h1]))
      · cases hd
    · cases hd
  | _ => rfl
theorem Ztc (ok : x.U.Ok x.C) {m : Nat} : ∀ {its : List It} {h : List (TObj x.X)} {y : PI x.X its}, ZqU x.U m s h its = some y →
    (Yau x.U its y).length = Zdl its ∧ Zdl its ≤ h.length ∧ ∀ (j : Nat) o', (Yau x.U its y)[j]? = some o' → ∃ o, h[j]? = some o ∧ ∀ ρ σ d w, ORel x.U ρ d o w → ORel x.U σ (d + ZvJ o) o' w
  | [], h, y, hd => ⟨rfl, Nat.zero_le _, fun j o' hj => by simp [Yau] at hj⟩
  | i :: r, h, y, hd => by
    simp only [ZqU] at hd
    split at hd
    · rename_i y1 h1
      split at hd
      · rename_i ys h2
        cases hd
        have ho := ZyS ok h1
        obtain ⟨k1, k2, k3⟩ := Ztc ok h2
        cases hh : i.heap with
        | true =>
          rw [hh] at ho k2 k3
          obtain ⟨o, o', r', rfl, e1, e2⟩ := ho
          simp only [cond_true, List.drop_succ_cons, List.drop_zero] at k2 k3
          have hn : Zdl (i :: r) = Zdl r + 1 := by cases i <;> simp [It.heap] at hh <;> rfl
          refine ⟨by simp only [Yau, e1, List.cons_append, List.nil_append, List.length_cons, k1, hn], by simp [hn]; omega, fun j p hj => ?_⟩
          simp only [Yau, e1, List.cons_append, List.nil_append] at hj
          cases j with
          | zero => simp only [List.getElem?_cons_zero, Option.some.injEq] at hj; subst hj; exact ⟨o, rfl, e2⟩
          | succ j => exact k3 j p (by simpa using hj)
        | false =>
          rw [hh] at ho k2 k3
          simp only [cond_false] at k2 k3
          simp only at ho
          have hn : Zdl (i :: r) = Zdl r := by cases i <;> simp [It.heap] at hh <;> rfl
          rw [hn]
          simp only [Yau, ho, List.nil_append]
          exact ⟨k1, k2, k3⟩
      · cases hd
    · cases hd
theorem Zn6 (ok : x.U.Ok x.C) {cs its : List It} {c : PI x.X cs} {y : PI x.X its} (h1 : ZqU x.U (Zdl its) s s.heap cs = some c) (h2 : ZqU x.U (Zdl its) s s.heap its = some y) (r : Rel x.U ρ h0 s a) (ht : s.tmp = []) (hnr : h0.nr ≤ Zdl its) :
    Rel x.U ((upR s.heap ρ).take (Zdl its)) h0 (encS x.U cs its c y) a := by
  have hl := r.heap.len
  have hids := ZwC hl
  obtain ⟨k1, k2, k3⟩ := Ztc ok h2
  refine ⟨fun t v hv => ?_, ?_, ?_⟩
  · have hm := ZgS hv
    rcases List.mem_append.1 hm with hm | hm
    · obtain ⟨w, e1, e2⟩ := Zoz ok h1 _ hm
      obtain ⟨u, e3, e4⟩ := r.env _ _ e1
      exact ⟨u, e3, e2 _ _ hl e4⟩
    · obtain ⟨w, e1, e2⟩ := Zoz ok h2 _ hm
      obtain ⟨u, e3, e4⟩ := r.env _ _ e1
      exact ⟨u, e3, e2 _ _ hl e4⟩
  · have := r.tmp
    refine ⟨fun t _ => r.tmp.no t (by rw [ht]; rfl), fun t e h => by simp [encS, Zab] at h, fun t e h => by simp [encS, Zab] at h, fun k hk => r.tmp.nosp k (by rw [ht]; rfl)⟩
  · have hll : (upR s.heap ρ).length = s.heap.length := by
      have := congrArg List.length hids
      simpa [hl] using this
    refine ⟨?_, ?_, fun j o' hj => ?_, fun i hi hm => ?_, r.heap.grow, fun j i hj hi => ?_, ?_⟩
    · simp only [encS, List.length_take, k1]; omega
    · rw [List.map_take, hids]
      exact (List.take_sublist _ _).nodup r.heap.nd
    · obtain ⟨o, e1, e2⟩ := k3 j o' hj
      obtain ⟨i, ao, e3, e4, e5⟩ := r.heap.obj j o e1
      have hjl : j < Zdl its := by rw [← k1]; exact (List.getElem?_eq_some_iff.1 hj).1
      exact ⟨_, ao, ZiN (Zh2 hl e3) hjl, e4, by have := e2 _ ((upR s.heap ρ).take (Zdl its)) _ _ e5; rw [← ZwN e1] at this; exact this⟩
    · refine r.heap.frame i hi fun hm2 => ?_
      obtain ⟨f, hf, rfl⟩ := List.mem_map.1 hm2
      obtain ⟨j, hj, rfl⟩ := List.mem_iff_getElem.1 hf
      rcases Nat.lt_or_ge j (Zdl its) with hlt | hge
      · exact hm (List.mem_map.2 ⟨_, List.mem_iff_getElem?.2 ⟨j, ZiN (Zh2 hl (List.getElem?_eq_getElem hj)) hlt⟩, rfl⟩)
      · have := r.heap.fresh j _ (Nat.le_trans hnr hge) (List.getElem?_eq_getElem hj)
        omega
    · rw [List.getElem?_take] at hi
      split at hi
      · have hjl : j < ρ.length := by
          have := (List.getElem?_eq_some_iff.1 hi).1
          rw [hll, ← hl] at this; exact this
        have e := Zh2 hl (List.getElem?_eq_getElem hjl)
        rw [hi] at e
        cases e
        exact r.heap.fresh j ρ[j] hj (List.getElem?_eq_getElem hjl)
      · cases hi
    · rw [List.map_take, hids]
      obtain ⟨t, ht⟩ := r.heap.pre
      rw [← ht, List.take_append]
      rw [List.take_of_length_le hnr]
      exact List.prefix_append _ _
def Law (x : Cx) (h0 : Base) (call : Zaa) (fa : FA) (n : Nat) (c : Code) {R : Type} (L : Yba x.U R) : Prop := ∀ (k : TOut x.X → Option R) (s : TSt x.X) (z : R), s.tmp = [] → L k s = some z → ∀ ρ a, Rel x.U ρ h0 s a →
  ∃ o' o σ, k o' = some z ∧ iter (evQ x.C call fa n c) a.env n a = some o ∧ TORel x σ h0 o' o
theorem Zv6 (ok : x.U.Ok x.C) {call : Zaa} (hT : CallsOk x call) {R : Type} {fa : FA} (n : Nat) {sums : ZfY x R} (c : Code) : ∀ {id : Nat}, (∀ i c' L, (i, c') ∈ ZaD id c → Zab sums i = some L → Law x h0 call fa n c' L) →
    ∀ {s : TSt x.X} {k : TOut x.X → Option R} {z : R}, s.tmp = [] → evL x fa sums id c k s = some z → ∀ ρ a, Rel x.U ρ h0 s a → ∃ o' o σ, k o' = some z ∧ evQ x.C call fa n c a = some o ∧ TORel x σ h0 o' o := by
  induction c with
  | skip => intro id hS s k z ht h ρ a r; exact ⟨_, _, ρ, h, rfl, .norm _ _ ht r⟩
  | label l => intro id hS s k z ht h ρ a r; exact ⟨_, _, ρ, h, rfl, .norm _ _ ht r⟩
  | exit i => intro id hS s k z ht h ρ a r; exact ⟨_, _, ρ, h, rfl, .exit _ _ _ ht r⟩
  | ret => intro id hS s k z ht h ρ a r; exact ⟨_, _, ρ, h, rfl, .ret _ _ ht r⟩
  | region i ops d =>
    intro id hS s k z ht h ρ a r
    simp only [evL] at h
    obtain ⟨s', h1, h2⟩ := Zs7 (h0 := h0) ok hT h
    obtain ⟨t1, _, _, h3⟩ := ZmY (id := i) ok n h2
    obtain ⟨σ, a', e1, e2, e3⟩ := h3 (by simp) ρ a r
    exact ⟨_, _, σ, h1, e2, .norm _ _ t1 e3⟩
  | seq p q ihp ihq =>
    intro id hS s k z ht h ρ a r
    simp only [evL] at h
    obtain ⟨o', o, σ, h1, h2, h4⟩ := ihp (fun i c' L hm => hS i c' L (by simp only [ZaD, List.mem_append]; exact .inl hm)) ht h ρ a r
    cases h4 with
    | norm s1 a1 ht1 r1 =>
      simp only at h1
      obtain ⟨o2', o2, τ, k1, k2, k4⟩ := ihq (fun i c' L hm => hS i c' L (by simp only [ZaD, List.mem_append]; exact .inr hm)) ht1 h1 σ a1 r1
      exact ⟨o2', o2, τ, k1, by simp only [evQ, h2, k2], k4⟩
    | exit i s1 a1 ht1 r1 => exact ⟨_, _, σ, h1, by simp only [evQ, h2], .exit _ _ _ ht1 r1⟩
    | ret s1 a1 ht1 r1 => exact ⟨_, _, σ, h1, by simp only [evQ, h2], .ret _ _ ht1 r1⟩
  | cond c p q ihp ihq =>
    intro id hS s k z ht h ρ a r
    simp only [evL] at h
    split at h
    · rename_i cb hcb
      cases hs : (ZiS p && ZiS q) with
      | true =>
        rw [hs] at h
        simp only [cond_true] at h
        have h' : evS x fa none (.cond c p q) s (fun s' => k (.norm s')) = some z := by
          simp only [evS, hcb, ZxG]
          exact h
        obtain ⟨s', h1, t1, _, _, h3⟩ := YdB (h0 := h0) ok hT n (.cond c p q) ht h'
        obtain ⟨σ, a', e1, e2, e3⟩ := h3 (by simp) ρ a r
        exact ⟨_, _, σ, h1, e2, .norm _ _ t1 e3⟩
      | false =>
        rw [hs] at h
        simp only [cond_false] at h
        obtain ⟨_, hc, _⟩ := Zcw r (Zax _) hcb (d := .bool cb) rfl
        cases cb with
        | true =>
          obtain ⟨o', o, σ, h1, h2, h4⟩ := ihp (fun i c' L hm => hS i c' L (by simp only [ZaD, List.mem_append]; exact .inl hm)) ht h ρ a r
          exact ⟨o', o, σ, h1, by simp only [evQ, hc, cond_true, h2], h4⟩
        | false =>
          obtain ⟨o', o, σ, h1, h2, h4⟩ := ihq (fun i c' L hm => hS i c' L (by simp only [ZaD, List.mem_append]; exact .inr hm)) ht h ρ a r
          exact ⟨o', o, σ, h1, by simp only [evQ, hc, cond_false, h2], h4⟩
    · cases h
  | block i c ih =>
    intro id hS s k z ht h ρ a r
    simp only [evL] at h
    obtain ⟨o', o, σ, h1, h2, h4⟩ := ih (fun j c' L hm => hS j c' L (by simp only [ZaD]; exact hm)) ht h ρ a r
    cases h4 with
    | norm s1 a1 ht1 r1 =>
      exact ⟨_, _, σ, h1, by simp only [evQ, h2], .norm _ _ ht1 (Rel.trimmed r.env r1)⟩
    | exit j s1 a1 ht1 r1 =>
      simp only at h1
      cases hb : Nat.beq j i with
      | true =>
        rw [hb] at h1
        exact ⟨_, _, σ, h1, by simp only [evQ, h2, hb, cond_true], .norm _ _ ht1 (Rel.trimmed r.env r1)⟩
      | false =>
        rw [hb] at h1
        exact ⟨_, _, σ, h1, by simp only [evQ, h2, hb, cond_false], .exit _ _ _ ht1 r1⟩
    | ret s1 a1 ht1 r1 => exact ⟨_, _, σ, h1, by simp only [evQ, h2], .ret _ _ ht1 r1⟩
  | loop c ih =>
    intro id hS s k z ht h ρ a r
    simp only [evL] at h
    split at h
    · rename_i L hL
      obtain ⟨o', o, σ, h1, h2, h3⟩ := hS id c L (by simp [ZaD]) hL k s z ht h ρ a r
      exact ⟨o', o, σ, h1, h2, h3⟩
    · cases h
  | _ => intro id hS s k z ht h; simp [evL] at h
def slotsOf : List It → List Nat
  | [] => []
  | .val n _ :: r => n :: slotsOf r
  | .own n _ :: r => n :: slotsOf r
  | .box n _ :: r => n :: slotsOf r
  | .osl n _ _ :: r => n :: slotsOf r
  | .mp n _ :: r => n :: slotsOf r
  | .ptr n _ _ :: r => n :: slotsOf r
  | .fn n _ :: r => n :: slotsOf r
  | _ :: r => slotsOf r
theorem Zi3 : ∀ {its : List It} {y : PI x.X its} {p : Nat × TSV x.X}, p ∈ Zx4 x.U its y → p.1 ∈ slotsOf its
  | [], y, p, hp => by simp [Zx4] at hp
  | i :: r, y, p, hp => by
    simp only [Zx4, List.mem_append] at hp
    rcases hp with hp | hp
    · cases i <;> simp only [ZtM] at hp <;> (try (simp at hp; done)) <;> (try (simp only [List.mem_singleton] at hp; subst hp; simp [slotsOf]; done))
      · split at hp
        · simp only [List.mem_singleton] at hp; subst hp; simp [slotsOf]
        · simp at hp
      · split at hp
        · simp only [List.mem_singleton] at hp; subst hp; simp [slotsOf]
        · simp at hp
    · have := Zi3 hp
      cases i <;> simp [slotsOf, this]
theorem ZlI {m : Nat} : ∀ {its : List It} {h : List (TObj x.X)} {y : PI x.X its}, ZqU x.U m s h its = some y → ∀ t ∈ slotsOf its, (Zab s.env t).isSome = true
  | [], h, y, hd, t, ht => by simp [slotsOf] at ht
  | i :: r, h, y, hd, t, ht => by
    simp only [ZqU] at hd
    split at hd
    · rename_i y1 h1
      split at hd
      · rename_i ys h2
        have ih := ZlI h2
        have one : ∀ {α : Type} {n : Nat} {o : Option (TSV x.X)} {f : TSV x.X → Option α} {z : α}, (match o with | some v => f v | none => none) = some z → o.isSome = true := by
          intro α n o f z h
          cases o with
          | none => cases h
          | some v => rfl
        have hs : ∀ n, n ∈ slotsOf [i] → (Zab s.env n).isSome = true := by
          intro n hn
          cases hv : Zab s.env n with
          | some v => rfl
          | none =>
            cases i <;> simp only [slotsOf, List.mem_singleton, List.not_mem_nil] at hn <;> subst hn <;>
              simp only [Yd3, ZsD, ZsA, ZsV, ZtD, ZzG, Zsh, Zyv, hv] at h1 <;> cases h1
        cases i <;> simp only [slotsOf, List.mem_cons] at ht <;> (try (exact ih t ht)) <;> (rcases ht with rfl | ht) <;> (first | exact ih t ht | exact hs _ (by simp [slotsOf]))
      · cases hd
    · cases hd
theorem Zen (ok : x.U.Ok x.C) {call : Zaa} (hT : CallsOk x call) {R : Type} {fa : FA} {n : Nat} {sums : ZfY x R} {id : Nat} {body : Code} (hS : ∀ i c' L, (i, c') ∈ ZaD id body → Zab sums i = some L → Law x h0 call fa n c' L)
    (D : LD) (hnr : h0.nr ≤ D.nr) (g : LG x.U R D) (hg : ∀ c kx kr y k1, evL x fa sums id body (Zfx x.U D kx kr k1) (encS x.U D.cap D.din c y) = g c (fun i z => kx i c z) kr y (fun y' => k1 c y')) : Law x h0 call fa n body (Zgy x.U D g n) := by
  intro k s z ht h ρ a r
  unfold Zgy at h
  split at h
  · rename_i c y hc hy
    obtain ⟨hb, hc⟩ := Zcv hc
    have hnd : h0.nr ≤ Zdl D.din := Nat.le_trans hnr (Nat.le_of_ble_eq_true hb)
    have key : ∀ (e0 : List (Nat × SV)), (∀ t ∈ slotsOf D.cap ++ slotsOf D.din, (Zab e0 t).isSome = true) → ∀ (m : Nat) (c : PI x.X D.cap) (y : PI x.X D.din) ρ a,
        Zkd (g c (fun i z => k (.exit i (encS x.U D.cap (D.ex i) c z))) (fun z => k (.ret (encS x.U [] D.ret () z)))) m y = some z → Rel x.U ρ h0 (encS x.U D.cap D.din c y) a →
        ∃ o' o σ, k o' = some z ∧ iter (evQ x.C call fa n body) e0 m a = some o ∧ TORel x σ h0 o' o := by
      intro e0 he0 m
      induction m with
      | zero => intro c y ρ a h; cases h
      | succ m ih =>
        intro c y ρ a h r
        simp only [Zkd] at h
        have hgg := hg c (fun i c' z => k (.exit i (encS x.U D.cap (D.ex i) c' z))) (fun z => k (.ret (encS x.U [] D.ret () z))) y
          (fun c' y' => Zkd (g c' (fun i z => k (.exit i (encS x.U D.cap (D.ex i) c' z))) (fun z => k (.ret (encS x.U [] D.ret () z)))) m y')
        have h' := hgg.trans h
        obtain ⟨o', o, σ, h1, h2, h3⟩ := Zv6 ok hT n body hS rfl h' ρ a r
        cases h3 with
        | norm s1 a1 ht1 r1 =>
          simp only [Zfx] at h1
          split at h1
          · rename_i c' y' hc' hy'
            obtain ⟨_, hc'⟩ := Zcv hc'
            have r2 := Zn6 ok hc' hy' r1 ht1 hnd
            have r3 : Rel x.U ((upR s1.heap σ).take (Zdl D.din)) h0 (encS x.U D.cap D.din c' y') (a1.trim e0) := by
              refine ⟨fun t v hv => ?_, r2.tmp, r2.heap⟩
              obtain ⟨w, e1, e2⟩ := r2.env t v hv
              refine ⟨w, ?_, e2⟩
              simp only [St.trim]
              rw [alook_trimE _ _ _ (he0 t ?_), e1]
              have hm := ZgS hv
              rcases List.mem_append.1 hm with hm | hm
              · exact List.mem_append_left _ (Zi3 hm)
              · exact List.mem_append_right _ (Zi3 hm)
            obtain ⟨o2', o2, τ, k1, k2, k3⟩ := ih c' y' _ _ h1 r3
            exact ⟨o2', o2, τ, k1, by simp only [iter, h2, k2], k3⟩
          · cases h1
        | exit i s1 a1 ht1 r1 =>
          simp only [Zfx] at h1
          split at h1
          · rename_i c' y' hc' hy'
            obtain ⟨hb2, hc'⟩ := Zcv hc'
            exact ⟨_, _, _, h1, by simp only [iter, h2], .exit _ _ _ rfl (Zn6 ok hc' hy' r1 ht1 (Nat.le_trans hnr (Nat.le_of_ble_eq_true hb2)))⟩
          · cases h1
        | ret s1 a1 ht1 r1 =>
          simp only [Zfx] at h1
          split at h1
          · rename_i y' hy'
            obtain ⟨hb2, hy'⟩ := Zcv hy'
            exact ⟨_, _, _, h1, by simp only [iter, h2], .ret _ _ rfl (Zn6 (cs := []) (c := ()) ok rfl hy' r1 ht1 (Nat.le_trans hnr (Nat.le_of_ble_eq_true hb2)))⟩
          · cases h1
    have hcov : ∀ t ∈ slotsOf D.cap ++ slotsOf D.din, (Zab a.env t).isSome = true := by
      intro t hm
      have : (Zab s.env t).isSome = true := by
        rcases List.mem_append.1 hm with hm | hm
        · exact ZlI hc t hm
        · exact ZlI hy t hm
      obtain ⟨v, hv⟩ := Option.isSome_iff_exists.1 this
      obtain ⟨w, hw, _⟩ := r.env t v hv
      rw [hw]; rfl
    exact key a.env hcov n c y _ a h (Zn6 ok hc hy r ht hnd)
  · cases h
theorem ZaY (ok : x.U.Ok x.C) {K : Zaa} (hT : CallsOk x (Zac x.C K)) {f : FuncId} {fn : Func} (hK : ∀ args h, K f args h = none) (hf : x.C.P.funcs[f]? = some fn) {dir : Bool} {ak : List AK} {rts : List Nat}
    (hok : okF (x.C.ann f) fn ak.length = true) {t : PX x.X (AK.tys ak) → Option (PX x.X rts)}
    (h : ∀ a r, t a = some r → ∃ (n : Nat) (sums : ZfY x (PX x.X rts)), (∀ i c' L, (i, c') ∈ ZaD 0 (Zad fn) → Zab sums i = some L → Law x ⟨[], []⟩ (Zac x.C K) (x.C.ann f) n c' L) ∧ fnL x dir f fn ak rts sums a = some r) :
    ZaC x.U (Zac x.C K) f ⟨dir, ak, rts, t⟩ := by
  intro vs a r ds g hp hd ht hg
  obtain ⟨n, sums, hS, hn⟩ := h a r ht
  unfold fnL at hn
  split at hn
  · rename_i us hus
    unfold Ydl at hus
    cases hi : Zgh x.U (AK.tys ak) with
    | none => rw [hi] at hus; cases hus
    | some fi =>
      rw [hi] at hus
      simp only [Option.some.injEq] at hus
      subst hus
      unfold Zvq at hp
      split at hp
      · rename_i ws hws
        obtain ⟨es, hes⟩ := Zjq ok _ _ _ hp
        have h2 := ZlB ok _ ws a fi hp hi
        rw [hes] at h2
        obtain ⟨ds', k1, k2, k3⟩ := ZxS ak vs ws (fi a) es hws hes h2
        rw [hd] at k2
        cases k2
        have r0 : Rel x.U [] ⟨[], []⟩ ⟨ZvB 0 (Zuc ak (fi a)), [], []⟩ ⟨Zgo 0 (ds.map .d), [], []⟩ :=
          ⟨Zvv 0 k1, ⟨fun _ _ => rfl, fun t e h => by simp [Zab] at h, fun t e h => by simp [Zab] at h, fun _ _ => rfl⟩, ⟨rfl, List.nodup_nil, fun j o h => by simp at h, fun i h => by simp at h, Nat.le_refl _, fun j i h1 h2 => by simp at h2, List.prefix_rfl⟩⟩
        obtain ⟨o', o, σ, e1, e2, e4⟩ := Zv6 ok hT n (Zad fn) hS rfl hn [] _ r0
        have fin : ∀ {s : TSt x.X} {a' : St}, Rel x.U σ ⟨[], []⟩ s a' → Zv4 x dir s fn.results.toList (fun l => Zjj x.U rts l) = some r → (∀ vs', Zbp x.C a' fn.results.toList = some vs' → ZbR x.C fn (some o) = some (ZaW vs', a'.heap)) →
            ∃ d, (g r).dv x.U = some d ∧ Zcz (Zac x.C K) (!dir) f ds = some d := by
          intro s a' rr hres hend
          obtain ⟨ws', vs', m1, m2, m3⟩ := Zox ok rr hres
          obtain ⟨d, m4, m5⟩ := Yaf ok m3 m1 hg
          refine ⟨d, m4, ?_⟩
          have hcv := Zrb (K := K) (r := (ZaW vs', a'.heap)) n (hK _ _) hf (by rw [List.length_map, k3]; exact hok) e2 (hend vs' m2)
          unfold Zcz
          rw [hcv]
          rcases m5 with q1 | ⟨q1, q2⟩
          · rw [q1]
          · rw [q1]
            cases hrv : ZaW vs' with
            | d r' => rw [hrv] at q2; simp only [Abs.freeze, Option.some.injEq] at q2; rw [q2]
            | _ => simp only [Bool.not_false, cond_true]; rw [← hrv]; exact q2
        cases e4 with
        | norm s1 a1 ht1 r1 => exact fin r1 e1 (fun vs' hv => by simp only [ZbR, hv])
        | ret s1 a1 ht1 r1 => exact fin r1 e1 (fun vs' hv => by simp only [ZbR, hv])
        | exit => simp [endK] at e1
      · cases hp
  · cases hn
end
end Go.Tev
namespace Go.Tev
open Go.Abs
def Zj1 {X : Nat → Type} : List AR → List (TV X) → Nat → List (TV X)
  | [], _, _ => []
  | .fn f :: r, vs, j => .fn f [] :: Zj1 r vs j
  | .ty _ :: r, v :: vs, j => v :: Zj1 r vs j
  | .ty _ :: _, [], _ => []
  | .ref (.map _ _) :: r, vs, j => .mp j :: Zj1 r vs (j + 1)
  | .ref (.var _) :: r, vs, j => .ptr j 0 :: Zj1 r vs (j + 1)
def ZnB (U : Uni) : (rs : List RK) → PR' U.X rs → List (TObj U.X)
  | [], _ => []
  | r :: rs, y => Zr5 U r y.1 :: ZnB U rs y.2
def Zm6 : Nat → Nat → List Nat
  | _, 0 => []
  | j, n + 1 => j :: Zm6 (j + 1) n
def ZzT {α β : Type} (a : Option α) (b : Option β) : Option (α × β) := match a, b with
  | some y, some z => some (y, z)
  | _, _ => none
section
variable (x : Cx)
def endR (fn : Func) (rts : List Nat) (rs : List RK) : TOut x.X → Option (PX x.X rts × PR' x.X rs)
  | .norm s => Zv4 x true s fn.results.toList (fun l => ZzT (Zjj x.U rts l) (ZfP x.U s.heap rs (Zm6 0 rs.length)))
  | .ret s => Zv4 x true s fn.results.toList (fun l => ZzT (Zjj x.U rts l) (ZfP x.U s.heap rs (Zm6 0 rs.length)))
  | .exit _ _ => none
def fnR (f : FuncId) (fn : Func) (ak : List AR) (rts : List Nat) (sums : ZfY x (PX x.X rts × PR' x.X (AR.refs ak))) (a : PX x.X (AR.tys ak)) (cs : PR' x.X (AR.refs ak)) : Option (PX x.X rts × PR' x.X (AR.refs ak)) :=
  match Zgh x.U (AR.tys ak) with
  | some g => evL x (x.C.ann f) sums 0 (Zad fn) (endR x fn rts (AR.refs ak)) ⟨ZvB 0 (Zj1 ak (g a) 0), [], ZnB x.U (AR.refs ak) cs⟩
  | none => none
end
section
variable {x : Cx} {ρ : List Rf} {h0 : Base} {s s' : TSt x.X} {a : St}
theorem Zsl : ∀ {vs : List (TV x.X)} {as : List AV} (k : Nat), VRels x.U ρ vs as → ER x.U ρ (ZvB k vs) (Zgo k as)
  | [], as, k, h => fun t v hv => by simp [ZvB, Zab] at hv
  | v :: vs, [], k, h => by have := h.1; simp at this
  | v :: vs, b :: as, k, h => by
    intro t w hw
    simp only [ZvB, Zab] at hw
    simp only [Zgo, Zab]
    cases hb : Nat.beq k t with
    | true =>
      rw [hb] at hw
      simp only [cond_true, Option.some.injEq] at hw
      subst hw
      exact ⟨_, rfl, .val _ _ (h.2 0 v b rfl rfl)⟩
    | false =>
      rw [hb] at hw
      exact Zsl (k + 1) ⟨by simpa using h.1, fun k v a h1 h2 => h.2 (k + 1) v a (by simpa using h1) (by simpa using h2)⟩ t w hw
theorem Zhi {v : TV x.X} {b : AV} {vs : List (TV x.X)} {as : List AV} (h : VRel x.U ρ v b) (t : VRels x.U ρ vs as) : VRels x.U ρ (v :: vs) (b :: as) := by
  refine ⟨by simp [t.1], fun k v' a h1 h2 => ?_⟩
  cases k with
  | zero => simp only [List.getElem?_cons_zero, Option.some.injEq] at h1 h2; subst h1; subst h2; exact h
  | succ k => exact t.2 k v' a (by simpa using h1) (by simpa using h2)
theorem Zxa (ak : List AR) : ∀ (us : List (TV x.X)) (ds : List DV) (ids : List Nat) (as : List AV) (j : Nat), dvL x.U us = some ds → Zdf ak ds ids = some as → (∀ k, k < ids.length → ids[k]? = (ρ[j + k]?).map Rf.id) → VRels x.U ρ (Zj1 ak us j) as ∧ as.length = ak.length := by
  induction ak with
  | nil =>
    intro us ds ids as j hd h _
    cases ds <;> cases ids <;> simp [Zdf] at h
    subst h
    exact ⟨⟨rfl, fun k v a h => by simp [Zj1] at h⟩, rfl⟩
  | cons k r ih =>
    intro us ds ids as j hd h hi
    cases k with
    | fn f =>
      simp only [Zdf] at h
      split at h
      · rename_i as' h1
        cases h
        obtain ⟨k1, k2⟩ := ih us ds ids as' j hd h1 hi
        exact ⟨Zhi (.d _ _ rfl) k1, by simp [k2]⟩
      · cases h
    | ty t =>
      cases ds with
      | nil => simp [Zdf] at h
      | cons d ds =>
        cases us with
        | nil => have := ZgT hd; cases this
        | cons u us =>
          obtain ⟨d', ds', e1, e2, e3⟩ := ZcS hd
          cases e3
          simp only [Zdf] at h
          split at h
          · rename_i as' h1
            cases h
            obtain ⟨k1, k2⟩ := ih us ds ids as' j e2 h1 hi
            exact ⟨Zhi (.d _ _ e1) k1, by simp [k2]⟩
          · cases h
    | ref k =>
      cases ids with
      | nil => cases k <;> simp [Zdf] at h
      | cons i ids =>
        obtain ⟨i', h0, hi0⟩ : ∃ i', ρ[j]? = some i' ∧ i'.id = i := by
          have := hi 0 (by simp)
          simp only [List.getElem?_cons_zero, Nat.add_zero] at this
          exact Option.map_eq_some_iff.1 this.symm
        subst hi0
        have hi' : ∀ k, k < ids.length → ids[k]? = (ρ[j + 1 + k]?).map Rf.id := fun k hk => by
          have := hi (k + 1) (by simpa using hk)
          rw [show j + 1 + k = j + (k + 1) by omega]
          simpa using this
        cases k with
        | map kt vt =>
          simp only [Zdf] at h
          split at h
          · rename_i as' h1
            cases h
            obtain ⟨k1, k2⟩ := ih us ds ids as' (j + 1) hd h1 hi'
            exact ⟨Zhi (.mp _ _ h0) k1, by simp [k2]⟩
          · cases h
        | var ts =>
          simp only [Zdf] at h
          split at h
          · rename_i as' h1
            cases h
            obtain ⟨k1, k2⟩ := ih us ds ids as' (j + 1) hd h1 hi'
            exact ⟨Zhi (.ptr _ _ _ h0) k1, by simp [k2]⟩
          · cases h
theorem Zi9 (ak : List AR) : ∀ {ds : List DV} {ids : List Nat} {as : List AV}, Zdf ak ds ids = some as → ids.length = (AR.refs ak).length := by
  induction ak with
  | nil => intro ds ids as h; cases ds <;> cases ids <;> simp [Zdf] at h; rfl
  | cons k r ih =>
    intro ds ids as h
    cases k with
    | fn f =>
      simp only [Zdf] at h
      split at h
      · rename_i as' h1; exact ih h1
      · cases h
    | ty t =>
      cases ds with
      | nil => simp [Zdf] at h
      | cons d ds =>
        simp only [Zdf] at h
        split at h
        · rename_i as' h1; exact ih h1
        · cases h
    | ref k =>
      cases ids with
      | nil => cases k <;> simp [Zdf] at h
      | cons i ids =>
        cases k <;> simp only [Zdf] at h <;> split at h <;> (try (cases h; done)) <;> (rename_i as' h1; simp [AR.refs, ih h1])
theorem Zwp (rs : List RK) : ∀ (cs : PR' x.X rs), (ZnB x.U rs cs).length = rs.length := by
  induction rs with
  | nil => intro cs; rfl
  | cons r rs ih => intro cs; simp only [ZnB, List.length_cons, ih]
def rf0 (ids : List Nat) : List Rf := ids.map fun i => ⟨i, 0⟩
theorem ZzZ {ρ : List Rf} (rs : List RK) : ∀ {ids : List Nat} {cs : PR' x.X rs} {h : List AObj}, Zmc x.U rs cs ids h → ∀ (j : Nat) o, (ZnB x.U rs cs)[j]? = some o → ∃ i ao, (rf0 ids)[j]? = some i ∧ h[i.id]? = some ao ∧ ORel x.U ρ i.off o ao := by
  induction rs with
  | nil => intro ids cs h he j o hj; simp [ZnB] at hj
  | cons r rs ih =>
    intro ids cs h he j o hj
    cases ids with
    | nil => exact absurd he (by simp [Zmc])
    | cons i ids =>
      obtain ⟨⟨ao, e1, e2⟩, e3⟩ := he
      cases j with
      | zero =>
        simp only [ZnB, List.getElem?_cons_zero, Option.some.injEq] at hj
        subst hj
        exact ⟨⟨i, 0⟩, ao, rfl, e1, Zph e2 _⟩
      | succ j => exact ih e3 j o (by simpa [ZnB] using hj)
theorem YdL : ∀ {ids : List Nat} {σ : List Rf} (j : Nat), (∀ k, k < ids.length → ids[k]? = (σ[j + k]?).map Rf.id) → At σ (Zm6 j ids.length) ids
  | [], σ, j, _ => .nil
  | i :: ids, σ, j, h => by
    obtain ⟨i', h0, hi0⟩ : ∃ i', σ[j]? = some i' ∧ i'.id = i := by
      have := h 0 (by simp)
      simp only [List.getElem?_cons_zero, Nat.add_zero] at this
      exact Option.map_eq_some_iff.1 this.symm
    subst hi0
    exact .cons _ _ _ _ h0 (YdL (j + 1) fun k hk => by
      have := h (k + 1) (by simpa using hk)
      rw [show j + 1 + k = j + (k + 1) by omega]
      simpa using this)
theorem ZwO (ok : x.U.Ok x.C) {K : Zaa} (hT : CallsOk x (Zac x.C K)) {f : FuncId} {fn : Func} (hK : ∀ args h, K f args h = none) (hf : x.C.P.funcs[f]? = some fn) {ak : List AR} {rts : List Nat}
    (hok : okF (x.C.ann f) fn ak.length = true) {t : PX x.X (AR.tys ak) → PR' x.X (AR.refs ak) → Option (PX x.X rts × PR' x.X (AR.refs ak))}
    (h : ∀ a cs r, t a cs = some r → ∃ (n : Nat) (sums : ZfY x (PX x.X rts × PR' x.X (AR.refs ak))), (∀ (h0 : Base), h0.nr ≤ (AR.refs ak).length → ∀ i c' L, (i, c') ∈ ZaD 0 (Zad fn) → Zab sums i = some L → Law x h0 (Zac x.C K) (x.C.ann f) n c' L) ∧ fnR x f fn ak rts sums a cs = some r) :
    Zee x.U (Zac x.C K) f ⟨ak, rts, t⟩ := by
  intro vs a ds ids as cs h1 r g hp hd ha hn he ht hg
  obtain ⟨n, sums, hS, hr⟩ := h a cs r ht
  unfold fnR at hr
  split at hr
  · rename_i gi hi
    have h2 := ZlB ok _ vs a gi hp hi
    rw [hd] at h2
    have hS' := hS ⟨h1, ids⟩ (Nat.le_of_eq (Zi9 ak ha))
    obtain ⟨k1, k2⟩ := Zxa (ρ := rf0 ids) ak (gi a) ds ids as 0 h2 ha (fun k hk => by simp [rf0, Function.comp_def])
    have hids : (rf0 ids).map Rf.id = ids := by simp [rf0, Function.comp_def]
    have r0 : Rel x.U (rf0 ids) ⟨h1, ids⟩ ⟨ZvB 0 (Zj1 ak (gi a) 0), [], ZnB x.U (AR.refs ak) cs⟩ ⟨Zgo 0 as, [], h1⟩ := by
      refine ⟨Zsl 0 k1, ⟨fun _ _ => rfl, fun t e h => by simp [Zab] at h, fun t e h => by simp [Zab] at h, fun _ _ => rfl⟩, ⟨?_, by rw [hids]; exact hn, fun j o hj => ZzZ _ he j o hj, fun _ _ _ => rfl, Nat.le_refl _, fun j i hj hi => ?_, by rw [hids]; exact List.prefix_rfl⟩⟩
      · rw [Zwp]; simp only [rf0, List.length_map]; exact Zi9 ak ha
      · have := (List.getElem?_eq_some_iff.1 hi).1
        simp only [Base.nr] at hj
        simp only [rf0, List.length_map] at this
        omega
    obtain ⟨o', o, σ, e1, e2, e4⟩ := Zv6 ok hT n (Zad fn) hS' rfl hr (rf0 ids) _ r0
    have fin : ∀ {s : TSt x.X} {a' : St}, Rel x.U σ ⟨h1, ids⟩ s a' → Zv4 x true s fn.results.toList (fun l => ZzT (Zjj x.U rts l) (ZfP x.U s.heap (AR.refs ak) (Zm6 0 (AR.refs ak).length))) = some r → (∀ vs', Zbp x.C a' fn.results.toList = some vs' → ZbR x.C fn (some o) = some (ZaW vs', a'.heap)) →
        ∃ d h', (g r.1).dv x.U = some d ∧ Zac x.C K f as h1 = some (.d d, h') ∧ Zmc x.U (AR.refs ak) r.2 ids h' ∧ (∀ (i : Nat), i < h1.length → i ∉ ids → h'[i]? = h1[i]?) ∧ h1.length ≤ h'.length := by
      intro s a' rr hres hend
      obtain ⟨ws', vs', m1, m2, m3⟩ := Zox ok rr hres
      unfold ZzT at m1
      split at m1
      · rename_i y cs' hy hcs
        cases m1
        obtain ⟨d, m4, m5⟩ := Yaf ok m3 hy hg
        have hcv := Zrb (K := K) (r := (ZaW vs', a'.heap)) n (hK _ _) hf (by rw [k2]; exact hok) e2 (hend vs' m2)
        have hrv : ZaW vs' = .d d := by
          rcases m5 with q1 | ⟨q1, _⟩
          · exact q1
          · cases q1
        rw [hrv] at hcv
        have hpre := rr.heap.pre
        have hat : At σ (Zm6 0 (AR.refs ak).length) ids := by
          rw [← Zi9 ak ha]
          refine YdL 0 fun k hk => ?_
          obtain ⟨tl, htl⟩ := hpre
          rw [← List.getElem?_map, ← htl, Nat.zero_add, List.getElem?_append_left hk]
        refine ⟨d, a'.heap, m4, hcv, ZjA ok rr.heap hat hcs, fun i hi hm => ?_, rr.heap.grow⟩
        refine rr.heap.frame i hi fun hmem => ?_
        obtain ⟨f, hf, rfl⟩ := List.mem_map.1 hmem
        obtain ⟨j, hj, rfl⟩ := List.mem_iff_getElem.1 hf
        rcases Nat.lt_or_ge j ids.length with hlt | hge
        · obtain ⟨tl, htl⟩ := hpre
          refine hm (List.mem_iff_getElem?.2 ⟨j, ?_⟩)
          have : (σ.map Rf.id)[j]? = some σ[j].id := by rw [List.getElem?_map, List.getElem?_eq_getElem hj]; rfl
          rw [← this]
          conv => rhs; rw [← htl]
          exact (List.getElem?_append_left hlt).symm
        · have := rr.heap.fresh j _ hge (List.getElem?_eq_getElem hj)
          simp only at this hi
          omega
      · cases m1
    cases e4 with
    | norm s1 a1 ht1 r1 => exact fin r1 e1 (fun vs' hv => by simp only [ZbR, hv])
    | ret s1 a1 ht1 r1 => exact fin r1 e1 (fun vs' hv => by simp only [ZbR, hv])
    | exit => simp [endR] at e1
  · cases hr
end
end Go.Tev
namespace Go.Tev
open Go.Abs
section
variable {x : Cx} {h0 : Base}
theorem Zbc {U : Uni} {call : Zaa} : ∀ p ∈ ([] : List (Nat × TCall U.X)), ZaC U call p.1 p.2 := fun p hp => by simp at hp
theorem Zap {U : Uni} {call : Zaa} {f : Nat} {c : TCall U.X} {T : List (Nat × TCall U.X)} (h : ZaC U call f c) (t : ∀ p ∈ T, ZaC U call p.1 p.2) : ∀ p ∈ (f, c) :: T, ZaC U call p.1 p.2 := fun p hp => by
  rcases List.mem_cons.1 hp with rfl | hp
  · exact h
  · exact t p hp
theorem Zbb {U : Uni} {call : Zaa} : ∀ p ∈ ([] : List (Nat × TCallR U.X)), Zee U call p.1 p.2 := fun p hp => by simp at hp
theorem Zxc {U : Uni} {call : Zaa} {f : Nat} {c : TCallR U.X} {T : List (Nat × TCallR U.X)} (h : Zee U call f c) (t : ∀ p ∈ T, Zee U call p.1 p.2) : ∀ p ∈ (f, c) :: T, Zee U call p.1 p.2 := fun p hp => by
  rcases List.mem_cons.1 hp with rfl | hp
  · exact h
  · exact t p hp
theorem ZaR {call : Zaa} {fa : FA} {n : Nat} {R : Type} {sums : ZfY x R} {id : Nat} {c : Code} (h : ZaD id c = []) : ∀ i c' L, (i, c') ∈ ZaD id c → Zab sums i = some L → Law x h0 call fa n c' L := fun i c' L hm => by
  rw [h] at hm; simp at hm
def YdK (x : Cx) (h0 : Base) (call : Zaa) (fa : FA) (n : Nat) {R : Type} (sums : ZfY x R) (id : Nat) (c : Code) (i : Nat) : Prop := ∀ L, Zab sums i = some L → ∃ c2, Zab (ZaD id c) i = some c2 ∧ Law x h0 call fa n c2 L
theorem Zlr {α : Type} {i : Nat} {c' : α} : ∀ {l : List (Nat × α)}, (l.map Prod.fst).Nodup → (i, c') ∈ l → Zab l i = some c'
  | [], _, h => by simp at h
  | (k, b) :: l, hn, hm => by
    simp only [List.map_cons, List.nodup_cons] at hn
    simp only [Zab]
    rcases List.mem_cons.1 hm with hm | hm
    · simp only [Prod.mk.injEq] at hm; rw [hm.1, hm.2]; simp
    · have : k ≠ i := fun he => hn.1 (he ▸ List.mem_map.2 ⟨_, hm, rfl⟩)
      rw [beq_ne.2 this]
      exact Zlr hn.2 hm
theorem Zci {call : Zaa} {fa : FA} {n : Nat} {R : Type} {sums : ZfY x R} {id : Nat} {c : Code} {ids : List Nat} (h1 : (ZaD id c).map Prod.fst = ids) (h2 : ids.Nodup) (h : ∀ i ∈ ids, YdK x h0 call fa n sums id c i) :
    ∀ i c' L, (i, c') ∈ ZaD id c → Zab sums i = some L → Law x h0 call fa n c' L := by
  intro i c' L hm hL
  have hi : i ∈ ids := by rw [← h1]; exact List.mem_map.2 ⟨_, hm, rfl⟩
  obtain ⟨c2, h3, h4⟩ := h i hi L hL
  rw [Zlr (by rw [h1]; exact h2) hm] at h3
  cases h3
  exact h4
theorem Zch {call : Zaa} {fa : FA} {n : Nat} {R : Type} {sums : ZfY x R} {id i : Nat} {c c2 : Code} {L0 : Yba x.U R} (h1 : Zab (ZaD id c) i = some c2) (h2 : Zab sums i = some L0) (h3 : Law x h0 call fa n c2 L0) : YdK x h0 call fa n sums id c i := by
  intro L hL
  rw [h2] at hL
  cases hL
  exact ⟨c2, h1, h3⟩
end
def Znq (l : List Int) : List UInt8 := l.map fun n => UInt8.ofNat n.toNat
def Zf9 (b : List UInt8) : List Int := b.map fun c => (c.toNat : Int)
def Zup {A R : Type} (g : A → (A → Option R) → Option R) (n : Nat) (a0 : A) : Option R :=
  Zkd (fun y k => g y.1 (fun a0 => k (a0, ()))) n (a0, ())
theorem Zg5 {A R : Type} (g : A → (A → Option R) → Option R) (n : Nat) (a0 : A) : Zup g (n + 1) a0 = g a0 (Zup g n) := rfl
def Zhy {A B R : Type} (g : A → B → (A → B → Option R) → Option R) (n : Nat) (a0 : A) (a1 : B) : Option R :=
  Zkd (fun y k => g y.1 y.2.1 (fun a0 a1 => k (a0, a1, ()))) n (a0, a1, ())
def ZqY {A B C R : Type} (g : A → B → C → (A → B → C → Option R) → Option R) (n : Nat) (a0 : A) (a1 : B) (a2 : C) : Option R :=
  Zkd (fun y k => g y.1 y.2.1 y.2.2.1 (fun a0 a1 a2 => k (a0, a1, a2, ()))) n (a0, a1, a2, ())
def Yc4 {A B C D E R : Type} (g : A → B → C → D → E → (A → B → C → D → E → Option R) → Option R) (n : Nat) (a0 : A) (a1 : B) (a2 : C) (a3 : D) (a4 : E) : Option R :=
  Zkd (fun y k => g y.1 y.2.1 y.2.2.1 y.2.2.2.1 y.2.2.2.2.1 (fun a0 a1 a2 a3 a4 => k (a0, a1, a2, a3, a4, ()))) n (a0, a1, a2, a3, a4, ())
end Go.Tev
namespace Go.Tev
open Go.Abs
def ZlH {α β R : Type} (step : β → α → β ⊕ Option R) (kx : β → Option R) : List α → β → Option R
  | [], b => kx b
  | v :: r, b => match step b v with
    | .inl b' => ZlH step kx r b'
    | .inr z => z
theorem Zhh {σ R α β : Type} {g : σ → (σ → Option R) → Option R} (l : List α) (S : Nat → β → σ) (step : β → α → β ⊕ Option R) (kx : β → Option R) (inv : Nat → β → Prop)
    (hstep : ∀ i b v k, l[i]? = some v → i < l.length → inv i b → g (S i b) k = (match step b v with | .inl b' => k (S (i + 1) b') | .inr z => z))
    (hinv : ∀ i b v b', l[i]? = some v → inv i b → step b v = .inl b' → inv (i + 1) b')
    (hend : ∀ b k, inv l.length b → g (S l.length b) k = kx b) :
    ∀ (r : List α) (fuel i : Nat) (b : β), l.drop i = r → i ≤ l.length → inv i b → r.length < fuel → Zkd g fuel (S i b) = ZlH step kx r b
  | [], fuel, i, b, hr, hi, hb, hf => by
    obtain ⟨n, rfl⟩ : ∃ n, fuel = n + 1 := ⟨fuel - 1, by omega⟩
    have : i = l.length := by
      have := congrArg List.length hr
      simp at this; omega
    subst this
    simp only [Zkd, ZlH]
    exact hend b _ hb
  | v :: r, fuel, i, b, hr, hi, hb, hf => by
    obtain ⟨n, rfl⟩ : ∃ n, fuel = n + 1 := ⟨fuel - 1, by omega⟩
    have hv : l[i]? = some v := by
      have := congrArg (fun x => x[0]?) hr
      simpa using this
    have hlt : i < l.length := (List.getElem?_eq_some_iff.1 hv).1
    have hr' : l.drop (i + 1) = r := by rw [← List.drop_drop, hr]; rfl
    simp only [Zkd, ZlH]
    rw [hstep i b v _ hv hlt hb]
    cases hs : step b v with
    | inl b' =>
      simp only
      exact Zhh l S step kx inv hstep hinv hend r n (i + 1) b' hr' (by omega) (hinv i b v b' hv hb hs) (by simp at hf; omega)
    | inr z => rfl
theorem Zef {α β R : Type} (f : β → α → β) (kx : β → Option R) : ∀ (l : List α) (b : β), ZlH (fun b v => .inl (f b v)) kx l b = kx (l.foldl f b)
  | [], b => rfl
  | v :: r, b => by simp only [ZlH, List.foldl_cons]; exact Zef f kx r (f b v)
theorem Zct {α : Type} {xs : List α} {i : Nat} {v : α} (h : xs[i]? = some v) : ZfX xs (i : Int) = some v := by
  unfold ZfX; rw [if_pos (by omega)]; simpa using h
theorem Zeg {n : Int} (h1 : -(2 ^ 63) ≤ n) (h2 : n < 2 ^ 63) : IntKind.i64.wrap n = n := by
  simp [IntKind.wrap, IntKind.signed, IntKind.bits]
  omega
theorem wrap_add1 {n : Nat} (h : n + 1 < 2 ^ 63) : IntKind.i64.wrap ((n : Int) + 1) = ((n + 1 : Nat) : Int) := by rw [Zeg (by omega) (by omega)]; rfl
mutual
def Val.tot : Val → Nat
  | .mk t l => 1 + t.t.length + t.u.length + Zaz l
def Zaz : List Val → Nat
  | [] => 0
  | v :: r => v.tot + Zaz r
end
theorem Val.tot_eq (v : Val) : v.tot = 1 + v.tok.t.length + v.tok.u.length + Zaz v.l := by cases v; simp [Val.tot, Val.tok, Val.l]
theorem ZdQ (a b : List Val) : Zaz (a ++ b) = Zaz a + Zaz b := by
  induction a with
  | nil => simp [Zaz]
  | cons v a ih => simp [Zaz, ih]; omega
theorem ZkH {l : List Val} {v : Val} (h : v ∈ l) : v.tot ≤ Zaz l := by
  induction l with
  | nil => simp at h
  | cons w l ih =>
    simp only [Zaz]
    rcases List.mem_cons.1 h with rfl | h
    · omega
    · have := ih h; omega
theorem ZfL {l : List Val} {v : Val} (h : v ∈ l) : Zaz v.l < Zaz l := by
  have h1 := ZkH h
  rw [Val.tot_eq] at h1
  omega
theorem Zf2 (l : List Val) : l.length ≤ Zaz l := by
  induction l with
  | nil => simp [Zaz]
  | cons v l ih => simp only [Zaz, List.length_cons, Val.tot_eq]; omega
theorem Val.eta (v : Val) : Val.mk v.tok v.l = v := by cases v; rfl
abbrev B : Nat := 2 ^ 36
def below {A R : Type} (sz : A → Nat) (k : Nat) (f : A → Option R) : A → Option R := fun a => if sz a < k then f a else none
theorem ZeW {A R : Type} {sz : A → Nat} {k : Nat} {f : A → Option R} {a : A} (h : sz a < k) : below sz k f a = f a := by simp [below, h]
theorem ZeI {A R : Type} {sz : A → Nat} {k : Nat} {f : A → Option R} {a : A} {r : R} (h : below sz k f a = some r) : sz a < k ∧ f a = some r := by
  unfold below at h
  split at h
  · rename_i h1; exact ⟨h1, h⟩
  · cases h
theorem Zfo {U : Uni} {call : Zaa} {f : FuncId} {dir : Bool} {ak : List AK} {rts : List Nat} (sz : PX U.X (AK.tys ak) → Nat) (s : PX U.X (AK.tys ak) → Option (PX U.X rts))
    (h : ∀ k, ZaC U call f ⟨dir, ak, rts, below sz k s⟩ → ZaC U call f ⟨dir, ak, rts, below sz (k + 1) s⟩) : ZaC U call f ⟨dir, ak, rts, s⟩ := by
  have all : ∀ k, ZaC U call f ⟨dir, ak, rts, below sz k s⟩ := by
    intro k
    induction k with
    | zero => intro vs a r ds g _ _ ht _; simp [below] at ht
    | succ k ih => exact h k ih
  intro vs a r ds g hp hd ht hg
  exact all (sz a + 1) vs a r ds g hp hd (by simp only [below, Nat.lt_succ_self, if_true]; exact ht) hg
theorem Zud {U : Uni} {call : Zaa} {f : FuncId} {ak : List AR} {rts : List Nat} (sz : PX U.X (AR.tys ak) → Nat) (s : PX U.X (AR.tys ak) → PR' U.X (AR.refs ak) → Option (PX U.X rts × PR' U.X (AR.refs ak)))
    (h : ∀ k, Zee U call f ⟨ak, rts, fun a cs => if sz a < k then s a cs else none⟩ → Zee U call f ⟨ak, rts, fun a cs => if sz a < k + 1 then s a cs else none⟩) : Zee U call f ⟨ak, rts, s⟩ := by
  have all : ∀ k, Zee U call f ⟨ak, rts, fun a cs => if sz a < k then s a cs else none⟩ := by
    intro k
    induction k with
    | zero => intro vs a ds ids as cs hh r g _ _ _ _ _ ht; simp at ht
    | succ k ih => exact h k ih
  intro vs a ds ids as cs hh r g hp hd ha hn he ht hg
  exact all (sz a + 1) vs a ds ids as cs hh r g hp hd ha hn he (by simp only [Nat.lt_succ_self, if_true]; exact ht) hg
theorem ZdX {A R α β : Type} {g : A → Int → (A → Int → Option R) → Option R} (l : List α) (enc : β → A) (step : β → α → β ⊕ Option R) (kx : β → Option R) (inv : Nat → β → Prop)
    (hstep : ∀ (i : Nat) b v k, l[i]? = some v → i < l.length → inv i b → g (enc b) i k = (match step b v with | .inl b' => k (enc b') ((i + 1 : Nat) : Int) | .inr z => z))
    (hinv : ∀ i b v b', l[i]? = some v → inv i b → step b v = .inl b' → inv (i + 1) b') (hend : ∀ b k, inv l.length b → g (enc b) (l.length : Int) k = kx b) (b0 : β) (h0 : inv 0 b0) (n : Nat) (hn : l.length < n) :
    Zhy g n (enc b0) 0 = ZlH step kx l b0 := by
  unfold Zhy
  exact Zhh l (fun i (b : β) => (enc b, (i : Int), ())) step kx inv (fun i b v k hv hl hb => by
    simp only
    rw [hstep i b v _ hv hl hb]) hinv (fun b k hb => hend b _ hb) l n 0 b0 rfl (Nat.zero_le _) h0 hn
theorem Zh5 {A R α β : Type} {g : Int → A → (Int → A → Option R) → Option R} (l : List α) (enc : β → A) (step : β → α → β ⊕ Option R) (kx : β → Option R) (inv : Nat → β → Prop)
    (hstep : ∀ (i : Nat) b v k, l[i]? = some v → i < l.length → inv i b → g i (enc b) k = (match step b v with | .inl b' => k ((i + 1 : Nat) : Int) (enc b') | .inr z => z))
    (hinv : ∀ i b v b', l[i]? = some v → inv i b → step b v = .inl b' → inv (i + 1) b') (hend : ∀ b k, inv l.length b → g (l.length : Int) (enc b) k = kx b) (b0 : β) (h0 : inv 0 b0) (n : Nat) (hn : l.length < n) :
    Zhy g n 0 (enc b0) = ZlH step kx l b0 := by
  unfold Zhy
  exact Zhh l (fun i (b : β) => ((i : Int), enc b, ())) step kx inv (fun i b v k hv hl hb => by
    simp only
    rw [hstep i b v _ hv hl hb]) hinv (fun b k hb => hend b _ hb) l n 0 b0 rfl (Nat.zero_le _) h0 hn
theorem Zhb {A A' R α β : Type} {g : A → A' → Int → (A → A' → Int → Option R) → Option R} (l : List α) (enc : β → A) (enc' : β → A') (step : β → α → β ⊕ Option R) (kx : β → Option R) (inv : Nat → β → Prop)
    (hstep : ∀ (i : Nat) b v k, l[i]? = some v → i < l.length → inv i b → g (enc b) (enc' b) i k = (match step b v with | .inl b' => k (enc b') (enc' b') ((i + 1 : Nat) : Int) | .inr z => z))
    (hinv : ∀ i b v b', l[i]? = some v → inv i b → step b v = .inl b' → inv (i + 1) b') (hend : ∀ b k, inv l.length b → g (enc b) (enc' b) (l.length : Int) k = kx b) (b0 : β) (h0 : inv 0 b0) (n : Nat) (hn : l.length < n) :
    ZqY g n (enc b0) (enc' b0) 0 = ZlH step kx l b0 := by
  unfold ZqY
  exact Zhh l (fun i (b : β) => (enc b, enc' b, (i : Int), ())) step kx inv (fun i b v k hv hl hb => by
    simp only
    rw [hstep i b v _ hv hl hb]) hinv (fun b k hb => hend b _ hb) l n 0 b0 rfl (Nat.zero_le _) h0 hn
theorem dlt {i n : Nat} (h : i < n) : decide ((i : Int) < (n : Int)) = true := by simp; omega
theorem ZrM (n : Nat) : decide ((n : Int) < (n : Int)) = false := by simp
end Go.Tev
namespace Go.Tev
open Go.Abs
theorem Ztk {l : List Val} {i : Nat} {v : Val} (h : l[i]? = some v) : Zaz (l.take (i + 1)) = Zaz (l.take i) + v.tot := by
  rw [List.take_add_one, h, ZdQ]; simp [Zaz]
theorem Zf4 (l : List Val) (i : Nat) : Zaz (l.take i) ≤ Zaz l := by
  have := ZdQ (l.take i) (l.drop i)
  rw [List.take_append_drop] at this
  omega
theorem Zg7 {α : Type} (l : List α) : l.foldl (fun b v => b ++ [v]) [] = l := by
  have : ∀ (l b : List α), l.foldl (fun b v => b ++ [v]) b = b ++ l := by
    intro l
    induction l with
    | nil => intro b; simp
    | cons v l ih => intro b; simp [ih]
  simpa using this l []
def Zck (k : Int) : Int := if k = 2 ∨ k = 21 then 22 else if k = 19 then 20 else if k = 23 then 24 else 0
mutual
def Val.dep : Val → Nat
  | .mk t l => if Zck t.k = 0 then 0 else 1 + Zi0 l
def Zi0 : List Val → Nat
  | [] => 0
  | v :: r => max v.dep (Zi0 r)
end
mutual
def Val.ntk : Val → Nat
  | .mk t l => if Zck t.k = 0 then 1 else 2 + ZjJ l
def ZjJ : List Val → Nat
  | [] => 0
  | v :: r => v.ntk + ZjJ r
end
mutual
def Val.bad : Int → Val → Bool
  | cl, .mk t l => ((cl != 0 && t.k == cl) || (Zck t.k == 0 && decide (0 < l.length))) || (Zck t.k != 0 && Zn0 (Zck t.k) l)
def Zn0 : Int → List Val → Bool
  | _, [] => false
  | cl, v :: r => v.bad cl || Zn0 cl r
end
theorem Val.dep_eq (v : Val) : v.dep = if Zck v.tok.k = 0 then 0 else 1 + Zi0 v.l := by cases v; rfl
theorem Val.ntk_eq (v : Val) : v.ntk = if Zck v.tok.k = 0 then 1 else 2 + ZjJ v.l := by cases v; rfl
theorem Val.bad_eq (cl : Int) (v : Val) : v.bad cl = (((cl != 0 && v.tok.k == cl) || (Zck v.tok.k == 0 && decide (0 < v.l.length))) || (Zck v.tok.k != 0 && Zn0 (Zck v.tok.k) v.l)) := by cases v; rfl
mutual
theorem Yb0 : ∀ v : Val, v.dep ≤ v.tot
  | .mk t l => by
    have := Zkt l
    simp only [Val.dep, Val.tot]
    split <;> omega
theorem Zkt : ∀ l : List Val, Zi0 l ≤ Zaz l
  | [] => Nat.le_refl _
  | v :: r => by
    have h1 := Yb0 v
    have h2 := Zkt r
    simp only [Zi0, Zaz]; omega
end
mutual
theorem Ya7 : ∀ v : Val, v.ntk ≤ 2 * v.tot
  | .mk t l => by
    have := Zky l
    simp only [Val.ntk, Val.tot]
    split <;> omega
theorem Zky : ∀ l : List Val, ZjJ l ≤ 2 * Zaz l
  | [] => Nat.le_refl _
  | v :: r => by
    have h1 := Ya7 v
    have h2 := Zky r
    simp only [ZjJ, Zaz]; omega
end
def Zpy (cl : Int) (l : List Val) : Fnd := ⟨(Zi0 l : Int), (ZjJ l : Int), Zn0 cl l⟩
theorem Zlq (a b : List Val) : Zi0 (a ++ b) = max (Zi0 a) (Zi0 b) := by
  induction a with
  | nil => simp [Zi0]
  | cons v a ih => simp only [List.cons_append, Zi0, ih]; omega
theorem ZkM (a b : List Val) : ZjJ (a ++ b) = ZjJ a + ZjJ b := by
  induction a with
  | nil => simp [ZjJ]
  | cons v a ih => simp [ZjJ, ih]; omega
theorem Zln (cl : Int) (a b : List Val) : Zn0 cl (a ++ b) = (Zn0 cl a || Zn0 cl b) := by
  induction a with
  | nil => simp [Zn0]
  | cons v a ih => simp [Zn0, ih, Bool.or_assoc]
theorem Zcm {α : Type} {l : List α} {i : Nat} {v : α} (h : l[i]? = some v) : l.take (i + 1) = l.take i ++ [v] := by rw [List.take_add_one, h]; rfl
end Go.Tev
namespace Go.Tev.S1
open Go.Abs
structure TyB where
  T : Type
  enc : T → DV
  dflt : T
  keq : T → T → Bool
  nm : Bool
  key : Bool
  dok : Bool
def tyB : Nat → TyB
  | 2 => ⟨Int, fun v => .int .i64 v, (0 : Int), BEq.beq, true, true, true⟩
  | 3 => ⟨Int, fun v => .int .i64 v, (0 : Int), BEq.beq, true, true, true⟩
  | 4 => ⟨Bool, fun v => .bool v, false, fun _ _ => false, true, false, true⟩
  | 5 => ⟨Int, fun v => .int .u8 v, (0 : Int), BEq.beq, true, true, true⟩
  | 9 => ⟨(List UInt8), fun v => .str v, [], BEq.beq, true, true, true⟩
  | 22 => ⟨(List Val), fun v => .slc (v.map Val.enc), [], fun _ _ => false, true, false, true⟩
  | 23 => ⟨(List Cus), fun v => .slc (v.map Cus.enc), [], fun _ _ => false, true, false, true⟩
  | 28 => ⟨Int, fun v => .int .i64 v, (0 : Int), BEq.beq, true, true, true⟩
  | 31 => ⟨(List (List UInt8)), fun v => .slc (v.map (fun w => .str w)), [], fun _ _ => false, true, false, true⟩
  | 39 => ⟨Cus, fun v => v.enc, Cus.mk ([]) ([]), fun _ _ => false, true, false, true⟩
  | 46 => ⟨(List (List Cus)), fun v => .slc (v.map (fun w => .slc (w.map Cus.enc))), [], fun _ _ => false, true, false, true⟩
  | 49 => ⟨Tok, fun v => v.enc, Tok.mk ((0 : Int)) ([]) ((0 : Int)) ([]) (false), fun _ _ => false, true, false, true⟩
  | 51 => ⟨Val, fun v => v.enc, Val.mk (Tok.mk ((0 : Int)) ([]) ((0 : Int)) ([]) (false)) ([]), fun _ _ => false, true, false, true⟩
  | 60 => ⟨(List ((List UInt8) × (List Val))), fun v => .fmap (v.map fun p => (.str p.1, .slc (p.2.map Val.enc))), [], fun _ _ => false, false, false, false⟩
  | 62 => ⟨(List ((List UInt8) × Bool)), fun v => .fmap (v.map fun p => (.str p.1, .bool p.2)), [], fun _ _ => false, false, false, false⟩
  | 72 => ⟨(List Tok), fun v => .slc (v.map Tok.enc), [], fun _ _ => false, true, false, true⟩
  | 77 => ⟨(List Bool), fun v => .slc (v.map (fun w => .bool w)), [], fun _ _ => false, true, false, true⟩
  | 78 => ⟨(List Int), fun v => .slc (v.map (fun w => .int .i64 w)), [], fun _ _ => false, true, false, true⟩
  | 84 => ⟨Fnd, fun v => v.enc, Fnd.mk ((0 : Int)) ((0 : Int)) (false), fun _ _ => false, true, false, true⟩
  | 92 => ⟨(List Int), fun v => .slc (v.map (fun w => .int .u8 w)), [], fun _ _ => false, true, false, true⟩
  | 107 => ⟨(List ((List UInt8) × (List ((List UInt8) × Bool)))), fun v => .fmap (v.map fun p => (.str p.1, .fmap (p.2.map fun p => (.str p.1, .bool p.2)))), [], fun _ _ => false, false, false, false⟩
  | _ => ⟨Unit, fun _ => .nilf, (), fun _ _ => false, false, false, false⟩
abbrev X (t : Nat) : Type := (tyB t).T
def inj : (t : Nat) → Option (X t → TV X)
  | 2 => some fun (v : Int) => .i .i64 v
  | 3 => some fun (v : Int) => .i .i64 v
  | 4 => some fun (v : Bool) => .b v
  | 5 => some fun (v : Int) => .i .u8 v
  | 9 => some fun (v : (List UInt8)) => .s v
  | 22 => some fun (v : (List Val)) => .l 51 v
  | 23 => some fun (v : (List Cus)) => .l 39 v
  | 28 => some fun (v : Int) => .i .i64 v
  | 31 => some fun (v : (List (List UInt8))) => .l 9 v
  | 39 => some fun (v : Cus) => .t 39 v
  | 46 => some fun (v : (List (List Cus))) => .l 23 v
  | 49 => some fun (v : Tok) => .t 49 v
  | 51 => some fun (v : Val) => .t 51 v
  | 60 => some fun (v : (List ((List UInt8) × (List Val)))) => .m 9 22 v
  | 62 => some fun (v : (List ((List UInt8) × Bool))) => .m 9 4 v
  | 72 => some fun (v : (List Tok)) => .l 49 v
  | 77 => some fun (v : (List Bool)) => .l 4 v
  | 78 => some fun (v : (List Int)) => .l 3 v
  | 84 => some fun (v : Fnd) => .t 84 v
  | 92 => some fun (v : (List Int)) => .l 5 v
  | 107 => some fun (v : (List ((List UInt8) × (List ((List UInt8) × Bool))))) => .m 9 62 v
  | _ => none
def cells : (t : Nat) → Option (X t → List (TV X))
  | 2 => some fun (v : Int) => [.i .i64 v]
  | 3 => some fun (v : Int) => [.i .i64 v]
  | 4 => some fun (v : Bool) => [.b v]
  | 5 => some fun (v : Int) => [.i .u8 v]
  | 9 => some fun (v : (List UInt8)) => [.s v]
  | 22 => some fun (v : (List Val)) => [.l 51 v]
  | 23 => some fun (v : (List Cus)) => [.l 39 v]
  | 28 => some fun (v : Int) => [.i .i64 v]
  | 31 => some fun (v : (List (List UInt8))) => [.l 9 v]
  | 39 => some fun (v : Cus) => [.s v.name, .l 51 v.val]
  | 46 => some fun (v : (List (List Cus))) => [.l 23 v]
  | 49 => some fun (v : Tok) => [.i .u8 v.k, .s v.t, .i .i64 v.n, .s v.u, .b v.f]
  | 51 => some fun (v : Val) => [.i .u8 v.tok.k, .s v.tok.t, .i .i64 v.tok.n, .s v.tok.u, .b v.tok.f, .l 51 v.l]
  | 60 => some fun (v : (List ((List UInt8) × (List Val)))) => [.m 9 22 v]
  | 62 => some fun (v : (List ((List UInt8) × Bool))) => [.m 9 4 v]
  | 72 => some fun (v : (List Tok)) => [.l 49 v]
  | 77 => some fun (v : (List Bool)) => [.l 4 v]
  | 78 => some fun (v : (List Int)) => [.l 3 v]
  | 84 => some fun (v : Fnd) => [.i .i64 v.d, .i .i64 v.t, .b v.b]
  | 92 => some fun (v : (List Int)) => [.l 5 v]
  | 107 => some fun (v : (List ((List UInt8) × (List ((List UInt8) × Bool))))) => [.m 9 62 v]
  | _ => none
def csz : Nat → Option Nat
  | 2 => some 1
  | 3 => some 1
  | 4 => some 1
  | 5 => some 1
  | 9 => some 1
  | 22 => some 1
  | 23 => some 1
  | 28 => some 1
  | 31 => some 1
  | 39 => some 2
  | 46 => some 1
  | 49 => some 5
  | 51 => some 6
  | 60 => some 1
  | 62 => some 1
  | 72 => some 1
  | 77 => some 1
  | 78 => some 1
  | 84 => some 3
  | 92 => some 1
  | 107 => some 1
  | _ => none
def Zpw : List (TV X) → Option Cus
  | [x0, x1] => (match (asS x0 : Option (List UInt8)), (asL 51 x1 : Option (List Val)) with
    | some y0, some y1 => some (Cus.mk y0 y1)
    | _, _ => none)
  | _ => none
def ZpY : List (TV X) → Option Tok
  | [x0, x1, x2, x3, x4] => (match (asI .u8 x0 : Option Int), (asS x1 : Option (List UInt8)), (asI .i64 x2 : Option Int), (asS x3 : Option (List UInt8)), (asB x4 : Option Bool) with
    | some y0, some y1, some y2, some y3, some y4 => some (Tok.mk y0 y1 y2 y3 y4)
    | _, _, _, _, _ => none)
  | _ => none
def ZpB : List (TV X) → Option Val
  | [x0, x1, x2, x3, x4, x5] => (match (asI .u8 x0 : Option Int), (asS x1 : Option (List UInt8)), (asI .i64 x2 : Option Int), (asS x3 : Option (List UInt8)), (asB x4 : Option Bool), (asL 51 x5 : Option (List Val)) with
    | some y0, some y1, some y2, some y3, some y4, some y5 => some (Val.mk (Tok.mk y0 y1 y2 y3 y4) y5)
    | _, _, _, _, _, _ => none)
  | _ => none
def Zpg : List (TV X) → Option Fnd
  | [x0, x1, x2] => (match (asI .i64 x0 : Option Int), (asI .i64 x1 : Option Int), (asB x2 : Option Bool) with
    | some y0, some y1, some y2 => some (Fnd.mk y0 y1 y2)
    | _, _, _ => none)
  | _ => none
def tr {F : Nat → Type} {a t : Nat} (h : t = a) (v : F a) : F t := h ▸ v
def pack (t : Nat) : List (TV X) → Option (X t) :=
  if h : t = 39 then tr (F := fun t => List (TV X) → Option (X t)) h Zpw else
  if h : t = 49 then tr (F := fun t => List (TV X) → Option (X t)) h ZpY else
  if h : t = 51 then tr (F := fun t => List (TV X) → Option (X t)) h ZpB else
  if h : t = 84 then tr (F := fun t => List (TV X) → Option (X t)) h Zpg else
  fun _ => none
def prj (t : Nat) : TV X → Option (X t) :=
  if h : t = 2 then tr (F := fun t => TV X → Option (X t)) h (fun v => asI .i64 v) else
  if h : t = 3 then tr (F := fun t => TV X → Option (X t)) h (fun v => asI .i64 v) else
  if h : t = 4 then tr (F := fun t => TV X → Option (X t)) h (fun v => asB v) else
  if h : t = 5 then tr (F := fun t => TV X → Option (X t)) h (fun v => asI .u8 v) else
  if h : t = 9 then tr (F := fun t => TV X → Option (X t)) h (fun v => asS v) else
  if h : t = 22 then tr (F := fun t => TV X → Option (X t)) h (fun v => asL 51 v) else
  if h : t = 23 then tr (F := fun t => TV X → Option (X t)) h (fun v => asL 39 v) else
  if h : t = 28 then tr (F := fun t => TV X → Option (X t)) h (fun v => asI .i64 v) else
  if h : t = 31 then tr (F := fun t => TV X → Option (X t)) h (fun v => asL 9 v) else
  if h : t = 39 then tr (F := fun t => TV X → Option (X t)) h (fun v => asT 39 Zpw v) else
  if h : t = 46 then tr (F := fun t => TV X → Option (X t)) h (fun v => asL 23 v) else
  if h : t = 49 then tr (F := fun t => TV X → Option (X t)) h (fun v => asT 49 ZpY v) else
  if h : t = 51 then tr (F := fun t => TV X → Option (X t)) h (fun v => asT 51 ZpB v) else
  if h : t = 60 then tr (F := fun t => TV X → Option (X t)) h (fun v => asM 9 22 v) else
  if h : t = 62 then tr (F := fun t => TV X → Option (X t)) h (fun v => asM 9 4 v) else
  if h : t = 72 then tr (F := fun t => TV X → Option (X t)) h (fun v => asL 49 v) else
  if h : t = 77 then tr (F := fun t => TV X → Option (X t)) h (fun v => asL 4 v) else
  if h : t = 78 then tr (F := fun t => TV X → Option (X t)) h (fun v => asL 3 v) else
  if h : t = 84 then tr (F := fun t => TV X → Option (X t)) h (fun v => asT 84 Zpg v) else
  if h : t = 92 then tr (F := fun t => TV X → Option (X t)) h (fun v => asL 5 v) else
  if h : t = 107 then tr (F := fun t => TV X → Option (X t)) h (fun v => asM 9 62 v) else
  fun _ => none
def zcells : (t : Nat) → Option (List (TV X))
  | 2 => some [.i .i64 0]
  | 3 => some [.i .i64 0]
  | 4 => some [.b false]
  | 5 => some [.i .u8 0]
  | 9 => some [.s []]
  | 22 => some [.e0]
  | 23 => some [.e0]
  | 28 => some [.i .i64 0]
  | 31 => some [.e0]
  | 39 => some [.s [], .e0]
  | 46 => some [.e0]
  | 49 => some [.i .u8 0, .s [], .i .i64 0, .s [], .b false]
  | 51 => some [.i .u8 0, .s [], .i .i64 0, .s [], .b false, .e0]
  | 60 => some [.nilm]
  | 62 => some [.nilm]
  | 72 => some [.e0]
  | 77 => some [.e0]
  | 78 => some [.e0]
  | 84 => some [.i .i64 0, .i .i64 0, .b false]
  | 92 => some [.e0]
  | 107 => some [.nilm]
  | _ => none
def bytes : (e : Nat) → Option ((List UInt8 → List (X e)) × (List (X e) → List UInt8))
  | 5 => some (fun b => (b.map fun c => (c.toNat : Int) : List Int), fun (l : List Int) => l.map fun n => UInt8.ofNat n.toNat)
  | _ => none
def eqT : (t : Nat) → Option (X t → X t → Bool)
  | 49 => some fun (a b : Tok) => (a.k == b.k) && (a.t == b.t) && (a.n == b.n) && (a.u == b.u) && (a.f == b.f)
  | 84 => some fun (a b : Fnd) => (a.d == b.d) && (a.t == b.t) && (a.b == b.b)
  | _ => none
def U : Uni := ⟨X, fun t => (tyB t).enc, fun t => (tyB t).dflt, fun t => (tyB t).keq, fun t => (tyB t).nm, fun t => (tyB t).key, fun t => (tyB t).dok, inj, cells, csz, prj, pack, zcells, eqT, bytes⟩
def isT : Nat → Bool
  | 39 => true
  | 49 => true
  | 51 => true
  | 84 => true
  | _ => false
theorem Ydj (t : Nat) (f : U.X t → TV U.X) (y : U.X t) (h : U.inj t = some f) : (f y).dv U = some (U.enc t y) := by
  change inj t = some f at h
  unfold inj at h
  split at h <;> cases h <;> rfl
theorem ZhH {k : IntKind} {v : TV U.X} {n : Int} (h : asI k v = some n) : v.dv U = some (.int k n) := by
  cases v <;> simp only [asI] at h <;> (try (cases h; done))
  obtain ⟨h1, h2⟩ := Zcv h
  have := of_decide_eq_true h1
  subst this
  cases h2
  rfl
theorem Ztn {v : TV U.X} {n : Bool} (h : asB v = some n) : v.dv U = some (.bool n) := by
  cases v <;> simp only [asB] at h <;> (try (cases h; done))
  cases h; rfl
theorem ZmB {v : TV U.X} {n : List UInt8} (h : asS v = some n) : v.dv U = some (.str n) := by
  cases v <;> simp only [asS] at h <;> (try (cases h; done))
  cases h; rfl
theorem ZhG {e : Nat} {v : TV U.X} {n : List (U.X e)} (h : asL e v = some n) : v.dv U = some (.slc (n.map (U.enc e))) := by
  cases v <;> simp only [asL] at h <;> (try (cases h; done))
  · obtain ⟨he, hc⟩ := Zc7 h
    subst he
    cases hc
    rfl
  · cases h; rfl
theorem ZwQ {k v : Nat} {w : TV U.X} {n : List (U.X k × U.X v)} (h : asM k v w = some n) : w.dv U = some (.fmap (n.map fun p => (U.enc k p.1, U.enc v p.2))) := by
  cases w <;> simp only [asM] at h <;> (try (cases h; done))
  split at h
  · rename_i e1 h1
    obtain ⟨he, h1⟩ := ZbY h1
    subst he
    cases h1
    obtain ⟨he, h⟩ := ZbY h
    subst he
    cases h
    rfl
  · cases h
theorem Zo0 (cs : List (TV X)) (y : Cus) (h : Zpw cs = some y) : ∃ ds, dvL U cs = some ds ∧ Cus.enc y = .agg ds := by
  unfold Zpw at h
  split at h
  · split at h
    · rename_i h0 h1
      cases h
      exact ⟨_, Zb0 (ZmB h0) (Zfe (ZhG h1)), by first | rfl | exact ZfF _⟩
    · cases h
  · cases h
theorem ZoQ (cs : List (TV X)) (y : Tok) (h : ZpY cs = some y) : ∃ ds, dvL U cs = some ds ∧ Tok.enc y = .agg ds := by
  unfold ZpY at h
  split at h
  · split at h
    · rename_i h0 h1 h2 h3 h4
      cases h
      exact ⟨_, Zb0 (ZhH h0) (Zb0 (ZmB h1) (Zb0 (ZhH h2) (Zb0 (ZmB h3) (Zfe (Ztn h4))))), by first | rfl | exact ZfF _⟩
    · cases h
  · cases h
theorem Zqq (cs : List (TV X)) (y : Val) (h : ZpB cs = some y) : ∃ ds, dvL U cs = some ds ∧ Val.enc y = .agg ds := by
  unfold ZpB at h
  split at h
  · split at h
    · rename_i h0 h1 h2 h3 h4 h5
      cases h
      exact ⟨_, Zb0 (ZhH h0) (Zb0 (ZmB h1) (Zb0 (ZhH h2) (Zb0 (ZmB h3) (Zb0 (Ztn h4) (Zfe (ZhG h5)))))), by first | rfl | exact ZfF _⟩
    · cases h
  · cases h
theorem Zqg (cs : List (TV X)) (y : Fnd) (h : Zpg cs = some y) : ∃ ds, dvL U cs = some ds ∧ Fnd.enc y = .agg ds := by
  unfold Zpg at h
  split at h
  · split at h
    · rename_i h0 h1 h2
      cases h
      exact ⟨_, Zb0 (ZhH h0) (Zb0 (ZhH h1) (Zfe (Ztn h2))), by first | rfl | exact ZfF _⟩
    · cases h
  · cases h
theorem Yca (t : Nat) (cs : List (TV X)) (y : X t) (h : pack t cs = some y) : ∃ ds, dvL U cs = some ds ∧ U.enc t y = .agg ds := by
  unfold pack at h
  repeat' (split at h)
  all_goals (try subst t)
  all_goals first | exact Zo0 _ _ h | exact ZoQ _ _ h | exact Zqq _ _ h | exact Zqg _ _ h | (cases h; done)
theorem ZyM (t : Nat) (f : U.X t → List (TV U.X)) (y : U.X t) (h : U.cells t = some f) : dvL U (f y) = some (U.enc t y).cells := by
  change cells t = some f at h
  unfold cells at h
  split at h <;> cases h <;> first | rfl | (exact (congrArg (fun d => some (DV.cells d)) (ZfF y)).symm ▸ rfl)
theorem Ztg {t : Nat} {pk : List (TV U.X) → Option (U.X t)} (hp : ∀ cs y, pk cs = some y → ∃ ds, dvL U cs = some ds ∧ U.enc t y = .agg ds) {v : TV U.X} {y : U.X t} (h : asT t pk v = some y) : v.dv U = some (U.enc t y) := by
  cases v <;> simp only [asT] at h <;> (try (cases h; done))
  · obtain ⟨he, hc⟩ := ZbY h
    subst he
    cases hc
    rfl
  · obtain ⟨ds, h1, h2⟩ := hp _ _ h
    simp only [TV.dv]
    rw [h1, Option.map_some, ← h2]
theorem Ydi (t : Nat) (v : TV X) (y : X t) (h : prj t v = some y) : v.dv U = some (U.enc t y) := by
  by_cases h2 : t = 2
  · subst h2; exact ZhH h
  by_cases h3 : t = 3
  · subst h3; exact ZhH h
  by_cases h4 : t = 4
  · subst h4; exact Ztn h
  by_cases h5 : t = 5
  · subst h5; exact ZhH h
  by_cases h9 : t = 9
  · subst h9; exact ZmB h
  by_cases h22 : t = 22
  · subst h22; exact ZhG (e := 51) h
  by_cases h23 : t = 23
  · subst h23; exact ZhG (e := 39) h
  by_cases h28 : t = 28
  · subst h28; exact ZhH h
  by_cases h31 : t = 31
  · subst h31; exact ZhG (e := 9) h
  by_cases h39 : t = 39
  · subst h39; exact Ztg (t := 39) (pk := Zpw) Zo0 h
  by_cases h46 : t = 46
  · subst h46; exact ZhG (e := 23) h
  by_cases h49 : t = 49
  · subst h49; exact Ztg (t := 49) (pk := ZpY) ZoQ h
  by_cases h51 : t = 51
  · subst h51; exact Ztg (t := 51) (pk := ZpB) Zqq h
  by_cases h60 : t = 60
  · subst h60; exact ZwQ (k := 9) (v := 22) h
  by_cases h62 : t = 62
  · subst h62; exact ZwQ (k := 9) (v := 4) h
  by_cases h72 : t = 72
  · subst h72; exact ZhG (e := 49) h
  by_cases h77 : t = 77
  · subst h77; exact ZhG (e := 4) h
  by_cases h78 : t = 78
  · subst h78; exact ZhG (e := 3) h
  by_cases h84 : t = 84
  · subst h84; exact Ztg (t := 84) (pk := Zpg) Zqg h
  by_cases h92 : t = 92
  · subst h92; exact ZhG (e := 5) h
  by_cases h107 : t = 107
  · subst h107; exact ZwQ (k := 9) (v := 62) h
  simp only [prj, h2, h3, h4, h5, h9, h22, h23, h28, h31, h39, h46, h49, h51, h60, h62, h72, h77, h78, h84, h92, h107, dite_false] at h
  cases h
theorem Yd0 (t n : Nat) (y : U.X t) (h : U.csz t = some n) : (U.enc t y).cells.length = n := by
  change csz t = some n at h
  unfold csz at h
  split at h <;> cases h <;> first | rfl | exact (congrArg (fun d => (DV.cells d).length) (ZfF y))
theorem YfR (t : Nat) (y : U.X t) : (U.enc t y).cellOk = true := by
  obtain ⟨b, hb⟩ : ∃ b, tyB t = b := ⟨_, rfl⟩
  have h2 := hb
  unfold tyB at h2
  split at h2
  all_goals first | rfl | exact congrArg DV.cellOk (ZfF y) | (revert y; change ∀ y : (tyB _).T, ((tyB _).enc y).cellOk = true; rw [hb, ← h2]; intro y; rfl)
theorem ZyX (C : Abs.Ctx) (hC : ∀ t, (U.cells t).isSome = true → C.isAgg t = some (isT t)) (t n : Nat) (y : U.X t) (h : C.isAgg t = some false) (h2 : U.csz t = some n) : ∀ cs, U.enc t y ≠ .agg cs := by
  have h3 : (U.cells t).isSome = true → isT t = false := fun hs => by
    have := hC t hs
    rw [h] at this
    simpa using this.symm
  change csz t = some n at h2
  revert y h3
  change ∀ y : (tyB t).T, ((cells t).isSome = true → isT t = false) → ∀ cs, (tyB t).enc y ≠ .agg cs
  unfold csz at h2
  split at h2 <;> (try (cases h2; done)) <;> intro y h3 cs he <;> first | (cases he; done) | (have := h3 rfl; cases this; done)
theorem Yc8 (C : Abs.Ctx) (hC : ∀ t, (U.cells t).isSome = true → C.isAgg t = some (isT t)) (t : Nat) (f : U.X t → List (TV U.X)) (y : U.X t) (h : C.isAgg t = some true) (h2 : U.cells t = some f) : U.enc t y = .agg (U.enc t y).cells := by
  have h3 : isT t = true := by
    have := hC t (by rw [h2]; rfl)
    rw [h] at this
    simpa using this.symm
  change cells t = some f at h2
  revert y h3
  change ∀ y : (tyB t).T, isT t = true → (tyB t).enc y = .agg ((tyB t).enc y).cells
  clear h
  revert h2
  unfold cells
  split <;> intro h2 <;> (try (cases h2; done)) <;> intro y h3 <;> first | rfl | (cases h3; done) | (exact (ZfF y).trans (congrArg (fun d => DV.agg (DV.cells d)) (ZfF y).symm))
theorem Ydv (t : Nat) (a b : U.X t) (h : U.isKey t = true) : ZdT (U.enc t a) (U.enc t b) = some (U.keq t a b) := by
  obtain ⟨c, hc⟩ : ∃ c, tyB t = c := ⟨_, rfl⟩
  have h2 := hc
  unfold tyB at h2
  split at h2
  all_goals first | rfl | (cases h; done) | (exfalso; change (tyB _).key = true at h; rw [hc, ← h2] at h; cases h; done) | skip
  all_goals (change ZdT (.int _ _) (.int _ _) = _; simp only [ZdT, if_true]; rfl)
theorem Zzs (t : Nat) (y : U.X t) (h : U.noMap t = true) : (U.enc t y).noMap = true := by
  obtain ⟨c, hc⟩ : ∃ c, tyB t = c := ⟨_, rfl⟩
  have h2 := hc
  unfold tyB at h2
  split at h2
  all_goals first | rfl | (cases h; done) | exact YbL y | exact Zth y | exact Yag y | exact Zva y | exact Ycw y | exact Ycv y | exact Zti y | exact Zw5 y | exact Ydf y | exact ZcA _ _ (fun z _ => Zva z) | exact ZcA _ _ (fun _ _ => rfl) | (exfalso; change (tyB _).nm = true at h; rw [hc, ← h2] at h; cases h; done)
theorem ZxK (e : Nat) (f : List UInt8 → List (U.X e)) (g : List (U.X e) → List UInt8) (h : U.bytes e = some (f, g)) : (∀ b, (f b).map (U.enc e) = b.map fun c => .int .u8 c.toNat) ∧ ∀ xs, Zej (xs.map (U.enc e)) = some (g xs) := by
  change bytes e = some (f, g) at h
  unfold bytes at h
  split at h <;> cases h
  refine ⟨fun b => ?_, fun xs => ?_⟩
  · change (b.map fun c => (c.toNat : Int)).map (fun v => DV.int .u8 v) = _
    rw [List.map_map]; rfl
  · have key : ∀ l : List Int, Zej (l.map fun v => DV.int .u8 v) = some (l.map fun n => UInt8.ofNat n.toNat) := by
      intro l
      induction l with
      | nil => rfl
      | cons n l ih => simp only [List.map_cons, Zej, ih, Option.map_some]
    exact key xs
end Go.Tev.S1
