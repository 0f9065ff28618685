/- A certified evaluator for the walked functions, and their contracts, for the laws of the variables. -/
import Derived.Test.YtnmlodkomklpfaaGreatLE
import Derived.ScopeJumps
import Derived.Maps.RangeRun
set_option linter.unusedVariables false
set_option linter.unusedSimpArgs false
namespace Go.Abs
def HasN (P : Program) (f : FuncId) (args : List AV) (h : List AObj) (R : AV → List AObj → Prop) : Prop :=
  (∃ fn, P.funcs[f]? = some fn ∧ fn.body.isSome = true) ∧
  ∀ (w : World) (own : Own) (vs : Array Value), HRel P w own h → ZhQ own → vs.size = args.length →
    (∀ (i : Nat) v x, vs[i]? = some v → args[i]? = some x → ARep P w own h v x) →
    Calls P f vs w fun e w' => ∃ v own' r h', R r h' ∧ e = .returned v ∧ ZhQ own' ∧ HRel P w' own' h' ∧ ARep P w' own' h' v r ∧ Frm w own w' own' ∧ ExtA w own h w' own' h'
def Tri (C : Ctx) (fa : FA) (c : Code) (st : St) (Q : Out → Prop) : Prop := ∀ own a w, SRel C.P fa own st a w → c.wp C.P (fun e a' w' => ∃ out, Q out ∧ OutRel C.P fa own st.heap w out e a' w') a w
structure Sub (s t : St) : Prop where
  env : ∀ k v, Zad s.env k = some v → Zad t.env k = some v
  tmp : s.tmp = []
  heap : s.heap = t.heap
section
variable {C : Ctx} {call : Zaa} {fa : FA} {own own' own1 : Own} {st st' st1 st2 s t : St} {a a1 : Act} {w w' w1 : World} {c x y : Code} {Q Q1 : Out → Prop}
theorem SRel.sub (S : SRel C.P fa own t a w) (h : Sub s t) : SRel C.P fa own s a w := by
  refine ⟨(by rw [h.heap]; exact S.h), S.nt, S.defers, fun k v hv => S.ek k v (h.env k v hv), fun k x hx => (by rw [h.tmp] at hx; cases hx), fun k v hv => (by rw [h.heap]; exact S.env k v (h.env k v hv)), fun k x hx => (by rw [h.tmp] at hx; cases hx)⟩
theorem ZuK (h : Tri C fa c st Q1) (hq : ∀ o, Q1 o → Q o) : Tri C fa c st Q := fun own a w S => wp_mono (h own a w S) fun e a' w' ⟨o, h1, h2⟩ => ⟨o, hq o h1, h2⟩
theorem ZpG (hs : Sub s st) (h : Tri C fa c s Q) : Tri C fa c st Q := fun own a w S => wp_mono (h own a w (S.sub hs)) fun e a' w' ⟨o, h1, h2⟩ => ⟨o, h1, by rw [← hs.heap]; exact h2⟩
theorem ZcI (hn : Zbj C.P) (hm : C.P.follows .mixedOrders = true) (hK : Zbq C.P call) {n : Nat} {out : Out} (hok : okC fa c = true) (h : evQ C call fa n c st = some out) (hq : Q out) : Tri C fa c st Q :=
  fun own a w S => wp_mono (ZgR hn hm hK n c st out own a w (Zhx n c st out hok h) S) fun e a' w' r => ⟨out, hq, r⟩
theorem Zp1 (hq : Q (.norm st)) : Tri C fa .skip st Q := fun own a w S => wp_skip ⟨_, hq, rfl, own, S, .refl w own, (Grow.refl w).extA own _⟩
theorem Zuz {id : Nat} (hq : Q (.exit id st)) : Tri C fa (.exit id) st Q := fun own a w S => wp_exit ⟨_, hq, rfl, own, S, .refl w own, (Grow.refl w).extA own _⟩
theorem ZcD (h1 : Tri C fa x st Q1) (h2 : ∀ s, Q1 (.norm s) → Tri C fa y s Q) (h3 : ∀ o, Q1 o → (∀ s, o ≠ .norm s) → Q o) : Tri C fa (.seq x y) st Q := by
  intro own a w S
  refine wp_seq (wp_mono (h1 own a w S) ?_)
  rintro e a1 w1 ⟨o, hq, r⟩
  have r' := r
  obtain ⟨he, own1, S1, F1, E1⟩ := r
  cases o with
  | norm s =>
    subst he
    exact wp_mono (h2 s hq own1 a1 w1 S1) fun e a2 w2 ⟨o2, k1, k2⟩ => ⟨o2, k1, k2.after F1 E1⟩
  | exit id s => subst he; exact ⟨_, h3 _ hq (by simp), r'⟩
  | goto l s => subst he; exact ⟨_, h3 _ hq (by simp), r'⟩
  | ret s => subst he; exact ⟨_, h3 _ hq (by simp), r'⟩
def Zba (id : Nat) (e0 : List (Nat × SV)) : Out → Out
  | .norm s => .norm (s.trim e0)
  | .exit k s => bif Nat.beq k id then .norm (s.trim e0) else .exit k s
  | o => o
theorem ZeO {id : Nat} (h : Tri C fa c st fun o => Q (Zba id st.env o)) : Tri C fa (.block id c) st Q := by
  intro own a w S
  refine wp_block (wp_mono (h own a w S) ?_)
  rintro e a1 w1 ⟨o, hq, r⟩
  have r' := r
  obtain ⟨he, own1, S1, F1, E1⟩ := r
  cases o with
  | norm s => subst he; exact ⟨_, hq, rfl, own1, S1.trim _, F1, E1⟩
  | exit k s =>
    subst he
    simp only [Zba] at hq
    cases hb : Nat.beq k id with
    | true =>
      rw [hb] at hq
      have := Nat.eq_of_beq_eq_true hb
      subst this
      simp only [Out.ex, Exit.inBlock, if_true]
      exact ⟨_, hq, rfl, own1, S1.trim _, F1, E1⟩
    | false =>
      rw [hb] at hq
      simp only [Out.ex, Exit.inBlock, if_neg (beq_ne.1 hb)]
      exact ⟨_, hq, rfl, own1, S1, F1, E1⟩
  | goto l s => subst he; exact ⟨_, hq, r'⟩
  | ret s => subst he; exact ⟨_, hq, r'⟩
theorem Zhn {g : Operand} {b : Bool} (hb : opD st g = some (.bool b)) (h : Tri C fa (bif b then x else y) st Q) : Tri C fa (.cond g x y) st Q := by
  intro own a w S
  have hc : a.eval g = .bool b := (Zbg S hb).bool_inv
  refine wp_cond hc ?_
  cases b with
  | true => exact h own a w S
  | false => exact h own a w S
theorem ZiH (I : Nat → St → Prop) {n : Nat} (h0 : I n st) (round : ∀ m s, I m s → Tri C fa c s fun o => match o with
    | .norm s' => ∃ k s2, k < m ∧ I k s2 ∧ Sub s2 s'
    | o => Q o) : Tri C fa (.loop c) st Q := by
  intro own a w S
  refine Zma (fun n a' w' => ∃ s own1, I n s ∧ SRel C.P fa own1 s a' w' ∧ Frm w own w' own1 ∧ ExtA w own st.heap w' own1 s.heap) n ⟨st, own, h0, S, .refl w own, (Grow.refl w).extA own _⟩ ?_
  rintro n a' w' ⟨s, own1, hI, S1, F1, E1⟩
  refine wp_mono (round n s hI own1 a' w' S1) ?_
  rintro e a2 w2 ⟨o, hq, r⟩
  have r' := OutRel.after F1 E1 r
  obtain ⟨he, own2, S2, F2, E2⟩ := r
  cases o with
  | norm s' =>
    subst he
    obtain ⟨k, s2, hk, hI2, hs⟩ := hq
    exact ⟨k, hk, s2, own2, hI2, S2.sub hs, F1.trans F2, by rw [hs.heap]; exact E1.trans E2⟩
  | exit id s => subst he; exact ⟨_, hq, r'⟩
  | goto l s => subst he; exact ⟨_, hq, r'⟩
  | ret s => subst he; exact ⟨_, hq, r'⟩
theorem ZpZ {P : Act → World → Nat → Prop} (a : Act) (w : World) (h : ∃ n, P a w n) : ∃ n, P a w n ∧ ∀ m, P a w m → n ≤ m := by
  obtain ⟨n, hn⟩ := h
  induction n using Nat.strongRecOn with
  | _ n ih =>
    by_cases hm : ∃ m, m < n ∧ P a w m
    · obtain ⟨m, h1, h2⟩ := hm; exact ih m h1 h2
    · exact ⟨n, hn, fun m h => Nat.le_of_not_lt fun hlt => hm ⟨m, hlt, h⟩⟩
theorem Zx6 {l : Nat} {rest : Code} (hf : findLabel c l = some rest) (I : Nat → St → Prop)
    (first : Tri C fa c st fun o => match o with
      | .goto l' s => l' = l ∧ ∃ k s2, I k s2 ∧ Sub s2 s
      | o => Q o)
    (pass : ∀ m s, I m s → Tri C fa rest s fun o => match o with
      | .goto l' s' => l' = l ∧ ∃ k s2, k < m ∧ I k s2 ∧ Sub s2 s'
      | o => Q o) : Tri C fa (.scope c) st Q := by
  intro own a w S
  let P : Act → World → Nat → Prop := fun a' w' n => ∃ s own1, I n s ∧ SRel C.P fa own1 s a' w' ∧ Frm w own w' own1 ∧ ExtA w own st.heap w' own1 s.heap
  classical
  let μ : Act → World → Nat := fun a' w' => if h : ∃ n, P a' w' n then Classical.choose (ZpZ a' w' h) else 0
  have hμ : ∀ a' w' (h : ∃ n, P a' w' n), P a' w' (μ a' w') ∧ ∀ m, P a' w' m → μ a' w' ≤ m := by
    intro a' w' h
    have : μ a' w' = Classical.choose (ZpZ a' w' h) := dif_pos h
    rw [this]
    exact Classical.choose_spec (ZpZ a' w' h)
  refine wp_scope_jumps l (fun a' w' => ∃ n, P a' w' n) μ hf ?_ ?_
  · refine wp_mono (first own a w S) ?_
    rintro e a2 w2 ⟨o, hq, r⟩
    have r' := r
    obtain ⟨he, own2, S2, F2, E2⟩ := r
    cases o with
    | norm s => subst he; exact ⟨_, hq, r'⟩
    | exit id s => subst he; exact ⟨_, hq, r'⟩
    | goto l' s =>
      subst he
      obtain ⟨hl, k, s2, hI, hs⟩ := hq
      exact ⟨hl, k, s2, own2, hI, S2.sub hs, F2, by rw [hs.heap]; exact E2⟩
    | ret s => subst he; exact ⟨_, hq, r'⟩
  · rintro a1 w1 hJ
    obtain ⟨hP, hmin⟩ := hμ a1 w1 hJ
    obtain ⟨s, own1, hI, S1, F1, E1⟩ := hP
    refine wp_mono (pass _ s hI own1 a1 w1 S1) ?_
    rintro e a2 w2 ⟨o, hq, r⟩
    have r' := OutRel.after F1 E1 r
    obtain ⟨he, own2, S2, F2, E2⟩ := r
    cases o with
    | norm s => subst he; exact ⟨_, hq, r'⟩
    | exit id s => subst he; exact ⟨_, hq, r'⟩
    | goto l' s' =>
      subst he
      obtain ⟨hl, k, s2, hk, hI2, hs⟩ := hq
      have hP2 : P a2 w2 k := ⟨s2, own2, hI2, S2.sub hs, F1.trans F2, by rw [hs.heap]; exact E1.trans E2⟩
      exact ⟨hl, ⟨k, hP2⟩, Nat.lt_of_le_of_lt ((hμ a2 w2 ⟨k, hP2⟩).2 k hP2) hk⟩
    | ret s => subst he; exact ⟨_, hq, r'⟩
def Yck (C : Ctx) (fa : FA) (o : Oper) (st : St) (Q : St → Prop) : Prop := ∀ own a w, SRel C.P fa own st a w → ∀ (K : Act → World → Prop) (X : Exit → Act → World → Prop),
  (∀ a' w' st' own', Q st' → SRel C.P fa own' st' a' w' → Frm w own w' own' → ExtA w own st.heap w' own' st'.heap → K a' w') → o.wp C.P a w K X
theorem ZiU (hn : Zbj C.P) (hK : Zbq C.P call) {all : List Oper} {X : Exit → Act → World → Prop} {rest : List Oper} : ∀ (pre : List Oper) (st : St) (own : Own) (a : Act) (w : World), Zau C call fa all pre st = some st1 → SRel C.P fa own st a w →
    (∀ a' w' own', SRel C.P fa own' st1 a' w' → Frm w own w' own' → ExtA w own st.heap w' own' st1.heap → wpList C.P all.toArray X rest a' w') → wpList C.P all.toArray X (pre ++ rest) a w
  | [], st, own, a, w, he, S, hQ => by
    simp only [Zau, Option.some.injEq] at he
    subst he
    exact hQ a w own S (.refl w own) ((Grow.refl w).extA own _)
  | o :: pre, st, own, a, w, he, S, hQ => by
    simp only [Zau] at he
    split at he
    · rename_i st2 h1
      exact ZjM hn hK S h1 _ X fun a' w' own' S' F E => ZiU hn hK pre st2 own' a' w' he S' fun a2 w2 own2 S2 F2 E2 => hQ a2 w2 own2 S2 (F.trans F2) (E.trans E2)
    · cases he
theorem ZgO (hn : Zbj C.P) (hK : Zbq C.P call) {id : Nat} {pre : List Oper} {o : Oper} {ops : Array Oper} (hops : ops.toList = pre ++ [o]) (he : Zau C call fa (pre ++ [o]) pre st = some st1) (hg : o.guard = none) {Q2 : St → Prop}
    (ho : Yck C fa o st1 Q2) (hq : ∀ s, Q2 s → Q (.norm { s with tmp := [] })) : Tri C fa (.region id ops false) st Q := by
  intro own a w S
  refine wp_region_list ?_
  rw [hops]
  have hall : (pre ++ [o]).toArray = ops := by rw [← hops]
  have key : wpList C.P (pre ++ [o]).toArray (fun e a' w' => ∃ out, Q out ∧ OutRel C.P fa own st.heap w out e a' w') (pre ++ [o]) a w := by
    refine ZiU hn hK pre st own a w he S fun a1 w1 own1 S1 F1 E1 => ?_
    simp only [wpList]
    have hw : Region.wanted o (yielded (pre ++ [o]).toArray a1.tmps) = true := by
      unfold Region.wanted
      rw [hg]
    rw [if_pos hw]
    left
    refine ho own1 a1 w1 S1 _ _ fun a2 w2 s2 own2 hq2 S2 F2 E2 => ?_
    exact ⟨_, hq s2 hq2, rfl, own2, S2.dropTmp, F1.trans F2, E1.trans E2⟩
  rw [hall] at key
  exact key
theorem Zg9 (hn : Zbj C.P) {o : Oper} {cl : Call} {g : Operand} {fv : AV} {vs caps : List AV} {f : FuncId} {R : AV → List AObj → Prop} (hop : o.op = .call cl) (hc : cl.callee = .value g)
    (hg : opA st g = some fv) (hv : Za4 st cl.args.toList = some vs) (hf : Zlm fv = some (f, caps)) (hH : HasN C.P f (vs ++ caps) st.heap R) (hput : ∀ r h', R r h' → ∃ s, St.put fa { st with heap := h' } o.dst (.a r) = some s) :
    Yck C fa o st fun s => ∃ r h', R r h' ∧ St.put fa { st with heap := h' } o.dst (.a r) = some s := by
  intro own a w S K X hKK
  obtain ⟨cs, hgv, hcl, hch⟩ := ZpN (ZbI S hg) hf
  obtain ⟨ha1, ha2⟩ := Zp3 S hv hcl hch
  obtain ⟨hb, hhas⟩ := hH
  refine Zli hn hop hc hgv hb ?_
  refine (hhas w (Zlv own) _ (ZiC S.h) (ZiB own) ha1 (fun i v x hv' hx => (ha2 i v x hv' hx).mono (ZfC w own st.heap))).mono ?_
  rintro e w' ⟨v, own1, r, h', hR, rfl, hO, H1, hrr, F, E⟩
  obtain ⟨H2, E2, K2, F2, E3⟩ := ZxV S.h H1 hO F E
  obtain ⟨s, hp⟩ := hput r h' hR
  exact hKK _ _ s _ ⟨r, h', hR, hp⟩ ((S.heapStep H2 E2 K2).put (x := .a r) (fun t _ => hrr.mono E3) hp) F2 (by rw [Zbs hp]; exact E2)
end
end Go.Abs
namespace Go.Abs
open Go.ChangeMaps (setBlock)
section
variable {C : Ctx} {call : Zaa} {fa : FA} {own own' own1 : Own} {st st' st1 st2 s t : St} {a a1 : Act} {w w' w1 : World} {Q : Out → Prop}
def IterAt (w : World) (own : Own) (r mb : Nat) (ds : List (DV × DV)) (vis : List Nat) (cur : Option Nat) : Prop :=
  ∃ (m : Array MapEntry) (clock since last : Nat) (seen : Array Nat), w.heap[mb]? = some (.map m clock) ∧ own mb = none ∧ ZgL m clock ∧ m.size = ds.length ∧
    (∀ (j : Nat) e d, m[j]? = some e → ds[j]? = some d → Rep w own e.key d.1 ∧ Rep w own e.val d.2) ∧
    w.heap[r]? = some (.mapIter (some mb) since seen last) ∧ own r = none ∧ (∀ e ∈ m.toList, e.born < since) ∧ since ≤ last ∧ since ≤ clock ∧
    (∀ (j : Nat) e, m[j]? = some e → (seen.contains e.born = true ↔ j ∈ vis)) ∧
    (∀ j, cur = some j → ∃ (e : MapEntry) (seen' : Array Nat), m[j]? = some e ∧ seen = seen'.push e.born ∧ last = clock)
theorem IterAt.after {r mb : Nat} {ds : List (DV × DV)} {vis : List Nat} {cur : Option Nat} (h : IterAt w own r mb ds vis cur) (F : Frm w own w' own') (E : Ext w own w' own') : IterAt w' own' r mb ds vis cur := by
  obtain ⟨m, clock, since, last, seen, h1, h2, h3, h4, h5, h6, h7, h8⟩ := h
  have b1 := F.blk mb (ZaK h1) (.inl h2)
  have b2 := F.blk r (ZaK h6) (.inl h7)
  exact ⟨m, clock, since, last, seen, by rw [b1.1, h1], by rw [b1.2, h2], h3, h4, fun j e d hj hd => ⟨(h5 j e d hj hd).1.mono E, (h5 j e d hj hd).2.mono E⟩, by rw [b2.1, h6], by rw [b2.2, h7], h8⟩
structure Stepped (w w' : World) (r : Nat) : Prop where
  os : w'.os = w.os
  tape : w'.tape = w.tape
  output : w'.output = w.output
  size : w'.heap.size = w.heap.size
  blk : ∀ b, b ≠ r → w'.heap[b]? = w.heap[b]?
  was : ∃ m s seen c, w.heap[r]? = some (.mapIter m s seen c)
theorem Stepped.ext {r : Nat} (h : Stepped w w' r) : Ext w own w' own := by
  obtain ⟨m, s, seen, c, hw⟩ := h.was
  refine ⟨fun b o v hc hp => ⟨?_, hp⟩, fun b es c hc hn => ⟨?_, hn⟩⟩
  · by_cases hb : b = r
    · subst hb; simp [World.cell?, hw] at hc
    · rw [ZbR (h.blk b hb), hc]
  · by_cases hb : b = r
    · subst hb; rw [hw] at hc; cases hc
    · rw [h.blk b hb, hc]
theorem Stepped.extA {r : Nat} (h : Stepped w w' r) (hr : own r = none) (hh : List AObj) : ExtA w own hh w' own hh :=
  ⟨h.ext, Nat.le_refl _, fun id x x' h1 h2 => by rw [h1] at h2; simp only [Option.some.injEq] at h2; subst h2; exact AObj.later_refl x,
    fun b id x x' hb _ _ _ => ⟨hb, fun c T fr hc => ⟨c, by
      have hne : b ≠ r := fun e => by subst e; rw [hr] at hb; cases hb
      rw [h.blk b hne, hc], rfl⟩⟩⟩
theorem Stepped.keep {r : Nat} (h : Stepped w w' r) (hr : own r = none) (x : Owner) : Keep w own w' own x := fun b f hb => ⟨hb, h.blk b fun e => by subst e; rw [hr] at hb; cases hb⟩
theorem HRel.stepped {P : Program} {hh : List AObj} {r : Nat} (H : HRel P w own hh) (h : Stepped w w' r) (hr : own r = none) : HRel P w' own hh :=
  ⟨fun id x hx => let ⟨b, hb, hrr⟩ := H.obj id x hx; ⟨b, hb, hrr.mono (h.extA hr hh) (h.blk b fun e => by subst e; rw [hr] at hb; cases hb)⟩, H.uniq,
    fun b x hb => by rw [h.size]; exact H.lt b x hb, H.idlt⟩
theorem SRel.stepped {r : Nat} (S : SRel C.P fa own st a w) (h : Stepped w w' r) (hr : own r = none) : SRel C.P fa own st a w' :=
  ⟨S.h.stepped h hr, S.nt, S.defers, S.ek, S.tk, fun s sv hs => (S.env s sv hs).mono (h.extA hr st.heap) (h.keep hr _) (h.keep hr _),
    fun t x ht => (S.tmp t x ht).mono (h.extA hr st.heap) (fun _ _ _ _ hb => hb) (h.keep hr _) (fun _ _ _ _ he => ⟨he, rfl⟩)⟩
theorem Frm.stepped {w0 : World} {Zh7 : Own} {r : Nat} (F : Frm w0 Zh7 w own) (h : Stepped w w' r) (hr : w0.heap.size ≤ r) : Frm w0 Zh7 w' own :=
  ⟨h.os.trans F.os, h.tape.trans F.tape, h.output.trans F.output, by rw [h.size]; exact F.size, fun b hb ho => ⟨by rw [h.blk b (by omega)]; exact (F.blk b hb ho).1, (F.blk b hb ho).2⟩⟩
theorem leftOf_mem {m : Array MapEntry} {seen : Array Nat} {e : MapEntry} : e ∈ (leftOf m seen).toList ↔ e ∈ m.toList ∧ seen.contains e.born = false := by
  unfold leftOf
  simp
theorem IterAt.next {P : Program} {r mb : Nat} {ds : List (DV × DV)} {vis : List Nat} {cur : Option Nat} (h : IterAt w own r mb ds vis cur) (ty : TypeId) :
    ((∀ j, j < ds.length → j ∈ vis) ∧ (Instr.next (.pointer (some ⟨r, 0, none⟩)) false ty).run P w = .ok (.tuple #[.bool false]) w) ∨
    ∃ j k v key val w', ds[j]? = some (k, v) ∧ j ∉ vis ∧ (Instr.next (.pointer (some ⟨r, 0, none⟩)) false ty).run P w = .ok (.tuple #[.bool true, key, val]) w' ∧ Stepped w w' r ∧ IterAt w' own r mb ds (j :: vis) (some j) ∧ Rep w' own key k ∧ Rep w' own val v := by
  obtain ⟨m, clock, since, last, seen, h1, h2, h3, h4, h5, h6, h7, h8, h9, h10, h11, h12⟩ := h
  rcases run_next_at (P := P) w ty r mb since last seen m clock h6 h1 h8 h9 with ⟨hz, hrun⟩ | ⟨e, he, w1, hw1, hrun⟩
  · refine .inl ⟨fun j hj => ?_, hrun⟩
    have hj' : j < m.size := by omega
    have hge := Array.getElem?_eq_getElem hj'
    refine (h11 j _ hge).1 ?_
    cases hc : seen.contains m[j].born with
    | true => rfl
    | false =>
      have : m[j] ∈ (leftOf m seen).toList := leftOf_mem.2 ⟨by simp, hc⟩
      have hl : (leftOf m seen).toList = [] := by
        apply List.eq_nil_of_length_eq_zero
        simpa using hz
      rw [hl] at this
      cases this
  · obtain ⟨hem, hns⟩ := leftOf_mem.1 he
    obtain ⟨j, hj, hje⟩ := List.mem_iff_getElem.1 hem
    have hj' : j < m.size := by simpa using hj
    have hge : m[j]? = some e := by rw [Array.getElem?_eq_getElem hj', ← hje]; simp
    have hjd : j < ds.length := by omega
    have hd := List.getElem?_eq_getElem hjd
    have hheap : (setBlock w1 r (.mapIter (some mb) since (seen.push e.born) clock)).heap = w.heap.setIfInBounds r (.mapIter (some mb) since (seen.push e.born) clock) := by
      rcases hw1 with rfl | rfl <;> rfl
    have hst : Stepped w (setBlock w1 r (.mapIter (some mb) since (seen.push e.born) clock)) r := by
      refine ⟨?_, ?_, ?_, by rw [hheap]; simp, fun b hb => by rw [hheap]; simp [Array.getElem?_setIfInBounds, Ne.symm hb], ⟨_, _, _, _, h6⟩⟩
      · rcases hw1 with rfl | rfl <;> rfl
      · rcases hw1 with rfl | rfl <;> rfl
      · rcases hw1 with rfl | rfl <;> rfl
    have hrr : (setBlock w1 r (.mapIter (some mb) since (seen.push e.born) clock)).heap[r]? = some (.mapIter (some mb) since (seen.push e.born) clock) := by
      have hlt := ZaK h6
      rw [hheap]
      simp [Array.getElem?_setIfInBounds, hlt]
    have hmbr : mb ≠ r := fun e => by subst e; rw [h1] at h6; cases h6
    obtain ⟨r1, r2⟩ := h5 j e _ hge hd
    refine .inr ⟨j, ds[j].1, ds[j].2, e.key, e.val, _, hd, fun hv => ?_, hrun, hst, ?_, r1.mono hst.ext, r2.mono hst.ext⟩
    · rw [(h11 j e hge).2 hv] at hns; cases hns
    · refine ⟨m, clock, since, clock, seen.push e.born, by rw [hst.blk mb hmbr, h1], h2, h3, h4, fun i x d hx hdx => ⟨(h5 i x d hx hdx).1.mono hst.ext, (h5 i x d hx hdx).2.mono hst.ext⟩, hrr, h7, h8, h10, h10, fun i x hx => ?_, fun i hi => ?_⟩
      · rw [Array.contains_push]
        have hnd := h3.2
        constructor
        · intro hc
          rw [Bool.or_eq_true] at hc
          rcases hc with hc | hc
          · exact List.mem_cons_of_mem _ ((h11 i x hx).1 hc)
          · rw [beq_iff_eq] at hc
            have hi' : i < m.size := (Array.getElem?_eq_some_iff.1 hx).1
            have : i = j := by
              refine (List.getElem_inj hnd (i := i) (j := j) (h₀ := by simpa using hi') (h₁ := by simpa using hj')).1 ?_
              simp only [List.getElem_map, Array.getElem_toList]
              rw [(Array.getElem?_eq_some_iff.1 hx).2, (Array.getElem?_eq_some_iff.1 hge).2]
              exact hc
            subst this
            exact List.mem_cons_self
        · intro hm
          rw [Bool.or_eq_true]
          rcases List.mem_cons.1 hm with rfl | hm
          · rw [hge] at hx
            cases hx
            exact .inr (by simp)
          · exact .inl ((h11 i x hx).2 hm)
      · cases hi
        exact ⟨e, seen, hge, rfl, rfl⟩
theorem IterAt.entry {P : Program} {r mb : Nat} {ds : List (DV × DV)} {vis : List Nat} {j : Nat} {k v : DV} (h : IterAt w own r mb ds vis (some j)) (hj : ds[j]? = some (k, v)) :
    ∃ key val, (Instr.entry (.pointer (some ⟨r, 0, none⟩))).run P w = .ok (.tuple #[key, val]) w ∧ Rep w own key k ∧ Rep w own val v := by
  obtain ⟨m, clock, since, last, seen, h1, h2, h3, h4, h5, h6, h7, h8, h9, h10, h11, h12⟩ := h
  obtain ⟨e, seen', g1, rfl, rfl⟩ := h12 j rfl
  have hem : e ∈ m.toList := Array.mem_toList_iff.2 (Array.mem_of_getElem? g1)
  obtain ⟨r1, r2⟩ := h5 j e _ g1 hj
  exact ⟨e.key, e.val, run_entry_at w r mb since seen' m last e h6 h1 hem h3.2, r1, r2⟩
theorem IterAt.start {P : Program} {t k e : TypeId} {v : Value} {ds : List (DV × DV)} (hr : Rep w own v (.fmap ds)) (ht : P.underlying t = some (.map k e)) (hlt : ∀ b x, own b = some x → b < w.heap.size) :
    ∃ mb w', (Instr.range t v).run P w = .ok (.pointer (some ⟨w.heap.size, 0, none⟩)) w' ∧ Grow w w' ∧ w'.heap.size = w.heap.size + 1 ∧ IterAt w' own w.heap.size mb ds [] none := by
  cases hr with
  | fmap b es clock _ hb ho hst hl hk hv =>
    have hg : Grow w (w.alloc (.mapIter (some b) clock #[] clock)) := Grow.alloc w _
    refine ⟨b, _, run_range_map w t k e b es clock ht hb, hg, by simp, ?_⟩
    have hnew : own w.heap.size = none := by
      cases h : own w.heap.size with
      | none => rfl
      | some x => have := hlt _ _ h; omega
    refine ⟨es, clock, clock, clock, #[], by rw [hg.blk b (ZaK hb), hb], ho, hst, hl, fun j x d hx hd => ⟨(hk j x d hx hd).mono (hg.ext own), (hv j x d hx hd).mono (hg.ext own)⟩, Ze3 w _, hnew, hst.1, Nat.le_refl _, Nat.le_refl _, fun j x hx => by simp, fun j hj => by cases hj⟩
end
end Go.Abs
namespace Go.Abs
theorem ZrZ : ∀ (n : Nat) (l : List Nat), l.Nodup → (∀ j ∈ l, j < n) → l.length ≤ n
  | 0, l, _, h => by
    cases l with
    | nil => exact Nat.le_refl _
    | cons j l => have := h j List.mem_cons_self; omega
  | n + 1, l, hn, h => by
    have h1 := ZrZ n (l.erase n) (hn.erase n) (fun j hj => by
      have h2 := h j (List.mem_of_mem_erase hj)
      have h3 : j ≠ n := fun e => by subst e; exact (List.Nodup.mem_erase_iff hn).1 hj |>.1 rfl
      omega)
    have h2 : l.length ≤ (l.erase n).length + 1 := by
      rw [List.length_erase]
      split <;> omega
    omega
section
variable {C : Ctx} {call : Zaa} {fa : FA} {own own' own1 : Own} {st st' st1 st2 s t : St} {a a1 : Act} {w w' w1 : World} {Q Q1 : Out → Prop}
theorem Zun {o : Oper} {v : Value} {K : Act → World → Prop} {X : Exit → Act → World → Prop} (hr : (execOp a.eval o).run C.P w = .ok (.value v) w') (h : K (a.put o.dst v) w') : o.wp C.P a w K X := by
  unfold Oper.wp
  rw [hr]
  exact h
theorem Zrp {o : Oper} {x : Operand} {v : Value} (hop : o.op = .next x false) (h : (Instr.next (a.eval x) false o.type).run C.P w = .ok v w') : (execOp a.eval o).run C.P w = .ok (.value v) w' := by
  simp only [execOp, hop, Sem.run_bind, h, Result.andThen_ok, Sem.run_pure]
theorem Zvb {o : Oper} {x : Operand} {v : Value} (hop : o.op = .entry x) (h : (Instr.entry (a.eval x)).run C.P w = .ok v w') : (execOp a.eval o).run C.P w = .ok (.value v) w' := by
  simp only [execOp, hop, Sem.run_bind, h, Result.andThen_ok, Sem.run_pure]
theorem Zvy {o : Oper} {x : Operand} {t : TypeId} {v : Value} (hop : o.op = .range t x) (h : (Instr.range t (a.eval x)).run C.P w = .ok v w') : (execOp a.eval o).run C.P w = .ok (.value v) w' := by
  simp only [execOp, hop, Sem.run_bind, h, Result.andThen_ok, Sem.run_pure]
theorem ZwM {P : Program} {hh : List AObj} {v u : Value} (h : ARep P w own hh v (.raw u)) : v = u := by cases h; rfl
def Ydk (C : Ctx) (fa : FA) (it : Nat) (p : Value) (ds : List (DV × DV)) (c : Code) (st : St) (Q : Out → Prop) : Prop := ∀ own a w r mb w0 Zh7 h0, SRel C.P fa own st a w → p = .pointer (some ⟨r, 0, none⟩) → Zad st.env it = some (.val (.raw p)) → IterAt w own r mb ds [] none →
  Frm w0 Zh7 w own → ExtA w0 Zh7 h0 w own st.heap → w0.heap.size ≤ r → c.wp C.P (fun e a' w' => ∃ out, Q out ∧ OutRel C.P fa Zh7 h0 w0 out e a' w') a w
theorem ZeQ (hn : Zbj C.P) (hK : Zbq C.P call) {id : Nat} {pre : List Oper} {o : Oper} {ops : Array Oper} {X : Code} {x : Operand} {t k e : TypeId} {it : Nat} {ds : List (DV × DV)} (hops : ops.toList = pre ++ [o]) (he : Zau C call fa (pre ++ [o]) pre st = some st1) (hg : o.guard = none)
    (hop : o.op = .range t x) (hd : o.dst = some it) (hkp : has fa.keep it = true) (hnt : Nat.blt it fa.nt = true) (hx : opA st1 x = some (.d (.fmap ds))) (ht : C.P.underlying t = some (.map k e))
    (h : ∀ p, Ydk C fa it p ds X ⟨ZhO st1.env it (.val (.raw p)), [], st1.heap⟩ Q) : Tri C fa (.seq (.region id ops false) X) st Q := by
  intro own a w S
  refine wp_seq (wp_region_list ?_)
  rw [hops]
  have hall : (pre ++ [o]).toArray = ops := by rw [← hops]
  have key : wpList C.P (pre ++ [o]).toArray (Exit.then (X.wp C.P fun e a' w' => ∃ out, Q out ∧ OutRel C.P fa own st.heap w out e a' w') fun e a' w' => ∃ out, Q out ∧ OutRel C.P fa own st.heap w out e a' w') (pre ++ [o]) a w := by
    refine ZiU hn hK pre st own a w he S fun a1 w1 own1 S1 F1 E1 => ?_
    simp only [wpList]
    have hw : Region.wanted o (yielded (pre ++ [o]).toArray a1.tmps) = true := by
      unfold Region.wanted
      rw [hg]
    rw [if_pos hw]
    left
    have hv := ZbI S1 hx
    obtain ⟨mb, w2, hrun, hgr, hsz, hI⟩ := IterAt.start (P := C.P) hv.d_inv ht S1.h.lt
    refine Zun (Zvy hop hrun) ?_
    simp only [Exit.then]
    have hput : st1.put fa o.dst (.a (.raw (.pointer (some ⟨w1.heap.size, 0, none⟩)))) = some { st1 with env := ZhO st1.env it (.val (.raw (.pointer (some ⟨w1.heap.size, 0, none⟩)))) } := by
      rw [hd]
      simp only [St.put, hnt, hkp, cond_true, XV.flat]
    have S2 := ((S1.grow hgr).put (v := .pointer (some ⟨w1.heap.size, 0, none⟩)) (x := .a (.raw (.pointer (some ⟨w1.heap.size, 0, none⟩)))) (fun _ _ => .raw _ rfl) hput).dropTmp
    exact h _ own1 _ w2 w1.heap.size mb w own st.heap S2 rfl (by simp only [ZaB, Nat.beq_refl, cond_true]) hI (F1.trans (hgr.frm own1)) (E1.trans (hgr.extA own1 _)) F1.size
  rw [hall] at key
  exact key
theorem Zlr (hn : Zbj C.P) (hK : Zbq C.P call) {it : Nat} {p : Value} {ds : List (DV × DV)} {id1 id2 ib ix jb tn te : Nat} {on oe : Oper} {rest1 rest2 : List Oper} {ops1 ops2 : Array Oper} {g : Operand} {body : Code}
    (hops1 : ops1.toList = on :: rest1) (hg1 : on.guard = none) (hop1 : on.op = .next (.tmp it) false) (hd1 : on.dst = some tn) (hk1 : has fa.keep tn = false) (hn1 : Nat.blt tn fa.nt = true)
    (hops2 : ops2.toList = oe :: rest2) (hg2 : oe.guard = none) (hop2 : oe.op = .entry (.tmp it)) (hd2 : oe.dst = some te) (hk2 : has fa.keep te = false) (hn2 : Nat.blt te fa.nt = true)
    (Inv : List Nat → St → Prop) (h0 : Inv [] st) (hit : ∀ vis s, Inv vis s → s.tmp = [] ∧ Zad s.env it = some (.val (.raw p)))
    (hover : ∀ vis s, Inv vis s → (∀ j, j < ds.length → j ∈ vis) → ∃ s1, Zau C call fa (on :: rest1) rest1 { s with tmp := [(tn, .a (.d (.tup [.bool false])))] } = some s1 ∧ opD { s1 with tmp := [] } g = some (.bool false) ∧ Q (Zba ib st.env (.exit ix { s1 with tmp := [] })))
    (hstep : ∀ vis s j k v, Inv vis s → ds[j]? = some (k, v) → j ∉ vis → ∃ s1 s2, Zau C call fa (on :: rest1) rest1 { s with tmp := [(tn, .a (.d (.tup [.bool true, k, v])))] } = some s1 ∧ opD { s1 with tmp := [] } g = some (.bool true) ∧ Zad s1.env it = some (.val (.raw p)) ∧
      Zau C call fa (oe :: rest2) rest2 { s1 with tmp := [(te, .a (.d (.tup [k, v])))] } = some s2 ∧ Tri C fa body { s2 with tmp := [] } fun o => match Zba jb s1.env o with
        | .norm s' => ∃ s3, Inv (j :: vis) s3 ∧ Sub s3 s'
        | o => Q (Zba ib st.env o)) :
    Ydk C fa it p ds (.block ib (.loop (.seq (.region id1 ops1 false) (.seq (.cond g .skip (.exit ix)) (.block jb (.seq (.region id2 ops2 false) body)))))) st Q := by
  intro own a w r mb w0 Zh7 hh0 S hp _ hI F E hr
  have hblk : (Code.loop (.seq (.region id1 ops1 false) (.seq (.cond g .skip (.exit ix)) (.block jb (.seq (.region id2 ops2 false) body))))).wp C.P (fun e a' w' => ∃ out, (∀ s, out ≠ .norm s) ∧ Q (Zba ib st.env out) ∧ OutRel C.P fa Zh7 hh0 w0 out e a' w') a w := by
    refine Zma (fun n a' w' => ∃ vis s own1 cur, n = ds.length - vis.length ∧ vis.Nodup ∧ (∀ j ∈ vis, j < ds.length) ∧ Inv vis s ∧ SRel C.P fa own1 s a' w' ∧ IterAt w' own1 r mb ds vis cur ∧ Frm w0 Zh7 w' own1 ∧ ExtA w0 Zh7 hh0 w' own1 s.heap) ds.length
      ⟨[], st, own, none, rfl, List.nodup_nil, fun j hj => by simp at hj, h0, S, hI, F, E⟩ ?_
    rintro n a1 w1 ⟨vis, s, own1, cur, rfl, hnd, hlt, hInv, S1, hI1, F1, E1⟩
    obtain ⟨htmp, hraw⟩ := hit vis s hInv
    have hev : a1.eval (.tmp it) = .pointer (some ⟨r, 0, none⟩) := by
      have h1 : opA s (.tmp it) = some (.raw p) := by simp only [opA, opd, opx, htmp, Zad, hraw, XV.flat]
      rw [ZwM (ZbI S1 h1), hp]
    have hall1 : (on :: rest1).toArray = ops1 := by rw [← hops1]
    have hall2 : (oe :: rest2).toArray = ops2 := by rw [← hops2]
    have hw1 : ∀ tmps, Region.wanted on (yielded (on :: rest1).toArray tmps) = true := fun tmps => by
      unfold Region.wanted
      rw [hg1]
    have hw2 : ∀ tmps, Region.wanted oe (yielded (oe :: rest2).toArray tmps) = true := fun tmps => by
      unfold Region.wanted
      rw [hg2]
    have hput1 : ∀ d, s.put fa on.dst (.a (.d d)) = some { s with tmp := [(tn, .a (.d d))] } := fun d => by
      rw [hd1]
      simp only [St.put, hn1, hk1, cond_true, cond_false, htmp, ins]
    rcases hI1.next (P := C.P) on.type with ⟨hall, hrun⟩ | ⟨j, k, v, key, val, w2, hj, hjv, hrun, hst, hI2, hrk, hrv⟩
    ·
      obtain ⟨s1, e1, e2, e3⟩ := hover vis s hInv hall
      refine wp_seq (wp_region_list ?_)
      rw [← hall1]
      simp only [wpList]
      rw [if_pos (hw1 _)]
      left
      rw [← hev] at hrun
      refine Zun (Zrp hop1 hrun) ?_
      have S2 := S1.put (v := .tuple #[.bool false]) (x := .a (.d (.tup [.bool false]))) (fun _ _ => .d _ _ (.tup _ _ rfl fun i v d hv hd => by
        rcases i with _ | i
        · cases hv; cases hd; exact .bool _
        · simp at hd)) (hput1 _)
      refine ZdU hn hK rest1 _ own1 _ w1 e1 S2 fun a3 w3 own3 S3 F3 E3 => ?_
      simp only [Exit.then]
      have S3' := S3.dropTmp
      refine wp_seq ?_
      have hc : a3.eval g = .bool false := (Zbg S3' e2).bool_inv
      refine wp_cond hc (wp_exit ?_)
      exact ⟨.exit ix { s1 with tmp := [] }, by simp, e3, rfl, own3, S3', F1.trans F3, E1.trans E3⟩
    ·
      obtain ⟨s1, s2, e1, e2, e3, e4, e5⟩ := hstep vis s j k v hInv hj hjv
      have hr1 : own1 r = none := by
        obtain ⟨_, _, _, _, _, _, _, _, _, _, _, h7, _⟩ := hI1
        exact h7
      refine wp_seq (wp_region_list ?_)
      rw [← hall1]
      simp only [wpList]
      rw [if_pos (hw1 _)]
      left
      rw [← hev] at hrun
      refine Zun (Zrp hop1 hrun) ?_
      have S1' := S1.stepped hst hr1
      have F1' := F1.stepped hst hr
      have E1' := E1.trans (hst.extA hr1 s.heap)
      have S2 := S1'.put (v := .tuple #[.bool true, key, val]) (x := .a (.d (.tup [.bool true, k, v]))) (fun _ _ => .d _ _ (.tup _ _ rfl fun i v d hv hd => by
        rcases i with _ | _ | _ | i
        · cases hv; cases hd; exact .bool _
        · cases hv; cases hd; exact hrk
        · cases hv; cases hd; exact hrv
        · simp at hd)) (hput1 _)
      refine ZdU hn hK rest1 _ own1 _ w2 e1 S2 fun a3 w3 own3 S3 F3 E3 => ?_
      simp only [Exit.then]
      have S3' := S3.dropTmp
      have hI3 := hI2.after F3 E3.ext
      refine wp_seq ?_
      have hc : a3.eval g = .bool true := (Zbg S3' e2).bool_inv
      refine wp_cond hc (wp_skip ?_)
      simp only [Exit.then]
      refine wp_block ?_
      refine wp_seq (wp_region_list ?_)
      rw [← hall2]
      simp only [wpList]
      rw [if_pos (hw2 _)]
      left
      have hev3 : a3.eval (.tmp it) = .pointer (some ⟨r, 0, none⟩) := by
        have h1 : opA { s1 with tmp := [] } (.tmp it) = some (.raw p) := by simp only [opA, opd, opx, Zad, e3, XV.flat]
        rw [ZwM (ZbI S3' h1), hp]
      obtain ⟨key', val', hrun2, hrk2, hrv2⟩ := hI3.entry (P := C.P) hj
      rw [← hev3] at hrun2
      refine Zun (Zvb hop2 hrun2) ?_
      have hput2 : St.put fa { s1 with tmp := [] } oe.dst (.a (.d (.tup [k, v]))) = some { s1 with tmp := [(te, .a (.d (.tup [k, v])))] } := by
        rw [hd2]
        simp only [St.put, hn2, hk2, cond_true, cond_false, ins]
      have S4 := S3'.put (v := .tuple #[key', val']) (x := .a (.d (.tup [k, v]))) (fun _ _ => .d _ _ (.tup _ _ rfl fun i v d hv hd => by
        rcases i with _ | _ | i
        · cases hv; cases hd; exact hrk2
        · cases hv; cases hd; exact hrv2
        · simp at hd)) hput2
      refine ZdU hn hK rest2 _ own3 _ w3 e4 S4 fun a5 w5 own5 S5 F5 E5 => ?_
      simp only [Exit.then]
      have S5' := S5.dropTmp
      have hI5 := hI3.after F5 E5.ext
      refine wp_mono (e5 own5 a5 w5 S5') ?_
      rintro e a6 w6 ⟨o, hq, rr⟩
      obtain ⟨he, own6, S6, F6, E6⟩ := rr
      have hnd' : (j :: vis).Nodup := List.nodup_cons.2 ⟨hjv, hnd⟩
      have hlt' : ∀ i ∈ j :: vis, i < ds.length := fun i hi => by
        rcases List.mem_cons.1 hi with rfl | hi
        · exact (List.getElem?_eq_some_iff.1 hj).1
        · exact hlt i hi
      have hlen := ZrZ ds.length (j :: vis) hnd' hlt'
      simp only [List.length_cons] at hlen
      have F7 := ((F1'.trans F3).trans F5).trans F6
      have E7 := ((E1'.trans E3).trans E5).trans E6
      cases o with
      | norm s' =>
        subst he
        simp only [Zba] at hq
        obtain ⟨s3, hq1, hq2⟩ := hq
        exact ⟨_, by simp only [List.length_cons]; omega, j :: vis, s3, own6, some j, rfl, hnd', hlt', hq1, (S6.trim _).sub hq2, hI5.after F6 E6.ext, F7, by rw [hq2.heap]; exact E7⟩
      | exit i s' =>
        subst he
        simp only [Zba] at hq
        simp only [Out.ex, Exit.inBlock]
        cases hb : Nat.beq i jb with
        | true =>
          have hbe := Nat.eq_of_beq_eq_true hb
          subst hbe
          rw [hb] at hq
          simp only [cond_true] at hq
          rw [if_pos rfl]
          obtain ⟨s3, hq1, hq2⟩ := hq
          exact ⟨_, by simp only [List.length_cons]; omega, j :: vis, s3, own6, some j, rfl, hnd', hlt', hq1, (S6.trim _).sub hq2, hI5.after F6 E6.ext, F7, by rw [hq2.heap]; exact E7⟩
        | false =>
          rw [hb] at hq
          simp only [cond_false] at hq
          rw [if_neg (beq_ne.1 hb)]
          exact ⟨.exit i s', by simp, hq, rfl, own6, S6, F7, E7⟩
      | goto l s' => subst he; exact ⟨.goto l s', by simp, hq, rfl, own6, S6, F7, E7⟩
      | ret s' => subst he; exact ⟨.ret s', by simp, hq, rfl, own6, S6, F7, E7⟩
  refine wp_block (wp_mono hblk ?_)
  rintro e a1 w1 ⟨o, hne, hq, rr⟩
  have r' := rr
  obtain ⟨he, own1, S1, F1, E1⟩ := rr
  cases o with
  | norm s => exact absurd rfl (hne s)
  | exit k s =>
    subst he
    simp only [Zba] at hq
    cases hb : Nat.beq k ib with
    | true =>
      rw [hb] at hq
      have := Nat.eq_of_beq_eq_true hb
      subst this
      simp only [Out.ex, Exit.inBlock, if_true]
      exact ⟨_, hq, rfl, own1, S1.trim _, F1, E1⟩
    | false =>
      rw [hb] at hq
      simp only [Out.ex, Exit.inBlock, if_neg (beq_ne.1 hb)]
      exact ⟨_, hq, rfl, own1, S1, F1, E1⟩
  | goto l s => subst he; exact ⟨_, hq, r'⟩
  | ret s => subst he; exact ⟨_, hq, r'⟩
end
end Go.Abs
namespace Go.Abs
section
variable {C : Ctx} {call : Zaa} {fa : FA} {own own' own1 : Own} {st st' st1 st2 s t : St} {a a1 : Act} {w w' w1 : World} {Q Q1 : Out → Prop}
def endQ (C : Ctx) (fn : Func) (R : AV → List AObj → Prop) : Out → Prop
  | .norm s => ∃ vs, Zdi C s fn.results.toList = some vs ∧ R (Zbw vs) s.heap
  | .ret s => ∃ vs, Zdi C s fn.results.toList = some vs ∧ R (Zbw vs) s.heap
  | _ => False
theorem Zf6 {f : FuncId} {fn : Func} {c : Code} {args : List AV} {h : List AObj} {R : AV → List AObj → Prop} (hfn : C.P.funcs[f]? = some fn) (hc : fn.body = some c)
    (hb : (Nat.beq fn.ntmps (C.ann f).nt && Nat.ble args.length fn.ntmps && Zfm (C.ann f).keep args.length) = true) (ht : Tri C (C.ann f) c ⟨ZhC 0 args, [], h⟩ (endQ C fn R)) : HasN C.P f args h R := by
  simp only [Bool.and_eq_true] at hb
  obtain ⟨⟨b1, b2⟩, b3⟩ := hb
  have hnt : fn.ntmps = (C.ann f).nt := Nat.eq_of_beq_eq_true b1
  have hle : args.length ≤ fn.ntmps := Nat.le_of_ble_eq_true b2
  refine ⟨⟨fn, hfn, by rw [hc]; rfl⟩, fun w own vs H hO hl hr => ?_⟩
  refine calls_of_wp hfn hc ?_
  have S : SRel C.P (C.ann f) own ⟨ZhC 0 args, [], h⟩ { tmps := vs ++ Array.replicate (fn.ntmps - vs.size) undef, defers := [] } w := by
    refine ⟨H, by simp; omega, rfl, fun s sv hs => ?_, fun t x ht => by simp [Zad] at ht, fun s sv hs => ?_, fun t x ht => by simp [Zad] at ht⟩
    · obtain ⟨v, _, _, h3⟩ := Zg6 args 0 s sv hs
      exact Zjd b3 s (by have := (List.getElem?_eq_some_iff.1 h3).1; simpa using this)
    · obtain ⟨v, rfl, _, h3⟩ := Zg6 args 0 s sv hs
      rw [Nat.sub_zero] at h3
      have hlt : s < vs.size := by rw [hl]; exact (List.getElem?_eq_some_iff.1 h3).1
      have hu := Array.getElem?_eq_getElem hlt
      have hg : (vs ++ Array.replicate (fn.ntmps - vs.size) undef).getD s undef = vs[s] := by
        rw [Array.getD_eq_getD_getElem?, Array.getElem?_append_left hlt, hu]; rfl
      simp only [SVRel]
      rw [hg]
      exact hr s _ v hu h3
  have fin : ∀ (st' : St), (∃ vs, Zdi C st' fn.results.toList = some vs ∧ R (Zbw vs) st'.heap) → ∀ (a' : Act) (w' : World), (∃ own', SRel C.P (C.ann f) own' st' a' w' ∧ Frm w own w' own' ∧ ExtA w own h w' own' st'.heap) →
      a'.defers = [] ∧ ∃ v, (results fn a'.tmps).run C.P w' = .ok v w' ∧ ∃ v1 own' r h', R r h' ∧ Ending.returned v = .returned v1 ∧ ZhQ own' ∧ HRel C.P w' own' h' ∧ ARep C.P w' own' h' v1 r ∧ Frm w own w' own' ∧ ExtA w own h w' own' h' := by
    intro st' ⟨vs', hvs, hR⟩ a' w' ⟨own', S', F, E⟩
    obtain ⟨v, hv, hrep⟩ := ZmG S' hvs
    have E2 := ZfC w' own' st'.heap
    refine ⟨S'.defers, v, hv, v, Zlv own', _, _, hR, rfl, ZiB own', ZiC S'.h, hrep.mono E2, F.trans ⟨rfl, rfl, rfl, Nat.le_refl _, fun b _ hb => ⟨rfl, ?_⟩⟩, E.trans E2⟩
    rcases hb with hb | ⟨f, hb⟩ <;> simp [Zlv, hb]
  refine wp_mono (ht own _ w S) ?_
  rintro e a' w' ⟨o, hq, he, q⟩
  cases o with
  | norm s => subst he; exact fin s hq a' w' q
  | ret s => subst he; exact fin s hq a' w' q
  | exit id s => exact False.elim hq
  | goto l s => exact False.elim hq
theorem HasN.frozen {P : Program} {f : FuncId} {ds : List DV} {R : AV → List AObj → Prop} {d : DV} (h : HasN P f (ds.map .d) [] R) (hR : ∀ r h', R r h' → ∃ m, Abs.freeze h' m r = some d) : Has P f (ds.map .d) [] (.d d) [] := by
  refine ⟨h.1, fun w own vs H hO hl hr => (h.2 w own vs H hO hl hr).mono ?_⟩
  rintro e w' ⟨v, own1, r, h', hr', rfl, hO1, H1, hrep, F, E⟩
  obtain ⟨m, hm⟩ := hR r h' hr'
  have hno : ∀ b id f, own b ≠ some (.obj id, f) := fun b id f hb => by
    have := (H.idlt b id f hb).1
    simp at this
  have hold : ∀ b, b < w.heap.size → w'.heap[b]? = w.heap[b]? ∧ own1 b = own b := fun b hb => by
    refine F.blk b hb ?_
    cases ho : own b with
    | none => exact .inl rfl
    | some x =>
      obtain ⟨x, f⟩ := x
      rcases hO b x f ho with rfl | ⟨id, rfl⟩
      · exact .inr ⟨f, rfl⟩
      · exact absurd ho (hno b id f)
  have hgrow : Grow w w' := ⟨F.os, F.tape, F.output, F.size, fun b hb => (hold b hb).1⟩
  have hE : Ext w' own1 w' own := by
    refine ⟨fun b o v hc hp => ⟨hc, fun x f hx => ?_⟩, fun b es c hc hn => ⟨hc, ?_⟩⟩
    · have hb := H.lt b _ hx
      exact hp x f (by rw [(hold b hb).2]; exact hx)
    · cases ho : own b with
      | none => rfl
      | some x =>
        have hb := H.lt b _ ho
        rw [← (hold b hb).2, hn] at ho
        cases ho
  have hdrop : ∀ b id f, own1 b = some (.obj id, f) → own b = none := fun b id f hb => by
    cases ho : own b with
    | none => rfl
    | some x =>
      have hlt := H.lt b _ ho
      rw [(hold b hlt).2] at hb
      exact absurd hb (hno b id f)
  exact ⟨v, own, rfl, hO, H.grow hgrow, .d _ _ (Zn2 hE hdrop H1 _ _ _ _ hm hrep), hgrow.frm own, hgrow.extA own _⟩
end
end Go.Abs
namespace Go.Abs
def ZbL (n : Nat) (own : Own) : Own := fun b => match own b with
  | some (.obj id, f) => if id < n then some (.obj id, f) else none
  | x => x
inductive ShedV (n : Nat) (h : List AObj) : AV → AV → Prop where
  | d (x : DV) : ShedV n h (.d x) (.d x)
  | ptr (id off : Nat) (hid : id < n) : ShedV n h (.ptr id off) (.ptr id off)
  | mp (id : Nat) (hid : id < n) : ShedV n h (.mp id) (.mp id)
  | raw (v : Value) : ShedV n h (.raw v) (.raw v)
  | fn (f : FuncId) (as bs : List AV) (hl : as.length = bs.length) (hh : ∀ (i : Nat) a b, as[i]? = some a → bs[i]? = some b → ShedV n h a b) : ShedV n h (.fn f as) (.fn f bs)
  | frz (id : Nat) (es : List (DV × DV)) (hn : n ≤ id) (hh : h[id]? = some (.map (es.map fun p => (p.1, .d p.2)))) : ShedV n h (.mp id) (.d (.fmap es))
inductive ShedSV (n : Nat) (h : List AObj) : SV → SV → Prop where
  | val (a b : AV) (hv : ShedV n h a b) : ShedSV n h (.val a) (.val b)
  | box (cs : List DV) : ShedSV n h (.box cs) (.box cs)
inductive ShedO (n : Nat) (h : List AObj) : AObj → AObj → Prop where
  | var (cs ds : List AV) (hl : cs.length = ds.length) (hh : ∀ (i : Nat) a b, cs[i]? = some a → ds[i]? = some b → ShedV n h a b) : ShedO n h (.var cs) (.var ds)
  | map (es fs : List (DV × AV)) (hl : es.length = fs.length) (hh : ∀ (i : Nat) a b, es[i]? = some a → fs[i]? = some b → a.1 = b.1 ∧ ShedV n h a.2 b.2) : ShedO n h (.map es) (.map fs)
section
variable {C : Ctx} {call : Zaa} {fa : FA} {own own' own1 : Own} {st st2 : St} {a : Act} {w w0 : World} {n : Nat}
theorem Zgg (n : Nat) (own : Own) (b : Nat) : (∃ id f, own b = some (.obj id, f) ∧ id < n ∧ ZbL n own b = some (.obj id, f)) ∨ (∃ id f, own b = some (.obj id, f) ∧ n ≤ id ∧ ZbL n own b = none) ∨ ((∀ id f, own b ≠ some (.obj id, f)) ∧ ZbL n own b = own b) := by
  unfold ZbL
  cases h : own b with
  | none => exact .inr (.inr ⟨fun id f e => (by cases e), rfl⟩)
  | some x =>
    obtain ⟨x, f⟩ := x
    cases x with
    | obj id =>
      simp only
      by_cases hi : id < n
      · rw [if_pos hi]; exact .inl ⟨id, f, rfl, hi, rfl⟩
      · rw [if_neg hi]; exact .inr (.inl ⟨id, f, rfl, by omega, rfl⟩)
    | _ => exact .inr (.inr ⟨fun id f e => (by cases e), rfl⟩)
theorem ZfE {b : Nat} {x : Owner} {f : Nat} (h : ZbL n own b = some (x, f)) : own b = some (x, f) := by
  rcases Zgg n own b with ⟨id, g, h1, h2, h3⟩ | ⟨id, g, h1, h2, h3⟩ | ⟨h1, h2⟩
  · rw [h3] at h; rw [h1, h]
  · rw [h3] at h; cases h
  · rw [h2] at h; exact h
theorem Zha (w : World) : Ext w own w (ZbL n own) := by
  refine ⟨fun b o v hc hp => ⟨hc, fun x f hx => hp x f (ZfE hx)⟩, fun b es c hc hn => ⟨hc, ?_⟩⟩
  rcases Zgg n own b with ⟨id, g, h1, h2, h3⟩ | ⟨id, g, h1, h2, h3⟩ | ⟨h1, h2⟩
  · rw [h1] at hn; cases hn
  · exact h3
  · rw [h2]; exact hn
def ZiN : AObj → AObj → Prop
  | .var _, .var _ => True
  | .map _, .map _ => True
  | _, _ => False
theorem ShedO.kind {h : List AObj} {o o2 : AObj} (r : ShedO n h o o2) : ZiN o o2 := by cases r <;> trivial
theorem ShedV.rep {P : Program} {h h2 : List AObj} (H : HRel P w own h) (hl : h2.length = n) (hk : ∀ (id : Nat) (o2 : AObj), h2[id]? = some o2 → ∃ o, h[id]? = some o ∧ ZiN o o2) {x y : AV} (s : ShedV n h x y) : ∀ {v : Value}, ARep P w own h v x → ARep P w (ZbL n own) h2 v y := by
  have keep : ∀ {b id f : Nat}, own b = some (.obj id, f) → id < n → ZbL n own b = some (.obj id, f) := fun {b id f} hb hi => by simp only [ZbL, hb, if_pos hi]
  induction s with
  | d x =>
    intro v r
    exact .d _ _ (r.d_inv.mono (Zha w))
  | raw v =>
    intro u r
    cases r with
    | raw _ h1 => exact .raw _ h1
  | ptr id off hid =>
    intro v r
    cases r with
    | ptr _ _ _ hid' hl' hv =>
      refine .ptr _ _ _ (by omega) (fun cs hcs => ?_) hv
      obtain ⟨o, h1, h2⟩ := hk id _ hcs
      cases o <;> simp only [ZiN] at h2
      obtain ⟨b, h3, h4⟩ := hl' _ h1
      exact ⟨b, keep h3 hid, h4⟩
  | mp id hid =>
    intro v r
    cases r with
    | mp _ _ hid' hl' hv =>
      refine .mp _ _ (by omega) (fun es hes => ?_) hv
      obtain ⟨o, h1, h2⟩ := hk id _ hes
      cases o <;> simp only [ZiN] at h2
      obtain ⟨b, h3, h4⟩ := hl' _ h1
      exact ⟨b, keep h3 hid, h4⟩
  | fn f as bs hlen hh ih =>
    intro v r
    cases r with
    | fn _ cs _ hl' hr =>
      refine .fn f cs bs (by rw [hl', hlen]) fun i u b hu hb => ?_
      · have hi : i < as.length := by rw [hlen]; exact (List.getElem?_eq_some_iff.1 hb).1
        exact ih i as[i] b (List.getElem?_eq_getElem hi) hb (hr i u _ hu (List.getElem?_eq_getElem hi))
  | frz id es hn hh =>
    intro v r
    cases r with
    | mp _ _ hid' hl' hv =>
      obtain ⟨b, h3, rfl⟩ := hl' _ hh
      obtain ⟨b', h4, m, clock, h5, h6, h7, h8⟩ := H.obj id _ hh
      have : b' = b := H.uniq _ _ _ _ _ h4 h3 (by simp)
      subst this
      have hnone : ZbL n own b' = none := by simp only [ZbL, h3]; rw [if_neg (by omega)]
      refine .d _ _ (.fmap b' m clock es h5 hnone h6 (by simpa using h7) (fun i e d he hd => ?_) (fun i e d he hd => ?_))
      · exact ((h8 i e _ he (by rw [List.getElem?_map, hd]; rfl)).1).mono (Zha w)
      · exact ((h8 i e _ he (by rw [List.getElem?_map, hd]; rfl)).2.d_inv).mono (Zha w)
structure Sheds (n : Nat) (st st2 : St) : Prop where
  tmp : st2.tmp = []
  len : st2.heap.length = n
  heap : ∀ (id : Nat) o2, st2.heap[id]? = some o2 → ∃ o, st.heap[id]? = some o ∧ ShedO n st.heap o o2
  env : ∀ k v2, Zad st2.env k = some v2 → ∃ v, Zad st.env k = some v ∧ ShedSV n st.heap v v2
theorem SRel.shed (S : SRel C.P fa own st a w) (h : Sheds n st st2) : SRel C.P fa (ZbL n own) st2 a w := by
  have hk : ∀ (id : Nat) (o2 : AObj), st2.heap[id]? = some o2 → ∃ o, st.heap[id]? = some o ∧ ZiN o o2 := fun id o2 ho => by
    obtain ⟨o, h1, h2⟩ := h.heap id o2 ho
    exact ⟨o, h1, h2.kind⟩
  have rep : ∀ {x y : AV}, ShedV n st.heap x y → ∀ {v : Value}, ARep C.P w own st.heap v x → ARep C.P w (ZbL n own) st2.heap v y := fun {x y} sh {v} r => sh.rep S.h h.len hk r
  refine ⟨⟨fun id o2 ho => ?_, fun b b' x f f' h1 h2 hne => S.h.uniq b b' x f f' (ZfE h1) (ZfE h2) hne, fun b x hb => ?_, fun b id f hb => ?_⟩, S.nt, S.defers, fun k v hv => ?_, fun k x hx => (by rw [h.tmp] at hx; cases hx), fun k v hv => ?_, fun k x hx => (by rw [h.tmp] at hx; cases hx)⟩
  · obtain ⟨o, h1, h2⟩ := h.heap id o2 ho
    obtain ⟨b, h3, h4⟩ := S.h.obj id o h1
    have hid : id < n := by rw [← h.len]; exact (List.getElem?_eq_some_iff.1 ho).1
    refine ⟨b, by simp only [ZbL, h3, if_pos hid], ?_⟩
    cases h2 with
    | var cs ds hl hh =>
      obtain ⟨c, T, fr, k1, k2, k3, k4⟩ := h4
      refine ⟨c, T, fr, k1, k2, by rw [k3, hl], fun j x hx => ?_⟩
      have hj : j < cs.length := by rw [hl]; exact (List.getElem?_eq_some_iff.1 hx).1
      obtain ⟨v, g1, g2, g3⟩ := k4 j _ (List.getElem?_eq_getElem hj)
      exact ⟨v, g1, g2, rep (hh j _ _ (List.getElem?_eq_getElem hj) hx) g3⟩
    | map es fs hl hh =>
      obtain ⟨m, clock, k1, k2, k3, k4⟩ := h4
      refine ⟨m, clock, k1, k2, by rw [k3, hl], fun j e x he hx => ?_⟩
      have hj : j < es.length := by rw [hl]; exact (List.getElem?_eq_some_iff.1 hx).1
      obtain ⟨g1, g2⟩ := k4 j e _ he (List.getElem?_eq_getElem hj)
      obtain ⟨g3, g4⟩ := hh j _ _ (List.getElem?_eq_getElem hj) hx
      exact ⟨by rw [← g3]; exact g1.mono (Zha w), rep g4 g2⟩
  · obtain ⟨x, f⟩ := x
    exact S.h.lt b _ (ZfE hb)
  · obtain ⟨h1, h2⟩ := S.h.idlt b id f (ZfE hb)
    refine ⟨?_, h2⟩
    rw [h.len]
    rcases Zgg n own b with ⟨id', g, k1, k2, k3⟩ | ⟨id', g, k1, k2, k3⟩ | ⟨k1, k2⟩
    · rw [k3] at hb; cases hb; exact k2
    · rw [k3] at hb; cases hb
    · rw [k2] at hb; exact absurd hb (k1 id f)
  · obtain ⟨u, h1, _⟩ := h.env k v hv
    exact S.ek k u h1
  · obtain ⟨u, h1, h2⟩ := h.env k v hv
    have := S.env k u h1
    cases h2 with
    | val x y hs => exact rep hs this
    | box cs =>
      obtain ⟨b, c, T, fr, k1, k2, k3, k4, k5, k6⟩ := this
      refine ⟨b, c, T, fr, by simp only [ZbL, k1], k2, k3, k4, k5, fun j d hd => ?_⟩
      obtain ⟨u, g1, g2, g3⟩ := k6 j d hd
      exact ⟨u, g1, g2, g3.mono (Zha w)⟩
theorem Frm.shed {Zh7 : Own} (F : Frm w0 Zh7 w own) : Frm w0 Zh7 w (ZbL n own) := by
  refine ⟨F.os, F.tape, F.output, F.size, fun b hb ho => ⟨(F.blk b hb ho).1, ?_⟩⟩
  rw [← (F.blk b hb ho).2]
  have h := (F.blk b hb ho).2
  rcases ho with ho | ⟨f, ho⟩
  · rw [h, ho]; simp [ZbL, h, ho]
  · rw [h, ho]; simp [ZbL, h, ho]
theorem ExtA.shed {Zh7 : Own} {h0 : List AObj} (E : ExtA w0 Zh7 h0 w own st.heap) (h : Sheds n st st2) (hn : h0.length ≤ n) : ExtA w0 Zh7 h0 w (ZbL n own) st2.heap := by
  refine ⟨E.ext.trans (Zha w), by rw [h.len]; exact hn, fun id o o2 h1 h2 => ?_, fun b id o o2 hb h1 h2 hs => ?_⟩
  · obtain ⟨o', k1, k2⟩ := h.heap id o2 h2
    have := E.kind id o o' h1 k1
    cases k2 <;> cases o <;> simp only [AObj.later] at this ⊢
  · obtain ⟨o', k1, k2⟩ := h.heap id o2 h2
    have hs' : o.stays o' := by
      have := E.kind id o o' h1 k1
      cases k2 <;> cases o <;> simp only [AObj.later, AObj.stays] at this ⊢
    obtain ⟨g1, g2⟩ := E.blk b id o o' hb h1 k1 hs'
    have hid : id < n := by rw [← h.len]; exact (List.getElem?_eq_some_iff.1 h2).1
    exact ⟨by simp only [ZbL, g1, if_pos hid], g2⟩
theorem Zut {c : Code} {Q : Out → Prop} (hn : st.heap.length ≤ n) (h : Tri C fa c st fun o => match o with
    | .norm s => ∃ s2, Sheds n s s2 ∧ Q (.norm s2)
    | o => Q o) : Tri C fa c st Q := by
  intro own a w S
  refine wp_mono (h own a w S) ?_
  rintro e a' w' ⟨o, hq, r⟩
  have r' := r
  obtain ⟨he, own1, S1, F1, E1⟩ := r
  cases o with
  | norm s =>
    subst he
    obtain ⟨s2, hs, hq2⟩ := hq
    exact ⟨_, hq2, rfl, _, S1.shed hs, F1.shed, E1.shed hs hn⟩
  | exit id s => subst he; exact ⟨_, hq, r'⟩
  | goto l s => subst he; exact ⟨_, hq, r'⟩
  | ret s => subst he; exact ⟨_, hq, r'⟩
end
end Go.Abs
namespace Go.Tev
open Go.Abs
inductive TV (X : Nat → Type) : Type where
  | b (v : Bool)
  | i (k : IntKind) (n : Int)
  | s (v : List UInt8)
  | t (ty : Nat) (x : X ty)
  | l (e : Nat) (xs : List (X e))
  | m (k v : Nat) (es : List (X k × X v))
  | g (cs : List (TV X))
  | e0
  | nilm
  | nilp
  | nilf
  | nili
  | fn (f : Nat) (caps : List (TV X))
  | tup (vs : List (TV X))
  | ptr (j off : Nat)
  | osl (j g e : Nat) (n : Nat)
  | mp (j : Nat)
inductive TX (X : Nat → Type) : Type where
  | a (v : TV X)
  | sp (slot off : Nat)
  | fp (cs : List (TV X))
  | ap (j g e : Nat) (i : Nat) (off : Nat)
  | own (e : Nat) (xs : List (X e))
  | al (slot : Nat) (e : Nat) (xs : List (X e))
  | un
inductive TSV (X : Nat → Type) : Type where
  | val (v : TV X)
  | own (e : Nat) (xs : List (X e))
  | box (cs : List (TV X))
inductive TObj (X : Nat → Type) : Type where
  | arr (g : Nat) (ap : Bool) (e : Nat) (xs : List (X e))
  | var (cs : List (TV X))
  | map (k v : Nat) (es : List (X k × X v))
abbrev ZbD := List (Nat × Bool)
structure TE (X : Nat → Type) where
  g : ZbD
  x : TX X
structure TSt (X : Nat → Type) where
  env : List (Nat × TSV X)
  tmp : List (Nat × TE X)
  heap : List (TObj X)
inductive PR (α : Type) : Type 1 where
  | tot (a : α)
  | part {β : Type} (p : Option β) (d : β) (f : β → α)
def PR.map {α β : Type} (h : α → β) : PR α → PR β
  | .tot a => .tot (h a)
  | .part p d f => .part p d (fun b => h (f b))
def PR.go {α R : Type} (g : Option Bool) (r : PR α) (k : α → Option R) : Option R := match r with
  | .tot a => k a
  | .part p d f => match g with
    | none => Option.bind p fun b => k (f b)
    | some c => Option.bind (cond c p (some d)) fun b => k (f b)
structure Uni where
  X : Nat → Type
  enc : (t : Nat) → X t → DV
  dflt : (t : Nat) → X t
  keq : (t : Nat) → X t → X t → Bool
  noMap : (t : Nat) → Bool
  isKey : (t : Nat) → Bool
  dok : (t : Nat) → Bool
  inj : (t : Nat) → Option (X t → TV X)
  cells : (t : Nat) → Option (X t → List (TV X))
  csz : (t : Nat) → Option Nat
  prj : (t : Nat) → TV X → Option (X t)
  pack : (t : Nat) → List (TV X) → Option (X t)
  zcells : (t : Nat) → Option (List (TV X))
  eqT : (t : Nat) → Option (X t → X t → Bool)
  bytes : (e : Nat) → Option ((List UInt8 → List (X e)) × (List (X e) → List UInt8))
def PX (X : Nat → Type) : List Nat → Type
  | [] => Unit
  | [t] => X t
  | t :: u :: r => X t × PX X (u :: r)
inductive AK where
  | ty (t : Nat)
  | fn (f : Nat)
def AK.tys : List AK → List Nat
  | [] => []
  | .ty t :: r => t :: AK.tys r
  | _ :: r => AK.tys r
structure TCall (X : Nat → Type) where
  dir : Bool
  ak : List AK
  rts : List Nat
  fn : PX X (AK.tys ak) → Option (PX X rts)
inductive RK where
  | map (k v : Nat)
  | var (ts : List Nat)
def RK.T (X : Nat → Type) : RK → Type
  | .map k v => List (X k × X v)
  | .var ts => PX X ts
def PR' (X : Nat → Type) : List RK → Type
  | [] => Unit
  | r :: l => r.T X × PR' X l
inductive AR where
  | ty (t : Nat)
  | fn (f : Nat)
  | ref (r : RK)
def AR.tys : List AR → List Nat
  | [] => []
  | .ty t :: r => t :: AR.tys r
  | _ :: r => AR.tys r
def AR.refs : List AR → List RK
  | [] => []
  | .ref k :: r => k :: AR.refs r
  | _ :: r => AR.refs r
structure TCallR (X : Nat → Type) where
  ak : List AR
  rts : List Nat
  fn : PX X (AR.tys ak) → PR' X (AR.refs ak) → Option (PX X rts × PR' X (AR.refs ak))
structure Cx where
  C : Ctx
  U : Uni
  T : List (Nat × TCall U.X)
  TR : List (Nat × TCallR U.X) := []
  lk : Nat → List Nat
def Ctx.elemT (C : Ctx) (t : TypeId) : Option Nat := match C.P.underlying t with
  | some (.slice e) => some e
  | _ => none
def Ctx.mapT (C : Ctx) (t : TypeId) : Option (Nat × Nat) := match C.P.underlying t with
  | some (.map k v) => some (k, v)
  | _ => none
section
variable (x : Cx)
abbrev Cx.X := x.U.X
def Zfv {X : Nat → Type} (t' t : Nat) (y : X t') : Option (X t) := if h : t' = t then some (h ▸ y) else none
def ZiQ {X : Nat → Type} (t' t : Nat) (y : List (X t')) : Option (List (X t)) := if h : t' = t then some (h ▸ y) else none
def TX.flat {X : Nat → Type} : TX X → TX X
  | .own e xs => .a (.l e xs)
  | .al _ e xs => .a (.l e xs)
  | y => y
def TX.copy {X : Nat → Type} : TX X → TX X
  | .own e xs => .a (.l e xs)
  | y => y
def ZzT {X : Nat → Type} : DV → Option (TV X)
  | .bool b => some (.b b)
  | .int k n => some (.i k n)
  | .str s => some (.s s)
  | .nilp => some .nilp
  | .nilm => some .nilm
  | .nilf => some .nilf
  | .nili => some .nili
  | .slc [] => some .e0
  | _ => none
def tdv {X : Nat → Type} : DV → Option (TV X)
  | .agg cs => (mapO ZzT cs).map .g
  | v => ZzT v
def Zxa {X : Nat → Type} : TV X → Bool
  | .b _ => true
  | .i _ _ => true
  | .s _ => true
  | .e0 => true
  | .nilm => true
  | .nilp => true
  | .nilf => true
  | .nili => true
  | _ => false
def isD {X : Nat → Type} : TV X → Bool
  | .ptr _ _ => false
  | .osl _ _ _ _ => false
  | .mp _ => false
  | .fn _ [] => true
  | .fn _ _ => false
  | .tup _ => false
  | .g cs => cs.all Zxa
  | _ => true
def Yc8 (p : Nat × Bool) : ZbD → Bool
  | [] => false
  | q :: r => bif Nat.beq p.1 q.1 && (p.2 == q.2) then true else Yc8 p r
def YcF : ZbD → ZbD → Bool
  | [], _ => true
  | p :: r, ch => Yc8 p ch && YcF r ch
def Zyt {X : Nat → Type} (s : TSt X) (ch : ZbD) : Operand → Option (TX X)
  | .tmp t => match Zad s.tmp t with
    | some e => bif YcF e.g ch then some e.x.copy else none
    | none => match Zad s.env t with
      | some (.val v) => some (.a v)
      | some (.own e xs) => some (.al t e xs)
      | some (.box _) => some (.sp t 0)
      | none => none
  | .const v => match Zob v with
    | some d => match tdv d with
      | some y => some (.a y)
      | none => none
    | none => none
  | .func f => some (.a (.fn f []))
  | .global _ => none
def Zv3 {X : Nat → Type} (s : TSt X) (ch : ZbD) (o : Operand) : Option (TX X) := match Zyt s ch o with
  | some y => some y.flat
  | none => none
def Zfq {X : Nat → Type} (s : TSt X) (ch : ZbD) (o : Operand) : Option (TV X) := match Zv3 s ch o with
  | some (.a v) => some v
  | _ => none
def Cx.coerce (t : Nat) : TV x.X → Option (TV x.X)
  | .e0 => match Ctx.elemT x.C t with
    | some e => some (.l e [])
    | none => some .e0
  | .g cs => match x.U.pack t cs with
    | some y => some (.t t y)
    | none => none
  | v => some v
def Cx.coerceX (t : Nat) : TX x.X → Option (TX x.X)
  | .a v => match x.coerce t v with
    | some w => some (.a w)
    | none => none
  | y => some y
def Cx.vcells : TV x.X → Option (List (TV x.X))
  | .t ty y => match x.U.cells ty with
    | some f => some (f y)
    | none => none
  | .g cs => some cs
  | .tup _ => none
  | v => some [v]
def Cx.ld (t : Nat) (cs : List (TV x.X)) : Option (TV x.X) := match x.C.isAgg t with
  | some true => match x.C.size t with
    | some n => bif Nat.ble n cs.length then (match x.U.pack t (cs.take n) with
      | some y => some (.t t y)
      | none => none) else none
    | none => none
  | some false => match cs with
    | v :: _ => x.coerce t v
    | [] => none
  | none => none
def YdF {X : Nat → Type} (k : IntKind) (p : Option Int) : PR (TV X) := .part p 0 (.i k)
def YbK {X : Nat → Type} (op : BinOp) (k : IntKind) (a b : Int) : Option (PR (TV X)) := match op with
  | .add => some (.tot (.i k (k.wrap (a + b))))
  | .sub => some (.tot (.i k (k.wrap (a - b))))
  | .mul => some (.tot (.i k (k.wrap (a * b))))
  | .and => some (.tot (.i k (k.wrap (BitVec.ofInt k.bits a &&& BitVec.ofInt k.bits b).toNat)))
  | .or => some (.tot (.i k (k.wrap (BitVec.ofInt k.bits a ||| BitVec.ofInt k.bits b).toNat)))
  | .xor => some (.tot (.i k (k.wrap (BitVec.ofInt k.bits a ^^^ BitVec.ofInt k.bits b).toNat)))
  | .eql => some (.tot (.b (a == b)))
  | .neq => some (.tot (.b (a != b)))
  | .lss => some (.tot (.b (decide (a < b))))
  | .leq => some (.tot (.b (decide (a ≤ b))))
  | .gtr => some (.tot (.b (decide (a > b))))
  | .geq => some (.tot (.b (decide (a ≥ b))))
  | .quo => some (YdF k (if b = 0 then none else some (k.wrap (a.tdiv b))))
  | .rem => some (YdF k (if b = 0 then none else some (a.tmod b)))
  | _ => none
def Yd9 (op : BinOp) (t : Nat) : TV x.X → TV x.X → Option (PR (TV x.X))
  | .i k a, .i k' b => match op with
    | .shl => some (YdF k (if b < 0 then none else some (k.wrap (a * 2 ^ (min b.toNat k.bits)))))
    | .shr => some (YdF k (if b < 0 then none else some (a.fdiv (2 ^ (min b.toNat k.bits)))))
    | _ => bif decide (k = k') then YbK op k a b else none
  | .s a, .s b => match op with
    | .add => some (.part (if a.length + b.length ≤ 2 ^ 40 then some (a ++ b) else none) [] .s)
    | .eql => some (.tot (.b (a == b)))
    | .neq => some (.tot (.b (a != b)))
    | .lss => some (.tot (.b (Op.bytesLess a b)))
    | .leq => some (.tot (.b (Op.bytesLess a b || a == b)))
    | .gtr => some (.tot (.b (!(Op.bytesLess a b || a == b))))
    | .geq => some (.tot (.b (!Op.bytesLess a b)))
    | _ => none
  | .b a, .b b => match op, x.C.isBool t with
    | .eql, true => some (.tot (.b (a == b)))
    | .neq, true => some (.tot (.b (a != b)))
    | _, _ => none
  | .t ty a, .t ty' b => match Zfv ty' ty b, x.U.eqT ty with
    | some b', some f => bif Nat.beq ty t then (match op with
      | .eql => some (.tot (.b (f a b')))
      | .neq => some (.tot (.b (!(f a b'))))
      | _ => none) else none
    | _, _ => none
  | .m _ _ _, .nilm => match op, x.C.isMap t with
    | .eql, true => some (.tot (.b false))
    | .neq, true => some (.tot (.b true))
    | _, _ => none
  | .mp _, .nilm => match op, x.C.isMap t with
    | .eql, true => some (.tot (.b false))
    | .neq, true => some (.tot (.b true))
    | _, _ => none
  | _, _ => none
def unT {X : Nat → Type} (op : UnOp) : TV X → Option (PR (TV X))
  | .i k n => match op with
    | .neg => some (.tot (.i k (k.wrap (0 - n))))
    | _ => none
  | .b b => match op with
    | .not => some (.tot (.b (!b)))
    | _ => none
  | _ => none
def Yep (h : List (TObj x.X)) (t : Nat) : TV x.X → Option (PR (TV x.X))
  | .s s => bif x.C.isStr t then some (.tot (.i .i64 s.length)) else none
  | .l e xs => match x.C.elemSize t with
    | some _ => some (.tot (.i .i64 xs.length))
    | none => none
  | .e0 => match x.C.elemSize t with
    | some _ => some (.tot (.i .i64 0))
    | none => none
  | .osl j g e n => match x.C.elemSize t with
    | some _ => some (.tot (.i .i64 n))
    | none => none
  | .mp j => match h[j]? with
    | some (.map k v es) => bif x.C.isMap t then some (.tot (.i .i64 es.length)) else none
    | _ => none
  | _ => none
def Yb1 {X : Nat → Type} : List (TV X) → Option (PR (TV X))
  | [.i k a, .i k' b] => some (.tot (.i k (if b > a then b else a)))
  | _ => none
def Ybr {X : Nat → Type} : List (TV X) → Option (PR (TV X))
  | [.i k a, .i k' b] => some (.tot (.i k (if b < a then b else a)))
  | _ => none
def Yb9 (h : List (TObj x.X)) (s t : Nat) : TV x.X → Option (PR (TV x.X))
  | .i _ n => match x.C.P.underlying s, x.C.intKind t with
    | some _, some k => some (.tot (.i k (k.wrap n)))
    | _, _ => none
  | .s b => bif x.C.isStr s && x.C.isStr t then some (.tot (.s b)) else none
  | .osl j g e n => bif x.C.isBytes s && x.C.isStr t then match h[j]?, x.U.bytes e with
      | some (.arr g' _ e' xs), some (_, f) => match ZiQ e' e xs with
        | some ys => bif Nat.beq g g' then some (.part (if n ≤ ys.length then some (f (ys.take n)) else none) [] .s) else none
        | none => none
      | _, _ => none
    else none
  | .l e xs => bif x.C.isBytes s && x.C.isStr t then match x.U.bytes e with
      | some (_, f) => some (.tot (.s (f xs)))
      | none => none
    else none
  | _ => none
def ZdC {α : Type} (xs : List α) (i : Int) : Option α := if 0 ≤ i then xs[i.toNat]? else none
def Zsi {α : Type} (xs : List α) (lo hi : Int) : Option (List α) := if 0 ≤ lo ∧ lo ≤ hi ∧ hi ≤ xs.length then some ((xs.take hi.toNat).drop lo.toNat) else none
def YcA {X : Nat → Type} (d : Int) : Option (TV X) → Option Int
  | none => some d
  | some (.i _ n) => some n
  | some _ => none
def ZtB (t : Nat) (lo hi : Option (TV x.X)) : TV x.X → Option (PR (TV x.X))
  | .s s => bif x.C.isStr t then match YcA 0 lo, YcA s.length hi with
      | some a, some b => some (.part (Zsi s a b) [] .s)
      | _, _ => none
    else none
  | .l e xs => match Ctx.elemT x.C t, YcA 0 lo, YcA xs.length hi with
    | some e', some a, some b => bif Nat.beq e e' then (match (match x.C.elemSize t with
        | some sz => (match x.U.csz e with
          | some sz' => bif Nat.beq sz' sz then some () else none
          | none => none)
        | none => none) with
      | some _ => some (.part (Zsi xs a b) [] (.l e))
      | none => none) else none
    | _, _, _ => none
  | _ => none
def YbF {X : Nat → Type} (s : TSt X) (ch : ZbD) : Option Operand → Option (Option (TV X))
  | none => some none
  | some o => match Zfq s ch o with
    | some v => some (some v)
    | none => none
def ZiF {X : Nat → Type} : TX X → Option (TX X)
  | .a (.ptr j off) => some (.a (.ptr j off))
  | .sp s off => some (.sp s off)
  | .ap j g e i off => some (.ap j g e i off)
  | .fp cs => some (.fp cs)
  | _ => none
def Zj9 (t : Nat) (f : Nat) (y : TX x.X) : Option (TX x.X) := match x.C.field t f with
  | none => none
  | some fd => bif x.C.hasSize fd.type then match y with
      | .sp s off => some (.sp s (off + fd.offset))
      | .fp cs => bif Nat.ble fd.offset cs.length then some (.fp (cs.drop fd.offset)) else none
      | .ap j g e i off => some (.ap j g e i (off + fd.offset))
      | .a (.ptr j off) => some (.a (.ptr j (off + fd.offset)))
      | _ => none
    else none
def ZtN (t : Nat) (f : Nat) (v : TV x.X) : Option (TV x.X) := match x.C.field t f with
  | none => none
  | some fd => match v with
    | .t ty y => match x.U.cells ty with
      | some f => (match x.C.isAgg ty with
        | some true => x.ld fd.type ((f y).drop fd.offset)
        | _ => none)
      | none => none
    | .g cs => x.ld fd.type (cs.drop fd.offset)
    | _ => none
def Zka (h : List (TObj x.X)) (t : Nat) (v : TV x.X) (i : Int) : Option (PR (Option (TX x.X))) := match Ctx.elemT x.C t, x.C.elemSize t with
  | some e', some sz => match v with
    | .l e xs => match x.U.cells e, x.U.csz e with
      | some f, some sz' => bif Nat.beq e e' && Nat.beq sz sz' then some (.part (ZdC xs i) (x.U.dflt e) (fun y => some (.fp (f y)))) else none
      | _, _ => none
    | .osl j g e n => match h[j]? with
      | some (.arr g' _ e2 xs) => (match x.U.csz e with
        | some sz' => bif Nat.beq e e' && Nat.beq e e2 && Nat.beq g g' && Nat.beq sz sz' then some (.part (if 0 ≤ i ∧ i < n ∧ i < xs.length then some i.toNat else none) 0 (fun k => some (.ap j g e k 0))) else none
        | none => none)
      | _ => none
    | _ => none
  | _, _ => none
def Zuh (t : Nat) (v : TV x.X) (i : Int) : Option (PR (TV x.X)) := match v with
  | .s s => bif x.C.isStr t then some (.part (ZdC s i) 0 (fun b => .i .u8 b.toNat)) else none
  | _ => none
def ZoL {X : Nat → Type} (v : TV X) (i : Nat) : Option (TV X) := match v with
  | .tup vs => vs[i]?
  | _ => none
def Za5 {α β : Type} (eq : α → α → Bool) (k : α) : List (α × β) → Option β
  | [] => none
  | (k', v) :: r => bif eq k k' then some v else Za5 eq k r
def ZgB {α β : Type} (eq : α → α → Bool) (k : α) (v : β) : List (α × β) → List (α × β)
  | [] => [(k, v)]
  | (k', u) :: r => bif eq k k' then (k, v) :: r else (k', u) :: ZgB eq k v r
def YdH {α β : Type} (eq : α → α → Bool) (k : α) : List (α × β) → List (α × β)
  | [] => []
  | (k', u) :: r => bif eq k k' then r else (k', u) :: YdH eq k r
def ZkQ {β : Type} (d : β) : Option β → β
  | some v => v
  | none => d
def Zz4 (t : Nat) (h : List (TObj x.X)) (v : TV x.X) (k : TV x.X) (ok : Bool) : Option (TV x.X) := match Ctx.mapT x.C t, x.C.mapZero t with
  | some (kt, vt), some _ => match x.U.prj kt k, x.U.inj vt with
    | some key, some inj => bif x.U.isKey kt && x.U.dok vt && x.C.keyOk t (x.U.enc kt key) then
        (match (match v with
          | .nilm => some none
          | .m kt' vt' es => (match Zfv (X := fun n => List (x.X n × x.X vt')) kt' kt es with
            | some es1 => (match Zfv (X := fun n => List (x.X kt × x.X n)) vt' vt es1 with
              | some es2 => some (Za5 (x.U.keq kt) key es2)
              | none => none)
            | none => none)
          | .mp j => (match h[j]? with
            | some (.map kt' vt' es) => (match Zfv (X := fun n => List (x.X n × x.X vt')) kt' kt es with
              | some es1 => (match Zfv (X := fun n => List (x.X kt × x.X n)) vt' vt es1 with
                | some es2 => some (Za5 (x.U.keq kt) key es2)
                | none => none)
              | none => none)
            | _ => none)
          | _ => none : Option (Option (x.X vt))) with
        | some r => some (bif ok then .tup [inj (ZkQ (x.U.dflt vt) r), .b r.isSome] else inj (ZkQ (x.U.dflt vt) r))
        | none => none)
      else none
    | _, _ => none
  | _, _ => none
def ZjP (U : Uni) : (ts : List Nat) → List (TV U.X) → Option (PX U.X ts)
  | [], [] => some ()
  | [t], [v] => U.prj t v
  | t :: u :: r, v :: vs => match U.prj t v with
    | some y => match ZjP U (u :: r) vs with
      | some ys => some (y, ys)
      | none => none
    | none => none
  | _, _ => none
def Zgt (U : Uni) : (ts : List Nat) → Option (PX U.X ts → List (TV U.X))
  | [] => some (fun _ => [])
  | [t] => match U.inj t with
    | some f => some (fun y => [f y])
    | none => none
  | t :: u :: r => match U.inj t, Zgt U (u :: r) with
    | some f, some g => some (fun y => f y.1 :: g y.2)
    | _, _ => none
def ZzC (U : Uni) : (ts : List Nat) → PX U.X ts
  | [] => ()
  | [t] => U.dflt t
  | t :: u :: r => (U.dflt t, ZzC U (u :: r))
def ZuO (U : Uni) : (ts : List Nat) → Option (PX U.X ts → TV U.X)
  | [t] => U.inj t
  | [] => some (fun _ => .tup [])
  | t :: u :: r => match Zgt U (t :: u :: r) with
    | some f => some (fun y => .tup (f y))
    | none => none
def ZfP {X : Nat → Type} : (ak : List AK) → List (TV X) → Option (List (TV X))
  | [], [] => some []
  | .fn f :: r, .fn f' [] :: vs => bif Nat.beq f f' then ZfP r vs else none
  | .ty t :: r, v :: vs => match ZfP r vs with
    | some ws => some (v :: ws)
    | none => none
  | _, _ => none
def ZzJ (U : Uni) (ak : List AK) (vs : List (TV U.X)) : Option (PX U.X (AK.tys ak)) := match ZfP ak vs with
  | some ws => ZjP U (AK.tys ak) ws
  | none => none
def Zu2 (f : Nat) (vs : List (TV x.X)) : List (Nat × TCall x.X) → Option (PR (TV x.X))
  | [] => none
  | (f', c) :: r => bif Nat.beq f f' then (match ZzJ x.U c.ak vs with
      | some a => (match ZuO x.U c.rts with
        | some h => some (.part (c.fn a) (ZzC x.U c.rts) h)
        | none => none)
      | none => Zu2 f vs r) else Zu2 f vs r
def Zyq {X : Nat → Type} (s : TSt X) (ch : ZbD) : List Operand → Option (List (TV X))
  | [] => some []
  | o :: r => match Zfq s ch o with
    | some v => match Zyq s ch r with
      | some vs => some (v :: vs)
      | none => none
    | none => none
def Ydt (h : List (TObj x.X)) : TV x.X → Option (TV x.X × Nat)
  | .mp j => match h[j]? with
    | some (.map k v es) => some (.m k v es, 1)
    | _ => none
  | .osl j g e n => none
  | .ptr _ _ => none
  | .fn _ _ => none
  | .tup _ => none
  | v => some (v, 0)
def Zxm (h : List (TObj x.X)) : List (TV x.X) → Option (List (TV x.X) × Nat)
  | [] => some ([], 0)
  | v :: r => match Ydt x h v with
    | some (y, k) => match Zxm h r with
      | some (ys, n) => some (y :: ys, max k n)
      | none => none
    | none => none
def ZdN {X : Nat → Type} : (ak : List AR) → List (TV X) → Option (List (TV X) × List Nat)
  | [], [] => some ([], [])
  | .fn f :: r, .fn f' [] :: vs => bif Nat.beq f f' then ZdN r vs else none
  | .ty t :: r, v :: vs => match ZdN r vs with
    | some (ws, js) => some (v :: ws, js)
    | none => none
  | .ref (.map _ _) :: r, .mp j :: vs => match ZdN r vs with
    | some (ws, js) => some (ws, j :: js)
    | none => none
  | .ref (.var _) :: r, .ptr j 0 :: vs => match ZdN r vs with
    | some (ws, js) => some (ws, j :: js)
    | none => none
  | _, _ => none
def Zua (U : Uni) : (r : RK) → TObj U.X → Option (r.T U.X)
  | .map k v, o => match o with
    | .map k' v' es => match Zfv (X := fun n => List (U.X n × U.X v')) k' k es with
      | some e1 => Zfv (X := fun n => List (U.X k × U.X n)) v' v e1
      | none => none
    | _ => none
  | .var ts, o => match o with
    | .var cs => match Zgt U ts with
      | some _ => ZjP U ts cs
      | none => none
    | _ => none
def Zt5 (U : Uni) : (r : RK) → r.T U.X → TObj U.X
  | .map k v, es => .map k v es
  | .var ts, y => match Zgt U ts with
    | some f => .var (f y)
    | none => .var []
def Zgn (U : Uni) (h : List (TObj U.X)) : (rs : List RK) → List Nat → Option (PR' U.X rs)
  | [], [] => some ()
  | r :: rs, j :: js => match h[j]? with
    | some o => match Zua U r o with
      | some y => match Zgn U h rs js with
        | some ys => some (y, ys)
        | none => none
      | none => none
    | none => none
  | _, _ => none
def Zf7 (U : Uni) (h : List (TObj U.X)) : (rs : List RK) → List Nat → PR' U.X rs → List (TObj U.X)
  | [], _, _ => h
  | r :: rs, j :: js, y => Zf7 U (h.set j (Zt5 U r y.1)) rs js y.2
  | _ :: _, [], _ => h
def Zn5 : List Nat → Bool
  | [] => true
  | j :: r => !has r j && Zn5 r
end
end Go.Tev
namespace Go.Tev
open Go.Abs
section
variable (x : Cx)
def ZqZ (t : Nat) (c : Bool) : TV x.X → TV x.X → Option (PR (TV x.X))
  | .b a, .b b => some (.part (some (cond c a b)) a .b)
  | .i k a, .i k' b => bif decide (k = k') then some (.part (some (cond c a b)) a (.i k)) else none
  | .s a, .s b => some (.part (some (cond c a b)) a .s)
  | .t ty a, .t ty' b => match Zfv ty' ty b with
    | some b' => some (.part (some (cond c a b')) a (.t ty))
    | none => none
  | .l e a, .l e' b => match ZiQ e' e b with
    | some b' => some (.part (some (cond c a b')) a (.l e))
    | none => none
  | .e0, .l e b => some (.part (some (cond c [] b)) b (.l e))
  | .l e a, .e0 => some (.part (some (cond c a [])) a (.l e))
  | .e0, .e0 => some (.tot .e0)
  | .nilm, .nilm => some (.tot .nilm)
  | .nilf, .nilf => some (.tot .nilf)
  | .ptr j o, .ptr j' o' => bif Nat.beq j j' && Nat.beq o o' then some (.tot (.ptr j o)) else none
  | .mp j, .mp j' => bif Nat.beq j j' then some (.tot (.mp j)) else none
  | .osl j g e n, .osl j' g' e' n' => bif Nat.beq j j' && Nat.beq g g' && Nat.beq e e' then some (.part (some (cond c n n')) n (.osl j g e)) else none
  | _, _ => none
def Zm7 {X : Nat → Type} (fa : FA) (ch : ZbD) (s : TSt X) (dst : Option Tmp) (y : TX X) : Option (TSt X) := match dst with
  | none => some s
  | some t => bif Nat.blt t fa.nt then bif has fa.keep t then (match ch, y.flat with
      | [], .a v => some { s with env := ZhO s.env t (.val v) }
      | _, _ => none)
    else (match Zad s.tmp t with
      | none => some { s with tmp := ins s.tmp t ⟨ch, y⟩ }
      | some _ => none) else none
def Zwf (s : TSt x.X) (ty : Nat) : Operand → Option ((e : Nat) × List (x.X e))
  | .tmp t => match Zad s.tmp t with
    | some ⟨[], .own e xs⟩ => some ⟨e, xs⟩
    | some ⟨[], .al k _ _⟩ => match Zad s.env k with
      | some (.own e xs) => some ⟨e, xs⟩
      | _ => none
    | some _ => none
    | none => match Zad s.env t with
      | some (.own e xs) => some ⟨e, xs⟩
      | _ => none
  | .const (.slice none 0 0) => match Ctx.elemT x.C ty with
    | some e => some ⟨e, []⟩
    | none => none
  | _ => none
def Zoj {X : Nat → Type} (s : TSt X) : Operand → Bool
  | .tmp t => match Zad s.tmp t with
    | some ⟨[], .a _⟩ => true
    | some _ => false
    | none => match Zad s.env t with
      | some (.val _) => true
      | _ => false
  | .const v => match v with
    | .slice none 0 0 => false
    | _ => true
  | .func _ => true
  | _ => false
def Zo2 {X : Nat → Type} (s : Nat) : List (Nat × TE X) → List (Nat × TE X)
  | [] => []
  | (t, ⟨g, .al k e xs⟩) :: r => (t, ⟨g, bif Nat.beq k s then .a (.l e xs) else .al k e xs⟩) :: Zo2 s r
  | e :: r => e :: Zo2 s r
def Zf4 {X : Nat → Type} (fa : FA) (s : TSt X) (dst : Option Tmp) (e : Nat) (xs : List (X e)) : Option (TSt X) := match dst with
  | none => none
  | some t => bif Nat.blt t fa.nt then bif has fa.keep t then some { s with env := ZhO s.env t (.own e xs), tmp := Zo2 t s.tmp }
    else (match Zad s.tmp t with
      | none => some { s with tmp := ins s.tmp t ⟨[], .own e xs⟩ }
      | some _ => none) else none
def Zfg {X : Nat → Type} (s : TSt X) (t : Nat) : TSt X := match Zad s.env t with
  | some (.own e xs) => { s with env := ZhO s.env t (.val (.l e xs)) }
  | _ => s
def ZkU {X : Nat → Type} (s : TSt X) : Operand → TSt X
  | .tmp t => match Zad s.tmp t with
    | some ⟨[], .own e xs⟩ => { s with tmp := ins s.tmp t ⟨[], .a (.l e xs)⟩ }
    | some ⟨[], .al k _ _⟩ => Zfg s k
    | some _ => s
    | none => Zfg s t
  | _ => s
def ZfM (s : TSt x.X) (ch : ZbD) : List (Nat × Operand) → Option (List (Nat × List (TV x.X)))
  | [] => some []
  | (i, o) :: r => match Zfq s ch o with
    | some v => bif isD v then match x.vcells v with
      | some cs => match ZfM s ch r with
        | some l => some ((i, cs) :: l)
        | none => none
      | none => none else none
    | none => none
def Zw8 {X : Nat → Type} (f : Nat → Option (Nat × Nat)) (cells : List (TV X)) : List (Nat × List (TV X)) → Option (List (TV X))
  | [] => some cells
  | (i, cs) :: r => match f i with
    | some (off, size) => bif Nat.beq cs.length size then match ZbQ cells off cs with
        | some c => Zw8 f c r
        | none => none
      else none
    | none => none
def Zrj (e : Nat) : Nat → List (Nat × Operand) → TSt x.X → ZbD → Option (List (x.X e))
  | _, [], _, _ => some []
  | k, (i, o) :: r, s, ch => bif Nat.beq i k then match Zfq s ch o with
      | some v => match x.U.prj e v with
        | some y => match Zrj e (k + 1) r s ch with
          | some ys => some (y :: ys)
          | none => none
        | none => none
      | none => none
    else none
def ZmY (U : Uni) (e sz : Nat) : Bool := match U.csz e with
  | some n => Nat.beq n sz
  | none => false
def Zgm (t n : Nat) (s : TSt x.X) (ch : ZbD) (ps : List (Nat × Operand)) : Option ((e : Nat) × List (x.X e)) := match Ctx.elemT x.C t, x.C.elemSize t with
  | some e, some sz => match Zrj x e 0 ps s ch with
    | some ys => bif ZmY x.U e sz && Nat.beq ys.length n && Nat.ble (n * sz) (2 ^ 24) && Nat.blt 0 (n * sz) && x.C.hasZero t then some ⟨e, ys⟩ else none
    | none => none
  | _, _ => none
def loadT (t : Nat) (s : TSt x.X) : TX x.X → Option (PR (Option (TX x.X)))
  | .sp k off => match Zad s.env k with
    | some (.box cs) => some (.tot ((x.ld t (cs.drop off)).map .a))
    | _ => none
  | .fp cs => some (.tot ((x.ld t cs).map .a))
  | .ap j g e i off => match s.heap[j]? with
    | some (.arr g' _ e' xs) => bif Nat.beq g' g then match ZiQ e' e xs, x.U.cells e with
      | some ys, some f => some (.part (ys[i]?) (x.U.dflt e) (fun y => (x.ld t ((f y).drop off)).map .a))
      | _, _ => none else none
    | _ => none
  | .a (.ptr j off) => match s.heap[j]? with
    | some (.var cs) => some (.tot ((x.ld t (cs.drop off)).map .a))
    | _ => none
  | _ => none
def prV {X : Nat → Type} : Option (PR (TV X)) → Option (PR (Option (TX X)))
  | some r => some (r.map fun v => some (.a v))
  | none => none
def prO {X : Nat → Type} : Option (TX X) → Option (PR (Option (TX X)))
  | some v => some (.tot (some v))
  | none => none
def prA {X : Nat → Type} : Option (TV X) → Option (PR (Option (TX X)))
  | some v => some (.tot (some (.a v)))
  | none => none
def Yeu (w : Bool) (c : Operand) (ch : ZbD) : ZbD := match c with
  | .tmp t => (t, w) :: ch
  | _ => ch
def Yal {X : Nat → Type} (s : TSt X) (c : Operand) : Bool := match c with
  | .tmp t => (Zad s.tmp t).isSome
  | _ => true
def Ybd {X : Nat → Type} : TV X → Option (Nat × List (TV X))
  | .fn f caps => some (f, caps)
  | _ => none
def ZtV (s : TSt x.X) (ch : ZbD) (b : Builtin) (args : List Operand) (types : List Nat) : Option (PR (TV x.X)) := match b with
  | .len => (match args, types with
    | [o], [t] => (match Zfq s ch o with
      | some v => Yep x s.heap t v
      | none => none)
    | _, _ => none)
  | .max => (match Zyq s ch args with
    | some vs => Yb1 vs
    | none => none)
  | .min => (match Zyq s ch args with
    | some vs => Ybr vs
    | none => none)
  | _ => none
def Zxw (x : Cx) (k : Nat) (rts : List Nat) : Bool := match k with
  | 0 => true
  | 1 => rts.all x.U.noMap
  | _ => false
def Zhg (f k : Nat) (vs : List (TV x.X)) : List (Nat × TCall x.X) → Option (PR (TV x.X))
  | [] => none
  | (f', c) :: r => bif Nat.beq f f' then (match ZzJ x.U c.ak vs with
      | some a => (match ZuO x.U c.rts with
        | some h => bif c.dir && Zxw x k c.rts then some (.part (c.fn a) (ZzC x.U c.rts) h) else none
        | none => none)
      | none => Zhg f k vs r) else Zhg f k vs r
def ZkN (fa : FA) (s : TSt x.X) (ch : ZbD) (o : Oper) : Option (PR (Option (TX x.X))) := match o.op with
  | .move v => bif Zcl fa o.dst then none else match Zyt s ch v with
    | some y => prO (x.coerceX o.type y)
    | none => none
  | .assign v => bif Zcl fa o.dst then none else match Zyt s ch v with
    | some y => prO (x.coerceX o.type y)
    | none => none
  | .pick c a b => bif Yal s c then match Zfq s ch c, Zfq s (Yeu true c ch) a, Zfq s (Yeu false c ch) b with
    | some (.b cb), some va, some vb => prV (ZqZ x o.type cb va vb)
    | _, _, _ => none else none
  | .build t ps => match x.U.zcells t, x.C.places t, x.C.isAgg t with
    | some z, some f, some true => match ZfM x s ch ps.toList with
      | some l => match Zw8 f z l with
        | some cs => match x.U.pack t cs with
          | some y => some (.tot (some (.a (.t t y))))
          | none => none
        | none => none
      | none => none
    | _, _, _ => none
  | .buildSlice t n ps => bif Zcl fa o.dst then none else match Zgm x t n s ch ps.toList with
    | some ⟨e, ys⟩ => some (.tot (some (.a (.l e ys))))
    | none => none
  | .load t a => match Zv3 s ch a with
    | some p => loadT x t s p
    | none => none
  | .nilCheck v => match Zv3 s ch v with
    | some y => prO (ZiF y)
    | none => none
  | .binOp op t a b _ => match Zfq s ch a, Zfq s ch b with
    | some u, some v => prV (Yd9 x op t u v)
    | _, _ => none
  | .unOp op _ a => match Zfq s ch a with
    | some u => prV (unT op u)
    | none => none
  | .convert s' t a => match Zfq s ch a with
    | some u => prV (Yb9 x s.heap s' t u)
    | none => none
  | .makeFunc (.func f) first captured => match first.toList, Zyq s ch captured.toList with
    | [], some vs => some (.tot (some (.a (.fn f vs))))
    | _, _ => none
  | .slice t a lo hi none => match Zfq s ch a, YbF s ch lo, YbF s ch hi with
    | some v, some l, some h => prV (ZtB x t l h v)
    | _, _, _ => none
  | .fieldAddr t a f => match Zv3 s ch a with
    | some p => prO (Zj9 x t f p)
    | none => none
  | .field t a f => match Zfq s ch a with
    | some v => prA (ZtN x t f v)
    | none => none
  | .indexAddr t a i => match Zfq s ch a, Zfq s ch i with
    | some v, some (.i _ n) => Zka x s.heap t v n
    | _, _ => none
  | .index t a i => match Zfq s ch a, Zfq s ch i with
    | some v, some (.i _ n) => prV (Zuh x t v n)
    | _, _ => none
  | .lookup t a k ok => match Zfq s ch a, Zfq s ch k with
    | some m, some k => prA (Zz4 x t s.heap m k ok)
    | _, _ => none
  | .extract a i => match Zfq s ch a with
    | some v => prA (ZoL v i)
    | none => none
  | .call c => match c.callee with
    | .builtin b => prV (ZtV x s ch b c.args.toList c.argTypes.toList)
    | .value g => match Zfq s ch g, Zyq s ch c.args.toList with
      | some fv, some vs => match Ybd fv with
        | some (f, caps) => bif Za0 fa.lend o.dst then (match Zxm x s.heap (vs ++ caps) with
            | some (ws, k) => prV (Zhg x f k ws x.T)
            | none => none)
          else bif Za0 fa.frz o.dst then prV (Zu2 x f (vs ++ caps) x.T) else none
        | none => none
      | _, _ => none
    | .invoke _ _ => none
  | _ => none
def Zi6 {X : Nat → Type} (s : Nat) : List (Nat × TE X) → Bool
  | [] => true
  | (_, ⟨_, .sp k _⟩) :: r => bif Nat.beq k s then false else Zi6 s r
  | _ :: r => Zi6 s r
def Zn6 (fa : FA) (s : TSt x.X) (dst : Option Tmp) (cs : List (TV x.X)) : Option (TSt x.X) :=
  bif ZbN fa dst then Zm7 fa [] { s with heap := s.heap ++ [.var cs] } dst (.a (.ptr s.heap.length 0))
  else match dst with
    | some t => bif has fa.keep t && Zi6 t s.tmp && Nat.blt t fa.nt && cs.all isD then some { s with env := ZhO s.env t (.box cs) } else none
    | none => none
def ZvF (fa : FA) (s : TSt x.X) (dst : Option Tmp) (ty : Nat) (o : Operand) : Option (TSt x.X) := match Zwf x s ty o with
  | some ⟨e, xs⟩ => Zf4 fa (ZkU s o) dst e xs
  | none => bif Zoj s o then match Zv3 s [] o with
    | some y => match x.coerceX ty y with
      | some z => Zm7 fa [] s dst z
      | none => none
    | none => none else none
def one {α : Type} : Option α → Option (PR (Option α))
  | some a => some (.tot (some a))
  | none => none
def storeT (t : Nat) (s : TSt x.X) (p : TX x.X) (v : TV x.X) : Option (PR (Option (TSt x.X))) := match x.C.size t, x.vcells v with
  | some n, some vs => bif Nat.beq n vs.length then match p with
    | .sp k off => match Zad s.env k with
      | some (.box cs) => bif vs.all isD then match ZbQ cs off vs with
        | some cs' => some (.tot (some { s with env := ZhO s.env k (.box cs') }))
        | none => none else none
      | _ => none
    | .ap j g e i off => match s.heap[j]? with
      | some (.arr g' ap e' xs) => bif Nat.beq g' g then match ZiQ e' e xs with
        | some ys => match x.C.isAgg e with
          | some false => bif Nat.beq off 0 && ZmY x.U e 1 then match x.U.prj e v with
            | some y => some (.part (if i < ys.length then some (ys.set i y) else none) ys (fun zs => some { s with heap := s.heap.set j (.arr g ap e zs) }))
            | none => none else none
          | some true => match x.U.cells e with
            | some f => some (.part (ys[i]?) (x.U.dflt e) (fun y => match ZbQ (f y) off vs with
              | some cs' => match x.U.pack e cs' with
                | some y' => some { s with heap := s.heap.set j (.arr g ap e (ys.set i y')) }
                | none => none
              | none => none))
            | none => none
          | none => none
        | none => none else none
      | _ => none
    | .a (.ptr j off) => match s.heap[j]? with
      | some (.var cs) => match ZbQ cs off vs with
        | some cs' => some (.tot (some { s with heap := s.heap.set j (.var cs') }))
        | none => none
      | _ => none
    | _ => none else none
  | _, _ => none
def room (b n : Nat) : Option Unit := if n * b ≤ 2 ^ 47 ∧ n ≤ 2 ^ 47 then some () else none
def Zl1 (fa : FA) (s : TSt x.X) (dst : Option Tmp) (t : Nat) (so xo : Operand) : Option (PR (Option (TSt x.X))) := match Ctx.elemT x.C t, x.C.elemSize t, x.C.elemBytes t with
  | some e, some sz, some b => bif x.C.elemOk t sz && ZmY x.U e sz then match Zfq s [] xo with
    | some nv => match (match nv with
        | .l e' ys => ZiQ e' e ys
        | .e0 => some []
        | _ => none) with
      | some new => match Zv3 s [] so with
        | some (.a (.osl j g eo n)) => match s.heap[j]? with
          | some (.arr g' true e' xs) => bif Nat.beq g g' && Nat.beq eo e then match ZiQ e' e xs with
            | some ys => some (.part (if n = ys.length then Option.bind (room b (ys.length + new.length)) (fun _ => some (ys ++ new)) else none) ys
                (fun zs => Zm7 fa [] { s with heap := s.heap.set j (.arr (g + 1) true e zs) } dst (.a (.osl j (g + 1) e zs.length))))
            | none => none else none
          | _ => none
        | _ => match Zwf x s t so with
          | some ⟨e', xs⟩ => match ZiQ e' e xs with
            | some ys => bif ZbN fa dst then (match ys, new with
                | [], y :: ys' => some (.part (room b (new.length)) () (fun _ => Zm7 fa [] { (ZkU s so) with heap := s.heap ++ [.arr 0 true e new] } dst (.a (.osl s.heap.length 0 e new.length))))
                | _, _ => none)
              else some (.part (Option.bind (room b (ys.length + new.length)) (fun _ => some (ys ++ new))) ys (fun zs => Zf4 fa (ZkU s so) dst e zs))
            | none => none
          | none => none
      | none => none
    | none => none else none
  | _, _, _ => none
def Zpf (fa : FA) (s : TSt x.X) (dst : Option Tmp) (t : Nat) (m k : Operand) : Option (TSt x.X) := match Ctx.mapT x.C t, x.C.mapZero t, Zfq s [] m, Zfq s [] k with
  | some (kt, vt), some _, some (.mp j), some k => match x.U.prj kt k, s.heap[j]? with
    | some key, some (.map kt' vt' es) => match Zfv (X := fun n => List (x.X n × x.X vt')) kt' kt es with
      | some es1 => bif x.U.isKey kt && x.C.keyOk t (x.U.enc kt key) then Zm7 fa [] { s with heap := s.heap.set j (.map kt vt' (YdH (x.U.keq kt) key es1)) } dst (.a (.tup [])) else none
      | none => none
    | _, _ => none
  | _, _, _, _ => none
def Zpo (fa : FA) (s : TSt x.X) (dst : Option Tmp) (t : Nat) (m k v : Operand) : Option (TSt x.X) := match Ctx.mapT x.C t, x.C.mapZero t, Zfq s [] m, Zfq s [] k, Zfq s [] v with
  | some (kt, vt), some _, some (.mp j), some k, some v => match x.U.prj kt k, x.U.prj vt v, s.heap[j]? with
    | some key, some y, some (.map kt' vt' es) => match Zfv (X := fun n => List (x.X n × x.X vt')) kt' kt es with
      | some es1 => match Zfv (X := fun n => List (x.X kt × x.X n)) vt' vt es1 with
        | some es2 => bif x.U.isKey kt && x.C.keyOk t (x.U.enc kt key) then Zm7 fa [] { s with heap := s.heap.set j (.map kt vt (ZgB (x.U.keq kt) key y es2)) } dst .un else none
        | none => none
      | none => none
    | _, _, _ => none
  | _, _, _, _, _ => none
def Zlf (fa : FA) (s : TSt x.X) (dst : Option Tmp) (t : Nat) (l c : Operand) : Option (PR (Option (TSt x.X))) := match Ctx.elemT x.C t, x.C.elemZero t, x.C.elemSize t, x.C.elemBytes t, Zfq s [] l, Zfq s [] c with
  | some e, some _, some sz, some b, some (.i _ n), some (.i _ m) => bif x.C.elemOk t sz && x.U.dok e then
      some (.part (if 0 ≤ n ∧ n = m then Option.bind (room b n.toNat) (fun _ => some (List.replicate n.toNat (x.U.dflt e))) else none) []
        (fun zs => Zm7 fa [] { s with heap := s.heap ++ [.arr 0 true e zs] } dst (.a (.osl s.heap.length 0 e zs.length)))) else none
  | _, _, _, _, _, _ => none
def YaC (fa : FA) (s : TSt x.X) (dst : Option Tmp) (c : TCallR x.X) (vs : List (TV x.X)) : Option (PR (Option (TSt x.X))) := match ZdN c.ak vs with
  | some (ws, js) => bif Zn5 js && !js.isEmpty then (match ZjP x.U (AR.tys c.ak) ws, Zgn x.U s.heap (AR.refs c.ak) js, ZuO x.U c.rts with
    | some a, some cs, some g => some (.part (c.fn a cs) (ZzC x.U c.rts, cs) (fun r => Zm7 fa [] { s with heap := Zf7 x.U s.heap (AR.refs c.ak) js r.2 } dst (.a (g r.1))))
    | _, _, _ => none) else none
  | none => none
def ZgS (fa : FA) (s : TSt x.X) (o : Oper) : Option (PR (Option (TSt x.X))) := match o.op with
  | .move v => bif Zcl fa o.dst then one (ZvF x fa s o.dst o.type v) else none
  | .assign v => bif Zcl fa o.dst then one (ZvF x fa s o.dst o.type v) else none
  | .alloc t => match x.U.zcells t with
    | some z => one (Zn6 x fa s o.dst z)
    | none => none
  | .box _ v => match Zfq s [] v with
    | some u => match x.vcells u with
      | some cs => one (Zn6 x fa s o.dst cs)
      | none => none
    | none => none
  | .buildSlice t n ps => bif Zcl fa o.dst then match Zgm x t n s [] ps.toList with
    | some ⟨e, ys⟩ => one (Zf4 fa s o.dst e ys)
    | none => none else none
  | .store t a v => match Zv3 s [] a, Zfq s [] v with
    | some p, some u => match storeT x t s p u with
      | some r => some (r.map fun s' => match s' with
        | some s'' => Zm7 fa [] s'' o.dst .un
        | none => none)
      | none => none
    | _, _ => none
  | .convert s' t a => match Zfq s [] a with
    | some (.s b) => bif x.C.isStr s' && x.C.isBytes t && x.C.elemOne t then match Ctx.elemT x.C t with
      | some e => match x.U.bytes e with
        | some (f, _) => one (Zm7 fa [] { s with heap := s.heap ++ [.arr 0 false e (f b)] } o.dst (.a (.osl s.heap.length 0 e b.length)))
        | none => none
      | none => none else none
    | _ => none
  | .makeMap t none => bif x.C.isMap t then match Ctx.mapT x.C t with
    | some (k, v) => one (Zm7 fa [] { s with heap := s.heap ++ [.map k v []] } o.dst (.a (.mp s.heap.length)))
    | none => none else none
  | .makeSlice t l c => Zlf x fa s o.dst t l c
  | .mapUpdate t m k v => one (Zpo x fa s o.dst t m k v)
  | .call c => match c.callee with
    | .builtin b => (match b with
      | .append => (match c.args.toList, c.argTypes.toList with
        | [so, xo], [t, t'] => bif Nat.beq t t' then Zl1 x fa s o.dst t so xo else none
        | _, _ => none)
      | .delete => (match c.args.toList, c.argTypes.toList with
        | [m, k], t :: _ => one (Zpf x fa s o.dst t m k)
        | _, _ => none)
      | _ => none)
    | .value g => (match g with
      | .func f => (match Zad x.TR f, Zyq s [] c.args.toList with
        | some cr, some vs => bif Za0 fa.lend o.dst then none else YaC x fa s o.dst cr vs
        | _, _ => none)
      | _ => none)
    | _ => none
  | _ => none
def ZsA {X : Nat → Type} (all : List Oper) (o : Oper) (s : TSt X) : Option (ZbD × Option Bool) := match o.guard with
  | none => some ([], none)
  | some (j, want) => match (all[j]?).bind (·.dst) with
    | some t => match Zad s.tmp t with
      | some ⟨g, .a (.b b)⟩ => some ((t, want) :: g, some (bif want then b else !b))
      | _ => none
    | none => none
def Zyv : Option Bool → Option Bool → Option Bool
  | none, c => c
  | some g, none => some g
  | some g, some c => some (g && c)
def gof {X : Nat → Type} (s : TSt X) : ZbD → Option Bool
  | [] => none
  | (t, w) :: r => match Zad s.tmp t with
    | some ⟨_, .a (.b b)⟩ => Zyv (gof s r) (some (bif w then b else !b))
    | _ => some false
def Zwe (fa : FA) (o : Oper) : Bool := match o.op with
  | .move _ => Zcl fa o.dst
  | .assign _ => Zcl fa o.dst
  | .buildSlice _ _ _ => Zcl fa o.dst
  | .alloc _ => true
  | .box _ _ => true
  | .store _ _ _ => true
  | .makeMap _ _ => true
  | .makeSlice _ _ _ => true
  | .mapUpdate _ _ _ _ => true
  | .convert _ t _ => false
  | .call { callee := .builtin .append, .. } => true
  | .call { callee := .builtin .delete, .. } => true
  | _ => false
def YaO (x : Cx) (o : Oper) : Bool := match o.op with
  | .convert _ t _ => x.C.isBytes t
  | .call { callee := .value (.func f), .. } => (Zad x.TR f).isSome
  | _ => false
def evR {R : Type} (fa : FA) (g : Option Bool) (draw : Bool) (all : List Oper) : List Oper → TSt x.X → (TSt x.X → Option R) → Option R
  | [], s, k => k s
  | o :: r, s, k => match ZsA all o s with
    | none => none
    | some (ch, _) => bif Zwe fa o || (YaO x o && !draw) then (match ch, ZgS x fa s o with
        | [], some pr => pr.go g fun so => match so with
          | some s' => evR fa g draw all r s' k
          | none => none
        | _, _ => none)
      else match ZkN x fa s ch o with
        | some pr => pr.go (Zyv g (gof s ch)) fun yo => match yo with
          | some y => match Zm7 fa ch s o.dst y with
            | some s' => evR fa g draw all r s' k
            | none => none
          | none => none
        | none => none
def Zof : Code → Nat → Bool
  | .region _ ops _, t => ops.toList.any fun o => match o.dst with
    | some d => Nat.beq d t
    | none => false
  | .seq a b, t => Zof a t || Zof b t
  | .cond _ a b, t => Zof a t || Zof b t
  | .block _ c, t => Zof c t
  | .loop c, t => Zof c t
  | _, _ => false
def ZdV {R : Type} (c : Bool) : List (TV x.X) → List (TV x.X) → (List (TV x.X) → Option R) → Option R
  | [], [], k => k []
  | a :: r, b :: q, k => match ZqZ x 0 c a b with
    | some pr => pr.go none fun v => ZdV c r q fun l => k (v :: l)
    | none => none
  | _, _, _ => none
def Zcr {R : Type} (c : Bool) (asg : Nat → Bool) (e0 eA eB : List (Nat × TSV x.X)) : List Nat → (List (Nat × TSV x.X) → Option R) → Option R
  | [], k => k []
  | t :: r, k => match Zad e0 t with
    | some (.val v) => bif asg t then (match Zad eA t, Zad eB t with
        | some (.val a), some (.val b) => (match ZqZ x 0 c a b with
          | some pr => pr.go none fun v => Zcr c asg e0 eA eB r fun l => k ((t, .val v) :: l)
          | none => Zcr c asg e0 eA eB r k)
        | _, _ => Zcr c asg e0 eA eB r k)
      else Zcr c asg e0 eA eB r fun l => k ((t, .val v) :: l)
    | _ => match Zad eA t, Zad eB t with
      | some (.own e xs), some (.own e' ys) => (match ZiQ e' e ys with
        | some ys' => Option.bind (some (cond c xs ys')) fun zs => Zcr c asg e0 eA eB r fun l => k ((t, .own e zs) :: l)
        | none => Zcr c asg e0 eA eB r k)
      | some (.box cs), some (.box ds) => ZdV x c cs ds fun es => Zcr c asg e0 eA eB r fun l => k ((t, .box es) :: l)
      | _, _ => Zcr c asg e0 eA eB r k
def Zb9 {R : Type} (c : Bool) : List (TObj x.X) → List (TObj x.X) → (List (TObj x.X) → Option R) → Option R
  | [], [], k => k []
  | .arr g ap e xs :: r, .arr g' ap' e' ys :: q, k => bif Nat.beq g g' && (ap == ap') then (match ZiQ e' e ys with
      | some ys' => Option.bind (some (cond c xs ys')) fun zs => Zb9 c r q fun l => k (.arr g ap e zs :: l)
      | none => none) else none
  | .var cs :: r, .var ds :: q, k => ZdV x c cs ds fun es => Zb9 c r q fun l => k (.var es :: l)
  | .map kt vt es :: r, .map kt' vt' fs :: q, k => (match Zfv (X := fun n => List (x.X n × x.X vt')) kt' kt fs with
      | some f1 => (match Zfv (X := fun n => List (x.X kt × x.X n)) vt' vt f1 with
        | some f2 => Option.bind (some (cond c es f2)) fun zs => Zb9 c r q fun l => k (.map kt vt zs :: l)
        | none => none)
      | none => none)
  | _, _, _ => none
def Zgz (x : Cx) : Code → Bool
  | .region _ ops _ => ops.toList.any fun o => match o.op with
    | .store _ _ _ => true
    | .mapUpdate _ _ _ _ => true
    | .alloc _ => true
    | .box _ _ => true
    | .makeMap _ _ => true
    | .makeSlice _ _ _ => true
    | .convert _ _ _ => true
    | .call { callee := .builtin .append, .. } => true
    | .call { callee := .builtin .delete, .. } => true
    | .call { callee := .value (.func f), .. } => (Zad x.TR f).isSome
    | _ => false
  | .seq a b => Zgz x a || Zgz x b
  | .cond _ a b => Zgz x a || Zgz x b
  | .block _ c => Zgz x c
  | .loop c => Zgz x c
  | _ => false
def merge {R : Type} (c : Bool) (a b : Code) (s sA sB : TSt x.X) (k : TSt x.X → Option R) : Option R :=
  Zcr x c (fun t => Zof a t || Zof b t) s.env sA.env sB.env (s.env.map Prod.fst) fun env =>
    bif Zgz x a || Zgz x b then Zb9 x c sA.heap sB.heap fun h => k ⟨env, [], h⟩ else k ⟨env, [], s.heap⟩
def Zjo : Code → Bool
  | .skip => true
  | .label _ => true
  | .region _ _ _ => true
  | .seq a b => Zjo a && Zjo b
  | .cond _ a b => Zjo a && Zjo b
  | .block _ c => Zjo c
  | _ => false
def Zk7 {X : Nat → Type} : List (Nat × TSV X) → List (Nat × TSV X) → List (Nat × TSV X)
  | _, [] => []
  | e0, (k, v) :: r => match Zad e0 k with
    | some _ => (k, v) :: Zk7 e0 r
    | none => Zk7 e0 r
def evS {R : Type} (fa : FA) (g : Option Bool) : Code → TSt x.X → (TSt x.X → Option R) → Option R
  | .skip, s, k => k s
  | .label _, s, k => k s
  | .region _ ops d, s, k => evR x fa g d ops.toList ops.toList s fun s' => k { s' with tmp := [] }
  | .seq a b, s, k => evS fa g a s fun s' => evS fa g b s' k
  | .cond c a b, s, k => match Zfq s [] c with
    | some (.b cb) => evS fa (Zyv g (some cb)) a s fun sA => evS fa (Zyv g (some (!cb))) b s fun sB => merge x cb a b s sA sB k
    | _ => none
  | .block _ c, s, k => evS fa g c s fun s' => k { s' with env := Zk7 s.env s'.env }
  | _, _, _ => none
inductive TOut (X : Nat → Type) where
  | norm (s : TSt X)
  | exit (id : Nat) (s : TSt X)
  | ret (s : TSt X)
def Yeo {R : Type} (dir : Bool) (h : List (TObj x.X)) : TV x.X → (TV x.X → Option R) → Option R
  | .osl j g e n, k => bif dir then none else match h[j]? with
    | some (.arr g' _ e' xs) => bif Nat.beq g g' && Nat.beq e e' then Option.bind (if n ≤ xs.length then some (xs.take n) else none) fun ys => k (.l e' ys) else none
    | _ => none
  | .mp j, k => bif dir then none else match h[j]? with
    | some (.map kt vt es) => k (.m kt vt es)
    | _ => none
  | .ptr _ _, _ => none
  | .fn _ _, _ => none
  | .tup _, _ => none
  | v, k => k v
def ZxX {R : Type} (dir : Bool) (s : TSt x.X) : List ResultVar → (List (TV x.X) → Option R) → Option R
  | [], k => k []
  | .tmp t :: r, k => match Zfq s [] (.tmp t) with
    | some v => Yeo x dir s.heap v fun w => ZxX dir s r fun l => k (w :: l)
    | none => none
  | .cell t ty :: r, k => match Zv3 s [] (.tmp t) with
    | some (.sp sl off) => match Zad s.env sl with
      | some (.box cs) => match x.ld ty (cs.drop off) with
        | some v => ZxX dir s r fun l => k (v :: l)
        | none => none
      | _ => none
    | _ => none
def endK (dir : Bool) (fn : Func) (rts : List Nat) : TOut x.X → Option (PX x.X rts)
  | .norm s => ZxX x dir s fn.results.toList (fun l => ZjP x.U rts l)
  | .ret s => ZxX x dir s fn.results.toList (fun l => ZjP x.U rts l)
  | .exit _ _ => none
def ZxU {X : Nat → Type} : Nat → List (TV X) → List (Nat × TSV X)
  | _, [] => []
  | k, v :: r => (k, .val v) :: ZxU (k + 1) r
def ZuR {X : Nat → Type} : List AK → List (TV X) → List (TV X)
  | [], _ => []
  | .fn f :: r, vs => .fn f [] :: ZuR r vs
  | .ty _ :: r, v :: vs => v :: ZuR r vs
  | .ty _ :: _, [] => []
def Ydn (U : Uni) (ak : List AK) (y : PX U.X (AK.tys ak)) : Option (List (TV U.X)) := match Zgt U (AK.tys ak) with
  | some f => some (ZuR ak (f y))
  | none => none
end
end Go.Tev
namespace Go.Tev
open Go.Abs
structure Tok where
  k : Int
  t : List UInt8
  n : Int
  u : List UInt8
  f : Bool
inductive Val where
  | mk (tok : Tok) (l : List Val)
def Val.tok : Val → Tok | .mk t _ => t
def Val.l : Val → List Val | .mk _ l => l
structure Cus where
  name : List UInt8
  val : List Val
structure Fnd where
  d : Int
  t : Int
  b : Bool
def zTok : Tok := Tok.mk ((0 : Int)) ([]) ((0 : Int)) ([]) (false)
def Zv5 : Val := Val.mk zTok ([])
def Ydb : Cus := Cus.mk [] []
def Tok.eqb (a b : Tok) : Bool := a.k == b.k && a.t == b.t && a.n == b.n && a.u == b.u && a.f == b.f
def Fnd.eqb (a b : Fnd) : Bool := a.d == b.d && a.t == b.t && a.b == b.b
def Tok.enc (v : Tok) : DV := .agg [.int .u8 v.k, .str v.t, .int .i64 v.n, .str v.u, .bool v.f]
mutual
def Val.enc : Val → DV
  | .mk v l => .agg [.int .u8 v.k, .str v.t, .int .i64 v.n, .str v.u, .bool v.f, .slc (YcX l)]
def YcX : List Val → List DV
  | [] => []
  | v :: r => v.enc :: YcX r
end
theorem Zt9 (l : List Val) : YcX l = l.map Val.enc := by
  induction l with
  | nil => rfl
  | cons v l ih => simp [YcX, ih]
def Cus.enc (v : Cus) : DV := .agg [.str v.name, .slc (v.val.map Val.enc)]
def Fnd.enc (v : Fnd) : DV := .agg [.int .i64 v.d, .int .i64 v.t, .bool v.b]
theorem Zb5 {α : Type} (f : α → DV) (l : List α) (h : ∀ y ∈ l, (f y).noMap = true) : DV.noMapL (l.map f) = true := by
  induction l with
  | nil => rfl
  | cons y l ih => simp only [List.map_cons, DV.noMapL, Bool.and_eq_true]; exact ⟨h y (List.mem_cons_self), ih fun z hz => h z (List.mem_cons_of_mem _ hz)⟩
mutual
theorem Zuv : ∀ v : Val, v.enc.noMap = true
  | .mk t l => by simp only [Val.enc, DV.noMap, DV.noMapL, Zux l, Bool.and_self]
theorem Zux : ∀ l : List Val, DV.noMapL (YcX l) = true
  | [] => rfl
  | v :: r => by simp only [YcX, DV.noMapL, Zuv v, Zux r, Bool.and_self]
end
theorem Ybf (l : List Val) : (DV.slc (l.map Val.enc)).noMap = true := Zb5 _ _ fun y _ => Zuv y
theorem YaZ (c : Cus) : c.enc.noMap = true := by simp only [Cus.enc, DV.noMap, DV.noMapL, Bool.true_and, Bool.and_true]; exact Zb5 _ _ fun y _ => Zuv y
theorem Zxi (l : List Cus) : (DV.slc (l.map Cus.enc)).noMap = true := Zb5 _ _ fun y _ => YaZ y
theorem Ybn (l : List Tok) : (DV.slc (l.map Tok.enc)).noMap = true := Zb5 _ _ fun y _ => rfl
theorem YbO (l : List (List UInt8)) : (DV.slc (l.map fun w => .str w)).noMap = true := Zb5 _ _ fun y _ => rfl
theorem ZtO (l : List Bool) : (DV.slc (l.map fun w => .bool w)).noMap = true := Zb5 _ _ fun y _ => rfl
theorem Zwm (l : List (List Bool)) : (DV.slc (l.map fun w => .slc (w.map fun w => .bool w))).noMap = true := Zb5 _ _ fun y _ => ZtO y
theorem Yc5 (l : List Int) : (DV.slc (l.map fun w => .int .u8 w)).noMap = true := Zb5 _ _ fun y _ => rfl
theorem ZfZ (v : Val) : v.enc = .agg [.int .u8 v.tok.k, .str v.tok.t, .int .i64 v.tok.n, .str v.tok.u, .bool v.tok.f, .slc (v.l.map Val.enc)] := by
  cases v; simp only [Val.enc, Zt9]; rfl
section
variable {X : Nat → Type}
def asI (k : IntKind) : TV X → Option Int
  | .i k' n => bif decide (k' = k) then some n else none
  | _ => none
def asB : TV X → Option Bool
  | .b v => some v
  | _ => none
def asS : TV X → Option (List UInt8)
  | .s v => some v
  | _ => none
def asL (e : Nat) : TV X → Option (List (X e))
  | .l e' xs => ZiQ e' e xs
  | .e0 => some []
  | _ => none
def asT (t : Nat) (pk : List (TV X) → Option (X t)) : TV X → Option (X t)
  | .t t' y => Zfv t' t y
  | .g cs => pk cs
  | _ => none
def asM (k v : Nat) : TV X → Option (List (X k × X v))
  | .m k' v' es => match Zfv (X := fun n => List (X n × X v')) k' k es with
    | some e1 => Zfv (X := fun n => List (X k × X n)) v' v e1
    | none => none
  | _ => none
end
end Go.Tev
namespace Go.Tev
open Go.Abs
mutual
def TV.dv (U : Uni) : TV U.X → Option DV
  | .b v => some (.bool v)
  | .i k n => some (.int k n)
  | .s v => some (.str v)
  | .t ty y => some (U.enc ty y)
  | .l e xs => some (.slc (xs.map (U.enc e)))
  | .m k v es => some (.fmap (es.map fun p => (U.enc k p.1, U.enc v p.2)))
  | .g cs => (dvL U cs).map .agg
  | .e0 => some (.slc [])
  | .nilm => some .nilm
  | .nilp => some .nilp
  | .nilf => some .nilf
  | .nili => some .nili
  | .fn f caps => (dvL U caps).map (.fn f)
  | .tup vs => (dvL U vs).map .tup
  | .ptr _ _ => none
  | .osl _ _ _ _ => none
  | .mp _ => none
def dvL (U : Uni) : List (TV U.X) → Option (List DV)
  | [] => some []
  | v :: r => match v.dv U with
    | some d => match dvL U r with
      | some ds => some (d :: ds)
      | none => none
    | none => none
end
structure Uni.Ok (C : Ctx) (U : Uni) : Prop where
  inj : ∀ t f y, U.inj t = some f → (f y).dv U = some (U.enc t y)
  prj : ∀ t v y, U.prj t v = some y → v.dv U = some (U.enc t y)
  pack : ∀ t cs y, U.pack t cs = some y → ∃ ds, dvL U cs = some ds ∧ U.enc t y = .agg ds
  cells : ∀ t f y, U.cells t = some f → dvL U (f y) = some (U.enc t y).cells
  csz : ∀ t n y, U.csz t = some n → (U.enc t y).cells.length = n
  ok : ∀ t y, (U.enc t y).cellOk = true
  noagg : ∀ t n y, C.isAgg t = some false → U.csz t = some n → ∀ cs, U.enc t y ≠ .agg cs
  agg : ∀ t f y, C.isAgg t = some true → U.cells t = some f → U.enc t y = .agg (U.enc t y).cells
  zcells : ∀ t cs, U.zcells t = some cs → ∃ z, C.zero t = some z ∧ dvL U cs = some z.cells ∧ z.cellOk = true ∧ (C.isAgg t = some true → z = .agg z.cells)
  dok : ∀ t, U.dok t = true → C.zero t = some (U.enc t (U.dflt t))
  keq : ∀ t a b, U.isKey t = true → ZdQ (U.enc t a) (U.enc t b) = some (U.keq t a b)
  noMap : ∀ t y, U.noMap t = true → (U.enc t y).noMap = true
  eqT : ∀ t f, U.eqT t = some f → C.P.eqGuardType C.P.depth t = false ∧ ∀ a b, U.enc t a = .agg (U.enc t a).cells ∧ Zm1 C 100 t (U.enc t a) (U.enc t b) = some (f a b)
  bytes : ∀ e f g, U.bytes e = some (f, g) → (∀ b, (f b).map (U.enc e) = b.map fun c => .int .u8 c.toNat) ∧ ∀ xs, Zel (xs.map (U.enc e)) = some (g xs)
section
variable {U : Uni}
structure Rf where
  id : Nat
  off : Nat
inductive VRel (U : Uni) (ρ : List Rf) : TV U.X → AV → Prop where
  | d (v d) (h : v.dv U = some d) : VRel U ρ v (.d d)
  | ptr (j : Nat) (i : Rf) (off : Nat) (h : ρ[j]? = some i) : VRel U ρ (.ptr j off) (.ptr i.id off)
  | osl (j : Nat) (i : Rf) (g e n : Nat) (h : ρ[j]? = some i) : VRel U ρ (.osl j g e n) (.osl i.id (g + i.off) n)
  | mp (j : Nat) (i : Rf) (h : ρ[j]? = some i) : VRel U ρ (.mp j) (.mp i.id)
  | fn (f : Nat) (caps : List (TV U.X)) (as : List AV) (hl : caps.length = as.length) (h : ∀ (k : Nat) v a, caps[k]? = some v → as[k]? = some a → VRel U ρ v a) : VRel U ρ (.fn f caps) (ZvL f as)
  | tup (vs : List (TV U.X)) (as : List AV) (hl : vs.length = as.length) (h : ∀ (k : Nat) v a, vs[k]? = some v → as[k]? = some a → VRel U ρ v a) : VRel U ρ (.tup vs) (ZdM as)
def VRels (U : Uni) (ρ : List Rf) (vs : List (TV U.X)) (as : List AV) : Prop := vs.length = as.length ∧ ∀ (k : Nat) v a, vs[k]? = some v → as[k]? = some a → VRel U ρ v a
inductive XRel (U : Uni) (ρ : List Rf) : TX U.X → XV → Prop where
  | a (v w) (h : VRel U ρ v w) : XRel U ρ (.a v) (.a w)
  | sp (k off : Nat) : XRel U ρ (.sp k off) (.sp k off)
  | fp (cs ds) (h : dvL U cs = some ds) : XRel U ρ (.fp cs) (.fp ds)
  | ap (j : Nat) (i : Rf) (g e n off : Nat) (h : ρ[j]? = some i) : XRel U ρ (.ap j g e n off) (.ap i.id (g + i.off) n off)
  | own (e : Nat) (xs : List (U.X e)) : XRel U ρ (.own e xs) (.own (xs.map (U.enc e)))
  | al (k e : Nat) (xs : List (U.X e)) : XRel U ρ (.al k e xs) (.al k (xs.map (U.enc e)))
  | un : XRel U ρ .un .un
inductive SRel (U : Uni) (ρ : List Rf) : TSV U.X → SV → Prop where
  | val (v w) (h : VRel U ρ v w) : SRel U ρ (.val v) (.val w)
  | own (e : Nat) (xs : List (U.X e)) : SRel U ρ (.own e xs) (.own (xs.map (U.enc e)))
  | box (cs ds) (h : dvL U cs = some ds) : SRel U ρ (.box cs) (.box ds)
inductive ORel (U : Uni) (ρ : List Rf) : Nat → TObj U.X → AObj → Prop where
  | arr (d g : Nat) (ap : Bool) (e : Nat) (xs : List (U.X e)) : ORel U ρ d (.arr g ap e xs) (.arr (g + d) ap (xs.map fun y => .d (U.enc e y)))
  | var (d : Nat) (cs as) (h : VRels U ρ cs as) : ORel U ρ d (.var cs) (.var as)
  | map (d k v : Nat) (es : List (U.X k × U.X v)) : ORel U ρ d (.map k v es) (.map (es.map fun p => (U.enc k p.1, .d (U.enc v p.2))))
structure Base where
  h : List AObj
  ids : List Nat
abbrev Base.nr (b : Base) : Nat := b.ids.length
structure HR (U : Uni) (ρ : List Rf) (h0 : Base) (H : List (TObj U.X)) (h : List AObj) : Prop where
  len : ρ.length = H.length
  nd : (ρ.map Rf.id).Nodup
  obj : ∀ (j : Nat) o, H[j]? = some o → ∃ i ao, ρ[j]? = some i ∧ h[i.id]? = some ao ∧ ORel U ρ i.off o ao
  frame : ∀ (i : Nat), i < h0.h.length → i ∉ ρ.map Rf.id → h[i]? = h0.h[i]?
  grow : h0.h.length ≤ h.length
  fresh : ∀ (j : Nat) (i : Rf), h0.nr ≤ j → ρ[j]? = some i → h0.h.length ≤ i.id
  pre : h0.ids <+: ρ.map Rf.id
def ER (U : Uni) (ρ : List Rf) (e : List (Nat × TSV U.X)) (a : List (Nat × SV)) : Prop := ∀ t v, Zad e t = some v → ∃ w, Zad a t = some w ∧ SRel U ρ v w
def holds {X : Nat → Type} (s : TSt X) (g : ZbD) : Prop := ∀ p ∈ g, ∃ c, Zad s.tmp p.1 = some ⟨c, .a (.b p.2)⟩
structure TR (U : Uni) (ρ : List Rf) (s : TSt U.X) (tmp : List (Nat × XV)) : Prop where
  no : ∀ t, Zad s.tmp t = none → Zad tmp t = none
  yes : ∀ t e, Zad s.tmp t = some e → ∃ y, Zad tmp t = some y ∧ (holds s e.g → XRel U ρ e.x y) ∧ (¬ holds s e.g → y = .un)
  wf : ∀ t e, Zad s.tmp t = some e → ∀ p ∈ e.g, (Zad s.tmp p.1).isSome = true
  nosp : ∀ k, Zi6 k s.tmp = true → Zju k tmp = true
structure Rel (U : Uni) (ρ : List Rf) (h0 : Base) (s : TSt U.X) (a : St) : Prop where
  env : ER U ρ s.env a.env
  tmp : TR U ρ s a.tmp
  heap : HR U ρ h0 s.heap a.heap
theorem VRel.mono {ρ σ : List Rf} (hs : ρ <+: σ) {v : TV U.X} {a : AV} (h : VRel U ρ v a) : VRel U σ v a := by
  have hp : ∀ {j : Nat} {i : Rf}, ρ[j]? = some i → σ[j]? = some i := fun {j i} h => by
    obtain ⟨r, rfl⟩ := hs
    rw [List.getElem?_append_left (List.getElem?_eq_some_iff.1 h).1, h]
  induction h with
  | d v d h => exact .d v d h
  | ptr j i off h => exact .ptr j i off (hp h)
  | osl j i g e n h => exact .osl j i g e n (hp h)
  | mp j i h => exact .mp j i (hp h)
  | fn f caps as hl h ih => exact .fn f caps as hl ih
  | tup vs as hl h ih => exact .tup vs as hl ih
theorem XRel.mono {ρ σ : List Rf} (hs : ρ <+: σ) {v : TX U.X} {a : XV} (h : XRel U ρ v a) : XRel U σ v a := by
  have hp : ∀ {j : Nat} {i : Rf}, ρ[j]? = some i → σ[j]? = some i := fun {j i} h => by
    obtain ⟨r, rfl⟩ := hs
    rw [List.getElem?_append_left (List.getElem?_eq_some_iff.1 h).1, h]
  cases h with
  | a v w h => exact .a v w (h.mono hs)
  | sp => exact .sp _ _
  | fp cs ds h => exact .fp cs ds h
  | ap j i g e n off h => exact .ap j i g e n off (hp h)
  | own => exact .own _ _
  | al => exact .al _ _ _
  | un => exact .un
theorem SRel.mono {ρ σ : List Rf} (hs : ρ <+: σ) {v : TSV U.X} {a : SV} (h : SRel U ρ v a) : SRel U σ v a := by
  cases h with
  | val v w h => exact .val v w (h.mono hs)
  | own => exact .own _ _
  | box cs ds h => exact .box cs ds h
theorem ORel.mono {ρ σ : List Rf} (hs : ρ <+: σ) {d : Nat} {v : TObj U.X} {a : AObj} (h : ORel U ρ d v a) : ORel U σ d v a := by
  cases h with
  | arr => exact .arr _ _ _ _ _
  | var cs as h => exact .var d cs as ⟨h.1, fun k v a h1 h2 => (h.2 k v a h1 h2).mono hs⟩
  | map => exact .map _ _ _ _
theorem ER.mono {ρ σ : List Rf} (hs : ρ <+: σ) {e : List (Nat × TSV U.X)} {a : List (Nat × SV)} (h : ER U ρ e a) : ER U σ e a := fun t v hv => by
  obtain ⟨w, h1, h2⟩ := h t v hv
  exact ⟨w, h1, h2.mono hs⟩
theorem TR.mono {ρ σ : List Rf} (hs : ρ <+: σ) {s : TSt U.X} {a : List (Nat × XV)} (h : TR U ρ s a) : TR U σ s a := ⟨h.no, fun t e he => by
  obtain ⟨y, h1, h2, h3⟩ := h.yes t e he
  exact ⟨y, h1, fun hh => (h2 hh).mono hs, h3⟩, h.wf, h.nosp⟩
theorem Zcv {v : TV U.X} {r : List (TV U.X)} {ds : List DV} (h : dvL U (v :: r) = some ds) : ∃ d ds', v.dv U = some d ∧ dvL U r = some ds' ∧ ds = d :: ds' := by
  simp only [dvL] at h
  cases h1 : v.dv U with
  | none => rw [h1] at h; cases h
  | some d =>
    rw [h1] at h
    cases h2 : dvL U r with
    | none => rw [h2] at h; cases h
    | some ds' =>
      rw [h2] at h
      simp only [Option.some.injEq] at h
      exact ⟨d, ds', rfl, rfl, h.symm⟩
theorem Zbv {v : TV U.X} {r : List (TV U.X)} {d : DV} {ds : List DV} (h1 : v.dv U = some d) (h2 : dvL U r = some ds) : dvL U (v :: r) = some (d :: ds) := by
  simp only [dvL, h1, h2]
theorem Zg1 {ds : List DV} (h : dvL U [] = some ds) : ds = [] := by
  simp only [dvL, Option.some.injEq] at h; exact h.symm
theorem ZbC {vs : List (TV U.X)} : ∀ {ds : List DV}, dvL U vs = some ds → vs.length = ds.length := by
  induction vs with
  | nil => intro ds h; rw [Zg1 h]; rfl
  | cons v vs ih =>
    intro ds h
    obtain ⟨d, ds', _, h2, rfl⟩ := Zcv h
    simp [ih h2]
theorem ZjB {vs : List (TV U.X)} : ∀ {ds : List DV}, dvL U vs = some ds → ∀ (k : Nat) v, vs[k]? = some v → ∃ d, ds[k]? = some d ∧ v.dv U = some d := by
  induction vs with
  | nil => intro ds h k v hv; simp at hv
  | cons w vs ih =>
    intro ds h k v hv
    obtain ⟨d, ds', h1, h2, rfl⟩ := Zcv h
    cases k with
    | zero =>
      simp only [List.getElem?_cons_zero, Option.some.injEq] at hv
      subst hv
      exact ⟨d, rfl, h1⟩
    | succ k => simpa using ih h2 k v (by simpa using hv)
theorem ZnO {a b : List (TV U.X)} {x y : List DV} (h1 : dvL U a = some x) (h2 : dvL U b = some y) : dvL U (a ++ b) = some (x ++ y) := by
  induction a generalizing x with
  | nil => rw [Zg1 h1]; exact h2
  | cons v a ih =>
    obtain ⟨d, ds', h3, h4, rfl⟩ := Zcv h1
    exact Zbv h3 (ih h4)
theorem Zui {a : List (TV U.X)} {x : List DV} (h : dvL U a = some x) (n : Nat) : dvL U (a.take n) = some (x.take n) := by
  induction a generalizing x n with
  | nil => rw [Zg1 h]; simp [dvL]
  | cons v a ih =>
    obtain ⟨d, ds', h3, h4, rfl⟩ := Zcv h
    cases n with
    | zero => simp [dvL]
    | succ n => exact Zbv h3 (ih h4 n)
theorem Zhq {a : List (TV U.X)} {x : List DV} (h : dvL U a = some x) (n : Nat) : dvL U (a.drop n) = some (x.drop n) := by
  induction a generalizing x n with
  | nil => rw [Zg1 h]; simp [dvL]
  | cons v a ih =>
    obtain ⟨d, ds', h3, h4, rfl⟩ := Zcv h
    cases n with
    | zero => exact Zbv h3 h4
    | succ n => exact ih h4 n
theorem Zod {cs vs cs' : List (TV U.X)} {off : Nat} {ds ws : List DV} (h1 : dvL U cs = some ds) (h2 : dvL U vs = some ws) (h : ZbQ cs off vs = some cs') :
    ∃ ds', ZbQ ds off ws = some ds' ∧ dvL U cs' = some ds' := by
  unfold ZbQ at h ⊢
  rw [ZbC h1, ZbC h2] at h
  cases hb : Nat.ble (off + ws.length) ds.length with
  | false => rw [hb] at h; cases h
  | true =>
    rw [hb] at h
    simp only [cond_true, Option.some.injEq] at h
    subst h
    exact ⟨_, rfl, ZnO (ZnO (Zui h1 off) h2) (Zhq h1 _)⟩
theorem VRels.of_dvL {ρ : List Rf} {vs : List (TV U.X)} {ds : List DV} (h : dvL U vs = some ds) : VRels U ρ vs (ds.map .d) := by
  refine ⟨by simp [ZbC h], fun k v a hv ha => ?_⟩
  obtain ⟨d, h1, h2⟩ := ZjB h k v hv
  rw [List.getElem?_map, h1] at ha
  simp only [Option.map_some, Option.some.injEq] at ha
  subst ha
  exact .d v d h2
theorem VRel.isD {ρ : List Rf} {v : TV U.X} {a : AV} {d : DV} (h : VRel U ρ v a) (hd : v.dv U = some d) : a = .d d := by
  induction h generalizing d with
  | d v d' h => rw [h] at hd; cases hd; rfl
  | ptr => simp [TV.dv] at hd
  | osl => simp [TV.dv] at hd
  | mp => simp [TV.dv] at hd
  | fn f caps as hl h ih =>
    simp only [TV.dv, Option.map_eq_some_iff] at hd
    obtain ⟨ds, h1, rfl⟩ := hd
    have : as = ds.map .d := by
      apply List.ext_getElem?
      intro k
      rcases Nat.lt_or_ge k caps.length with hk | hk
      · obtain ⟨d, h2, h3⟩ := ZjB h1 k _ (List.getElem?_eq_getElem hk)
        have hk' : k < as.length := by omega
        have := ih k _ _ (List.getElem?_eq_getElem hk) (List.getElem?_eq_getElem hk') h3
        rw [List.getElem?_eq_getElem hk', this, List.getElem?_map, h2]; rfl
      · have := ZbC h1
        rw [List.getElem?_eq_none (by omega), List.getElem?_eq_none (by simp; omega)]
    subst this
    unfold ZvL
    have : ZeI (ds.map .d) = some ds := by
      clear h1 hl h ih
      unfold ZeI
      induction ds with
      | nil => rfl
      | cons d ds ih => simp only [List.map_cons, mapO, AV.toD, ih]
    rw [this]
  | tup vs as hl h ih =>
    simp only [TV.dv, Option.map_eq_some_iff] at hd
    obtain ⟨ds, h1, rfl⟩ := hd
    have : as = ds.map .d := by
      apply List.ext_getElem?
      intro k
      rcases Nat.lt_or_ge k vs.length with hk | hk
      · obtain ⟨d, h2, h3⟩ := ZjB h1 k _ (List.getElem?_eq_getElem hk)
        have hk' : k < as.length := by omega
        have := ih k _ _ (List.getElem?_eq_getElem hk) (List.getElem?_eq_getElem hk') h3
        rw [List.getElem?_eq_getElem hk', this, List.getElem?_map, h2]; rfl
      · have := ZbC h1
        rw [List.getElem?_eq_none (by omega), List.getElem?_eq_none (by simp; omega)]
    subst this
    unfold ZdM
    have : ZeI (ds.map .d) = some ds := by
      clear h1 hl h ih
      unfold ZeI
      induction ds with
      | nil => rfl
      | cons d ds ih => simp only [List.map_cons, mapO, AV.toD, ih]
    rw [this]
theorem Zhf (ds : List DV) : ZeI (ds.map .d) = some ds := by
  unfold ZeI
  induction ds with
  | nil => rfl
  | cons d ds ih => simp only [List.map_cons, mapO, AV.toD, ih]
theorem HR.lt {ρ : List Rf} {h0 : Base} {H : List (TObj U.X)} {h : List AObj} (r : HR U ρ h0 H h) {i : Nat} (hi : i ∈ ρ.map Rf.id) : i < h.length := by
  obtain ⟨f, hf, rfl⟩ := List.mem_map.1 hi
  obtain ⟨j, hj, rfl⟩ := List.mem_iff_getElem.1 hf
  have hj' : j < H.length := by rw [← r.len]; exact hj
  obtain ⟨i, ao, h1, h2, _⟩ := r.obj j _ (List.getElem?_eq_getElem hj')
  rw [List.getElem?_eq_getElem hj] at h1
  cases h1
  exact (List.getElem?_eq_some_iff.1 h2).1
theorem HR.inj {ρ : List Rf} {h0 : Base} {H : List (TObj U.X)} {h : List AObj} (r : HR U ρ h0 H h) {j j' : Nat} {i i' : Rf} (h1 : ρ[j]? = some i) (h2 : ρ[j']? = some i') (h : i.id = i'.id) : j = j' := by
  obtain ⟨a1, a2⟩ := List.getElem?_eq_some_iff.1 h1
  obtain ⟨b1, b2⟩ := List.getElem?_eq_some_iff.1 h2
  refine (List.getElem_inj r.nd (i := j) (j := j') (h₀ := by simpa using a1) (h₁ := by simpa using b1)).1 ?_
  simp only [List.getElem_map, a2, b2, h]
theorem Zt0 {ρ : List Rf} {j : Nat} {i : Rf} (h : ρ[j]? = some i) : i.id ∈ ρ.map Rf.id := List.mem_map_of_mem (List.mem_of_getElem? h)
theorem HR.set {ρ : List Rf} {h0 : Base} {H : List (TObj U.X)} {h : List AObj} (r : HR U ρ h0 H h) {j : Nat} {i : Rf} {o : TObj U.X} {ao : AObj} (hj : ρ[j]? = some i) (ho : ORel U ρ i.off o ao) :
    HR U ρ h0 (H.set j o) (h.set i.id ao) := by
  have hi : i.id < h.length := r.lt (Zt0 hj)
  have hjl : j < ρ.length := (List.getElem?_eq_some_iff.1 hj).1
  refine ⟨by simp [r.len], r.nd, fun j' o' hj' => ?_, fun i' hi' hm => ?_, by simpa using r.grow, r.fresh, r.pre⟩
  · rw [List.getElem?_set] at hj'
    split at hj'
    · rename_i he
      subst he
      split at hj'
      · simp only [Option.some.injEq] at hj'
        subst hj'
        exact ⟨i, ao, hj, by rw [List.getElem?_set_self hi], ho⟩
      · cases hj'
    · rename_i hne
      obtain ⟨i', ao', h1, h2, h3⟩ := r.obj j' o' hj'
      refine ⟨i', ao', h1, ?_, h3⟩
      have : i.id ≠ i'.id := fun he => hne (r.inj hj h1 he)
      rw [List.getElem?_set_ne this, h2]
  · have : i.id ≠ i' := fun he => hm (he ▸ Zt0 hj)
    rw [List.getElem?_set_ne this]
    exact r.frame i' hi' hm
theorem HR.push {ρ : List Rf} {h0 : Base} {H : List (TObj U.X)} {h : List AObj} (r : HR U ρ h0 H h) {o : TObj U.X} {ao : AObj} (ho : ORel U (ρ ++ [Rf.mk h.length 0]) 0 o ao) :
    HR U (ρ ++ [Rf.mk h.length 0]) h0 (H ++ [o]) (h ++ [ao]) := by
  refine ⟨by simp [r.len], ?_, fun j o' hj => ?_, fun i hi hm => ?_, by simp; have := r.grow; omega, fun j i hj hi => ?_, r.pre.trans (by rw [List.map_append]; exact List.prefix_append _ _)⟩
  · rw [List.map_append, List.nodup_append]
    refine ⟨r.nd, by simp, fun a ha b hb => ?_⟩
    simp only [List.map_cons, List.map_nil, List.mem_singleton] at hb
    subst hb
    exact Nat.ne_of_lt (r.lt ha)
  · rcases Nat.lt_or_ge j H.length with hlt | hge
    · rw [List.getElem?_append_left hlt] at hj
      obtain ⟨i, ao', h1, h2, h3⟩ := r.obj j o' hj
      refine ⟨i, ao', ?_, ?_, h3.mono (List.prefix_append _ _)⟩
      · rw [List.getElem?_append_left (by rw [r.len]; exact hlt), h1]
      · rw [List.getElem?_append_left (List.getElem?_eq_some_iff.1 h2).1, h2]
    · rw [List.getElem?_append_right hge] at hj
      have hj0 : j - H.length = 0 := by
        have := (List.getElem?_eq_some_iff.1 hj).1
        simp at this; omega
      rw [hj0] at hj
      simp only [List.getElem?_cons_zero, Option.some.injEq] at hj
      subst hj
      have hjl : j = H.length := by omega
      subst hjl
      refine ⟨⟨h.length, 0⟩, ao, ?_, by rw [List.getElem?_append_right (Nat.le_refl _)]; simp, ho⟩
      rw [List.getElem?_append_right (by rw [r.len]; exact Nat.le_refl _), r.len]; simp
  · have hi' : i < h.length := Nat.lt_of_lt_of_le hi r.grow
    rw [List.getElem?_append_left hi']
    exact r.frame i hi fun hh => hm (by rw [List.map_append]; exact List.mem_append_left _ hh)
  · rcases Nat.lt_or_ge j ρ.length with hlt | hge
    · rw [List.getElem?_append_left hlt] at hi
      exact r.fresh j i hj hi
    · rw [List.getElem?_append_right hge] at hi
      have := (List.getElem?_eq_some_iff.1 hi).2
      simp only [List.getElem_singleton] at this
      rw [← this]
      exact r.grow
end
end Go.Tev
namespace Go.Tev
open Go.Abs
section
variable {U : Uni}
theorem memB_iff {p : Nat × Bool} {ch : ZbD} : Yc8 p ch = true ↔ p ∈ ch := by
  induction ch with
  | nil => simp [Yc8]
  | cons q r ih =>
    simp only [Yc8]
    cases h : (Nat.beq p.1 q.1 && (p.2 == q.2)) with
    | true =>
      simp only [Bool.and_eq_true, beq_iff_eq, Nat.beq_eq] at h
      simp only [cond_true, true_iff]
      rw [show p = q from Prod.ext h.1 h.2]
      exact List.mem_cons_self
    | false =>
      simp only [cond_false, ih, List.mem_cons]
      constructor
      · exact .inr
      · rintro (rfl | h')
        · simp at h
        · exact h'
theorem Zzh {g ch : ZbD} (h : YcF g ch = true) : ∀ p ∈ g, p ∈ ch := by
  induction g with
  | nil => intro p hp; simp at hp
  | cons q r ih =>
    simp only [YcF, Bool.and_eq_true] at h
    intro p hp
    rcases List.mem_cons.1 hp with rfl | hp
    · exact memB_iff.1 h.1
    · exact ih h.2 p hp
theorem Zwv {X : Nat → Type} {s : TSt X} {g ch : ZbD} (h : YcF g ch = true) (hh : holds s ch) : holds s g := fun p hp => hh p (Zzh h p hp)
theorem XRel.flat {ρ : List Rf} {x : TX U.X} {y : XV} (h : XRel U ρ x y) : XRel U ρ x.flat y.flat := by
  cases h with
  | a v w h => exact .a v w h
  | sp => exact .sp _ _
  | fp cs ds h => exact .fp cs ds h
  | ap j i g e n off h => exact .ap j i g e n off h
  | own e xs => exact .a _ _ (.d _ _ rfl)
  | al k e xs => exact .a _ _ (.d _ _ rfl)
  | un => exact .un
theorem XRel.copy {ρ : List Rf} {x : TX U.X} {y : XV} (h : XRel U ρ x y) : XRel U ρ x.copy y.copy := by
  cases h with
  | a v w h => exact .a v w h
  | sp => exact .sp _ _
  | fp cs ds h => exact .fp cs ds h
  | ap j i g e n off h => exact .ap j i g e n off h
  | own e xs => exact .a _ _ (.d _ _ rfl)
  | al k e xs => exact .al _ _ _
  | un => exact .un
theorem XRel.isA {ρ : List Rf} {v : TV U.X} {y : XV} (h : XRel U ρ (.a v) y) : ∃ w, y = .a w ∧ VRel U ρ v w := by
  cases h with
  | a v w h => exact ⟨w, rfl, h⟩
theorem Zyk {d : DV} {v : TV U.X} (h : ZzT d = some v) : v.dv U = some d := by
  cases d <;> simp only [ZzT, Option.some.injEq] at h <;> (try (cases h; done)) <;> (try (subst h; rfl))
  rename_i es
  cases es with
  | nil => simp only [ZzT, Option.some.injEq] at h; subst h; rfl
  | cons => simp [ZzT] at h
theorem ZtQ : ∀ {ds : List DV} {vs : List (TV U.X)}, mapO ZzT ds = some vs → dvL U vs = some ds
  | [], vs, h => by simp only [mapO, Option.some.injEq] at h; subst h; rfl
  | d :: ds, vs, h => by
    simp only [mapO] at h
    cases h1 : (ZzT d : Option (TV U.X)) with
    | none => rw [h1] at h; cases h
    | some v =>
      rw [h1] at h
      cases h2 : (mapO ZzT ds : Option (List (TV U.X))) with
      | none => rw [h2] at h; cases h
      | some ws =>
        rw [h2] at h
        simp only [Option.some.injEq] at h
        subst h
        exact Zbv (Zyk h1) (ZtQ h2)
theorem Ydv {d : DV} {v : TV U.X} (h : tdv d = some v) : v.dv U = some d := by
  cases d with
  | agg cs =>
    simp only [tdv, Option.map_eq_some_iff] at h
    obtain ⟨vs, h1, rfl⟩ := h
    simp only [TV.dv, ZtQ h1, Option.map_some]
  | _ => exact Zyk h
variable {ρ : List Rf} {h0 : Base} {s : TSt U.X} {a : St}
theorem Zts (r : Rel U ρ h0 s a) {ch : ZbD} (hh : holds s ch) {o : Operand} {y : TX U.X} (h : Zyt s ch o = some y) : ∃ z, opx a o = some z ∧ XRel U ρ y z := by
  cases o with
  | tmp t =>
    simp only [Zyt] at h
    cases ht : Zad s.tmp t with
    | some e =>
      rw [ht] at h
      simp only at h
      cases hs : YcF e.g ch with
      | false => rw [hs] at h; cases h
      | true =>
        rw [hs] at h
        simp only [cond_true, Option.some.injEq] at h
        subst h
        obtain ⟨z, h1, h2, _⟩ := r.tmp.yes t e ht
        exact ⟨z.copy, by simp only [opx, h1], (h2 (Zwv hs hh)).copy⟩
    | none =>
      rw [ht] at h
      have hn := r.tmp.no t ht
      cases he : Zad s.env t with
      | none => rw [he] at h; cases h
      | some v =>
        rw [he] at h
        obtain ⟨w, h1, h2⟩ := r.env t v he
        cases h2 with
        | val v w h2 =>
          simp only [Option.some.injEq] at h
          subst h
          exact ⟨.a w, by simp only [opx, hn, h1], .a _ _ h2⟩
        | own e xs =>
          simp only [Option.some.injEq] at h
          subst h
          exact ⟨_, by simp only [opx, hn, h1], .al _ _ _⟩
        | box cs ds h2 =>
          simp only [Option.some.injEq] at h
          subst h
          exact ⟨_, by simp only [opx, hn, h1], .sp _ _⟩
  | const v =>
    simp only [Zyt] at h
    cases hc : Zob v with
    | none => rw [hc] at h; cases h
    | some d =>
      rw [hc] at h
      simp only at h
      cases hd : (tdv d : Option (TV U.X)) with
      | none => rw [hd] at h; cases h
      | some w =>
        rw [hd] at h
        simp only [Option.some.injEq] at h
        subst h
        exact ⟨_, by simp only [opx, hc], .a _ _ (.d _ _ (Ydv hd))⟩
  | func f =>
    simp only [Zyt, Option.some.injEq] at h
    subst h
    exact ⟨_, rfl, .a _ _ (.d _ _ rfl)⟩
  | global g => simp [Zyt] at h
theorem ZgN (r : Rel U ρ h0 s a) {ch : ZbD} (hh : holds s ch) {o : Operand} {y : TX U.X} (h : Zv3 s ch o = some y) : ∃ z, opd a o = some z ∧ XRel U ρ y z := by
  unfold Zv3 at h
  cases h1 : Zyt s ch o with
  | none => rw [h1] at h; cases h
  | some x =>
    rw [h1] at h
    simp only [Option.some.injEq] at h
    subst h
    obtain ⟨z, h2, h3⟩ := Zts r hh h1
    exact ⟨z.flat, by simp only [opd, h2], h3.flat⟩
theorem ZbW (r : Rel U ρ h0 s a) {ch : ZbD} (hh : holds s ch) {o : Operand} {v : TV U.X} (h : Zfq s ch o = some v) : ∃ w, opA a o = some w ∧ VRel U ρ v w := by
  unfold Zfq at h
  cases h1 : Zv3 s ch o with
  | none => rw [h1] at h; cases h
  | some x =>
    rw [h1] at h
    cases x <;> simp only at h <;> (try (cases h; done))
    simp only [Option.some.injEq] at h
    subst h
    obtain ⟨z, h2, h3⟩ := ZgN r hh h1
    obtain ⟨w, rfl, h4⟩ := h3.isA
    exact ⟨w, by simp only [opA, h2], h4⟩
theorem ZbT (r : Rel U ρ h0 s a) {ch : ZbD} (hh : holds s ch) {o : Operand} {v : TV U.X} {d : DV} (h : Zfq s ch o = some v) (hd : v.dv U = some d) : opA a o = some (.d d) ∧ opD a o = some d ∧ opd a o = some (.a (.d d)) := by
  obtain ⟨w, h1, h2⟩ := ZbW r hh h
  have := h2.isD hd
  subst this
  have h3 : opd a o = some (.a (.d d)) := by
    unfold opA at h1
    split at h1
    · rename_i v' h4
      simp only [Option.some.injEq] at h1
      rw [h4, h1]
    · cases h1
  exact ⟨h1, by simp only [opD, h3], h3⟩
theorem ZjF (r : Rel U ρ h0 s a) {ch : ZbD} (hh : holds s ch) : ∀ {os : List Operand} {vs : List (TV U.X)}, Zyq s ch os = some vs → ∃ ws, Za4 a os = some ws ∧ VRels U ρ vs ws
  | [], vs, h => by
    simp only [Zyq, Option.some.injEq] at h
    subst h
    exact ⟨[], rfl, rfl, fun k v a h => by simp at h⟩
  | o :: os, vs, h => by
    simp only [Zyq] at h
    cases h1 : Zfq s ch o with
    | none => rw [h1] at h; cases h
    | some v =>
      rw [h1] at h
      simp only at h
      cases h2 : Zyq s ch os with
      | none => rw [h2] at h; cases h
      | some vs' =>
        rw [h2] at h
        simp only [Option.some.injEq] at h
        subst h
        obtain ⟨w, h3, h4⟩ := ZbW r hh h1
        obtain ⟨ws, h5, h6, h7⟩ := ZjF r hh h2
        refine ⟨w :: ws, by simp only [Za4, h3, h5], by simp [h6], fun k v' a' hk ha => ?_⟩
        cases k with
        | zero => simp only [List.getElem?_cons_zero, Option.some.injEq] at hk ha; subst hk; subst ha; exact h4
        | succ k => exact h7 k v' a' (by simpa using hk) (by simpa using ha)
theorem VRels.dv {vs : List (TV U.X)} {ws : List AV} (h : VRels U ρ vs ws) : ∀ {ds : List DV}, dvL U vs = some ds → ws = ds.map .d := by
  intro ds hd
  apply List.ext_getElem?
  intro k
  rcases Nat.lt_or_ge k vs.length with hk | hk
  · obtain ⟨d, h2, h3⟩ := ZjB hd k _ (List.getElem?_eq_getElem hk)
    have hk' : k < ws.length := by rw [← h.1]; exact hk
    have := (h.2 k _ _ (List.getElem?_eq_getElem hk) (List.getElem?_eq_getElem hk')).isD h3
    rw [List.getElem?_eq_getElem hk', this, List.getElem?_map, h2]; rfl
  · have := ZbC hd
    have := h.1
    rw [List.getElem?_eq_none (by omega), List.getElem?_eq_none (by simp; omega)]
theorem VRels.take {vs : List (TV U.X)} {ws : List AV} (h : VRels U ρ vs ws) (n : Nat) : VRels U ρ (vs.take n) (ws.take n) := by
  refine ⟨by simp [h.1], fun k v a hv ha => ?_⟩
  rw [List.getElem?_take] at hv ha
  split at hv
  · rename_i hk; rw [if_pos hk] at ha; exact h.2 k v a hv ha
  · cases hv
theorem VRels.drop {vs : List (TV U.X)} {ws : List AV} (h : VRels U ρ vs ws) (n : Nat) : VRels U ρ (vs.drop n) (ws.drop n) := by
  refine ⟨by simp [h.1], fun k v a hv ha => ?_⟩
  rw [List.getElem?_drop] at hv ha
  exact h.2 _ v a hv ha
theorem VRels.append {vs vs' : List (TV U.X)} {ws ws' : List AV} (h : VRels U ρ vs ws) (h' : VRels U ρ vs' ws') : VRels U ρ (vs ++ vs') (ws ++ ws') := by
  refine ⟨by simp [h.1, h'.1], fun k v a hv ha => ?_⟩
  rcases Nat.lt_or_ge k vs.length with hk | hk
  · rw [List.getElem?_append_left hk] at hv
    rw [List.getElem?_append_left (by rw [← h.1]; exact hk)] at ha
    exact h.2 k v a hv ha
  · rw [List.getElem?_append_right hk] at hv
    rw [List.getElem?_append_right (by rw [← h.1]; exact hk), ← h.1] at ha
    exact h'.2 _ v a hv ha
variable {x : Cx}
theorem ZqE (ok : x.U.Ok x.C) {t : Nat} {v w : TV x.X} {d : DV} (hd : v.dv x.U = some d) (h : x.coerce t v = some w) : w.dv x.U = some d := by
  unfold Cx.coerce at h
  split at h
  · split at h <;> (simp only [Option.some.injEq] at h; subst h)
    · simp only [TV.dv] at hd ⊢; simpa using hd
    · exact hd
  · split at h
    · rename_i cs y hp
      simp only [Option.some.injEq] at h
      subst h
      obtain ⟨ds, h1, h2⟩ := ok.pack _ _ _ hp
      simp only [TV.dv, h1, Option.map_some, Option.some.injEq] at hd ⊢
      rw [h2, hd]
    · cases h
  · simp only [Option.some.injEq] at h; subst h; exact hd
theorem ZqJ (ok : x.U.Ok x.C) {ρ : List Rf} {t : Nat} {v w : TV x.X} {u : AV} (hv : VRel x.U ρ v u) (h : x.coerce t v = some w) : VRel x.U ρ w u := by
  cases hd : v.dv x.U with
  | some d => rw [hv.isD hd]; exact .d _ _ (ZqE ok hd h)
  | none =>
    unfold Cx.coerce at h
    split at h
    · simp [TV.dv] at hd
    · cases hv with
      | d v d h2 => rw [h2] at hd; cases hd
    · simp only [Option.some.injEq] at h; subst h; exact hv
theorem ZjC (ok : x.U.Ok x.C) {ρ : List Rf} {t : Nat} {y z : TX x.X} {u : XV} (hv : XRel x.U ρ y u) (h : x.coerceX t y = some z) : XRel x.U ρ z u := by
  unfold Cx.coerceX at h
  split at h
  · split at h
    · rename_i v w hw
      simp only [Option.some.injEq] at h
      subst h
      obtain ⟨u', rfl, h1⟩ := hv.isA
      exact .a _ _ (ZqJ ok h1 hw)
    · cases h
  · simp only [Option.some.injEq] at h; subst h; exact hv
theorem Zwj (ok : x.U.Ok x.C) {t : Nat} {cs : List (TV x.X)} {y : x.X t} {ds : List DV} (h : x.U.pack t cs = some y) (hd : dvL x.U cs = some ds) : x.U.enc t y = .agg ds := by
  obtain ⟨ds', h1, h2⟩ := ok.pack _ _ _ h
  rw [hd] at h1
  cases h1
  exact h2
theorem Zzd (ok : x.U.Ok x.C) {t : Nat} {cs : List (TV x.X)} {ds : List DV} {v : TV x.X} (hd : dvL x.U cs = some ds) (h : x.ld t cs = some v) : ∃ d, Zbo x.C t ds = some d ∧ v.dv x.U = some d := by
  unfold Cx.ld at h
  unfold Zbo
  split at h
  · rename_i hag
    rw [hag]
    split at h
    · rename_i n hn
      rw [hn]
      rw [ZbC hd] at h
      simp only
      cases hb : Nat.ble n ds.length with
      | false => rw [hb] at h; cases h
      | true =>
        rw [hb] at h
        simp only [cond_true] at h ⊢
        split at h
        · rename_i y hp
          simp only [Option.some.injEq] at h
          subst h
          exact ⟨_, rfl, by simp only [TV.dv, Zwj ok hp (Zui hd n)]⟩
        · cases h
    · cases h
  · rename_i hag
    rw [hag]
    split at h
    · rename_i v' r
      obtain ⟨d, ds', h1, h2, rfl⟩ := Zcv hd
      exact ⟨d, rfl, ZqE ok h1 h⟩
    · cases h
  · cases h
theorem YaR (ok : x.U.Ok x.C) {ρ : List Rf} {t : Nat} {cs : List (TV x.X)} {as : List AV} {v : TV x.X} (hd : VRels x.U ρ cs as) (h : x.ld t cs = some v) : ∃ w, ZaX x.C t as = some w ∧ VRel x.U ρ v w := by
  unfold Cx.ld at h
  unfold ZaX
  split at h
  · rename_i hag
    rw [hag]
    split at h
    · rename_i n hn
      rw [hn]
      rw [hd.1] at h
      simp only
      cases hb : Nat.ble n as.length with
      | false => rw [hb] at h; cases h
      | true =>
        rw [hb] at h
        simp only [cond_true] at h ⊢
        split at h
        · rename_i y hp
          simp only [Option.some.injEq] at h
          subst h
          obtain ⟨ds, h1, h2⟩ := ok.pack _ _ _ hp
          rw [(hd.take n).dv h1, Zhf]
          exact ⟨_, rfl, .d _ _ (by simp only [TV.dv, h2])⟩
        · cases h
    · cases h
  · rename_i hag
    rw [hag]
    split at h
    · rename_i v' r
      cases as with
      | nil => have := hd.1; simp at this
      | cons w as => exact ⟨w, rfl, ZqJ ok (hd.2 0 _ _ rfl rfl) h⟩
    · cases h
  · cases h
end
end Go.Tev
namespace Go.Tev
open Go.Abs
def PR.Is {α : Type} (act : Prop) : PR α → α → Prop
  | .tot b, a => a = b
  | .part p d f, a => ∃ b, (act → p = some b) ∧ a = f b
theorem PR.Is_map {α β : Type} {act : Prop} {r : PR α} {h : α → β} {b : β} : PR.Is act (r.map h) b ↔ ∃ a, PR.Is act r a ∧ b = h a := by
  cases r with
  | tot a => simp [PR.map, PR.Is]
  | part p d f =>
    simp only [PR.map, PR.Is]
    constructor
    · rintro ⟨c, h1, rfl⟩; exact ⟨_, ⟨c, h1, rfl⟩, rfl⟩
    · rintro ⟨_, ⟨c, h1, rfl⟩, rfl⟩; exact ⟨c, h1, rfl⟩
theorem PR.go_some {α R : Type} {g : Option Bool} {r : PR α} {k : α → Option R} {z : R} (h : PR.go g r k = some z) : ∃ a, PR.Is (g ≠ some false) r a ∧ k a = some z := by
  cases r with
  | tot a => exact ⟨a, rfl, h⟩
  | part p d f =>
    cases g with
    | none =>
      simp only [PR.go] at h
      cases p with
      | none => cases h
      | some b => exact ⟨f b, ⟨b, fun _ => rfl, rfl⟩, h⟩
    | some c =>
      simp only [PR.go] at h
      cases c with
      | false => exact ⟨f d, ⟨d, fun h => absurd rfl h, rfl⟩, h⟩
      | true =>
        simp only [cond_true] at h
        cases p with
        | none => cases h
        | some b => exact ⟨f b, ⟨b, fun _ => rfl, rfl⟩, h⟩
theorem PR.Is.imp {α : Type} {P Q : Prop} (hpq : Q → P) {r : PR α} {a : α} (h : PR.Is P r a) : PR.Is Q r a := by
  cases r with
  | tot => exact h
  | part p d f => obtain ⟨b, h1, h2⟩ := h; exact ⟨b, fun hq => h1 (hpq hq), h2⟩
theorem Zwk {α : Type 1} {b : Bool} {q : Option α} {y : α} (h : (bif b then q else none) = some y) : b = true ∧ q = some y := by
  cases b with
  | false => cases h
  | true => exact ⟨rfl, h⟩
section
variable {x : Cx} {ρ : List Rf} {h0 : Base} {s : TSt x.X} {a : St}
theorem Zbr {X : Nat → Type} {t' t : Nat} {y : X t'} {z : X t} (h : Zfv t' t y = some z) : ∃ e : t' = t, e ▸ y = z := by
  unfold Zfv at h
  split at h
  · rename_i e; exact ⟨e, by simpa using h⟩
  · cases h
theorem Zy5 {op : BinOp} {k : IntKind} {m n : Int} {pr : PR (TV x.X)} {w : TV x.X} (h : YbK op k m n = some pr) (hi : PR.Is True pr w) : ∃ d, Zso op k m n = some d ∧ w.dv x.U = some d := by
  cases op <;> simp only [YbK, Option.some.injEq] at h <;> (try (cases h; done)) <;> subst h <;> simp only [PR.Is, YdF] at hi <;>
    (try (subst hi; exact ⟨_, rfl, rfl⟩)) <;> (obtain ⟨b, h1, rfl⟩ := hi; have h1 := h1 trivial; unfold Zso; split at h1 <;> (try (cases h1; done)) <;> rename_i hb <;> (simp only [Option.some.injEq] at h1; subst h1; simp only [if_neg hb]; exact ⟨_, rfl, rfl⟩))
theorem Yc7 (ok : x.U.Ok x.C) {op : BinOp} {t : Nat} {u v w : TV x.X} {uw vw : AV} {pr : PR (TV x.X)} (h1 : VRel x.U ρ u uw) (h2 : VRel x.U ρ v vw) (h : Yd9 x op t u v = some pr) (hi : PR.Is True pr w) :
    ∃ d, Zld x.C op t uw vw = some d ∧ w.dv x.U = some d := by
  unfold Yd9 at h
  split at h
  · rw [h1.isD rfl, h2.isD rfl]
    rename_i k m k' n
    simp only [Zld]
    split at h
    · simp only [Option.some.injEq] at h; subst h
      obtain ⟨b, h3, rfl⟩ := hi
      have h3 := h3 trivial
      simp only [Zlc]
      split at h3
      · cases h3
      · rename_i hb; simp only [Option.some.injEq] at h3; subst h3; simp only [if_neg hb]; exact ⟨_, rfl, rfl⟩
    · simp only [Option.some.injEq] at h; subst h
      obtain ⟨b, h3, rfl⟩ := hi
      have h3 := h3 trivial
      simp only [Zlc]
      split at h3
      · cases h3
      · rename_i hb; simp only [Option.some.injEq] at h3; subst h3; simp only [if_neg hb]; exact ⟨_, rfl, rfl⟩
    · rename_i n1 n2
      cases hk : decide (k = k') with
      | false => rw [hk] at h; cases h
      | true =>
        rw [hk] at h
        simp only [cond_true] at h
        have hk := of_decide_eq_true hk
        subst hk
        have : Zlc x.C op t (.int k m) (.int k n) = Zso op k m n := by
          unfold Zlc
          cases op <;> simp <;> first | exact absurd rfl n1 | exact absurd rfl n2
        rw [this]
        exact Zy5 h hi
  · rename_i p q
    rw [h1.isD rfl, h2.isD rfl]
    simp only [Zld]
    cases op <;> simp only [Option.some.injEq] at h <;> (try (cases h; done)) <;> subst h <;> (try (simp only [PR.Is] at hi; subst hi; exact ⟨_, rfl, rfl⟩))
    obtain ⟨b, h3, rfl⟩ := hi
    have h3 := h3 trivial
    split at h3
    · rename_i hb
      simp only [Option.some.injEq] at h3; subst h3
      have : Nat.ble (p.length + q.length) (2 ^ 40) = true := by rw [Nat.ble_eq]; exact hb
      simp only [Zlc, this, cond_true]
      exact ⟨_, rfl, rfl⟩
    · cases h3
  · rw [h1.isD rfl, h2.isD rfl]
    simp only [Zld, Zlc]
    split at h
    · rename_i hb; rw [hb]; simp only [Option.some.injEq] at h; subst h; simp only [PR.Is] at hi; subst hi; exact ⟨_, rfl, rfl⟩
    · rename_i hb; rw [hb]; simp only [Option.some.injEq] at h; subst h; simp only [PR.Is] at hi; subst hi; exact ⟨_, rfl, rfl⟩
    · cases h
  · rename_i ty p ty' q
    split at h
    · rename_i q' f hq hf
      obtain ⟨he, hq⟩ := Zbr hq
      subst he
      cases hq
      obtain ⟨hb, hx⟩ := Zwk h
      clear h
      have h := hx
      clear hx
      rw [Nat.beq_eq] at hb
      subst hb
      obtain ⟨g1, g2⟩ := ok.eqT _ _ hf
      obtain ⟨e1, e2⟩ := g2 p q
      obtain ⟨e3, _⟩ := g2 q p
      rw [h1.isD rfl, h2.isD rfl]
      rw [e1, e3] at e2
      rw [e1, e3]
      simp only [Zld, Zlc, g1, cond_false, e2]
      split at h
      · simp only [Option.some.injEq] at h; subst h; simp only [PR.Is] at hi; subst hi; exact ⟨_, rfl, rfl⟩
      · simp only [Option.some.injEq] at h; subst h; simp only [PR.Is] at hi; subst hi; exact ⟨_, rfl, rfl⟩
      · cases h
    · cases h
  · rw [h1.isD rfl, h2.isD rfl]
    simp only [Zld, Zlc]
    split at h
    · rename_i hb; rw [hb]; simp only [Option.some.injEq] at h; subst h; simp only [PR.Is] at hi; subst hi; exact ⟨_, rfl, rfl⟩
    · rename_i hb; rw [hb]; simp only [Option.some.injEq] at h; subst h; simp only [PR.Is] at hi; subst hi; exact ⟨_, rfl, rfl⟩
    · cases h
  · rw [h2.isD rfl]
    cases h1 with
    | d v d hd => simp [TV.dv] at hd
    | mp j i hj =>
      simp only [Zld]
      split at h
      · rename_i hb; rw [hb]; simp only [Option.some.injEq] at h; subst h; simp only [PR.Is] at hi; subst hi; exact ⟨_, rfl, rfl⟩
      · rename_i hb; rw [hb]; simp only [Option.some.injEq] at h; subst h; simp only [PR.Is] at hi; subst hi; exact ⟨_, rfl, rfl⟩
      · cases h
  · cases h
theorem Yed {op : UnOp} {u w : TV x.X} {uw : AV} {pr : PR (TV x.X)} (h1 : VRel x.U ρ u uw) (h : unT op u = some pr) (hi : PR.Is True pr w) : ∃ e d, uw = .d e ∧ dUn op e = some d ∧ w.dv x.U = some d := by
  unfold unT at h
  split at h
  · split at h
    · simp only [Option.some.injEq] at h; subst h; simp only [PR.Is] at hi; subst hi
      exact ⟨_, _, h1.isD rfl, rfl, rfl⟩
    · cases h
  · split at h
    · simp only [Option.some.injEq] at h; subst h; simp only [PR.Is] at hi; subst hi
      exact ⟨_, _, h1.isD rfl, rfl, rfl⟩
    · cases h
  · cases h
theorem Zgw (hr : HR x.U ρ h0 s.heap a.heap) {j : Nat} {i : Rf} {o : TObj x.X} (hj : s.heap[j]? = some o) (hi : ρ[j]? = some i) : ∃ ao, a.heap[i.id]? = some ao ∧ ORel x.U ρ i.off o ao := by
  obtain ⟨i', ao, h1, h2, h3⟩ := hr.obj j o hj
  rw [hi] at h1
  cases h1
  exact ⟨ao, h2, h3⟩
theorem Ydf (r : Rel x.U ρ h0 s a) {t : Nat} {u w : TV x.X} {uw : AV} {pr : PR (TV x.X)} (h1 : VRel x.U ρ u uw) (h : Yep x s.heap t u = some pr) (hi : PR.Is True pr w) : ∃ d, ZfX x.C a.heap t uw = some d ∧ w.dv x.U = some d := by
  unfold Yep at h
  split at h
  · rw [h1.isD rfl]
    simp only [ZfX]
    rename_i s'
    cases hb : x.C.isStr t with
    | false => rw [hb] at h; cases h
    | true => rw [hb] at h; simp only [cond_true, Option.some.injEq] at h; subst h; simp only [PR.Is] at hi; subst hi; exact ⟨_, rfl, rfl⟩
  · rw [h1.isD rfl]
    simp only [ZfX]
    split at h
    · rename_i hb; rw [hb]; simp only [Option.some.injEq] at h; subst h; simp only [PR.Is] at hi; subst hi; exact ⟨_, rfl, by simp [TV.dv]⟩
    · cases h
  · rw [h1.isD rfl]
    simp only [ZfX]
    split at h
    · rename_i hb; rw [hb]; simp only [Option.some.injEq] at h; subst h; simp only [PR.Is] at hi; subst hi; exact ⟨_, rfl, by simp [TV.dv]⟩
    · cases h
  · cases h1 with
    | d v d hd => simp [TV.dv] at hd
    | osl j i g e n hj =>
      simp only [ZfX]
      split at h
      · rename_i hb; rw [hb]; simp only [Option.some.injEq] at h; subst h; simp only [PR.Is] at hi; subst hi; exact ⟨_, rfl, rfl⟩
      · cases h
  · cases h1 with
    | d v d hd => simp [TV.dv] at hd
    | mp j i hj =>
      split at h
      · rename_i hb
        obtain ⟨ao, h3, h4⟩ := Zgw r.heap hb hj
        cases h4
        simp only [ZfX, h3]
        cases hb : x.C.isMap t with
        | false => rw [hb] at h; cases h
        | true => rw [hb] at h; simp only [cond_true, Option.some.injEq] at h; subst h; simp only [PR.Is] at hi; subst hi; exact ⟨_, rfl, by simp [TV.dv]⟩
      · cases h
  · cases h
theorem Yco {us : List (TV x.X)} {ws : List AV} {w : TV x.X} {pr : PR (TV x.X)} (h1 : VRels x.U ρ us ws) (h : Yb1 us = some pr) (hi : PR.Is True pr w) : ∃ ds d, ws = ds.map .d ∧ Yd0 ds = some d ∧ w.dv x.U = some d := by
  unfold Yb1 at h
  split at h
  · simp only [Option.some.injEq] at h; subst h; simp only [PR.Is] at hi; subst hi
    exact ⟨_, _, h1.dv rfl, rfl, rfl⟩
  · cases h
theorem YcJ {us : List (TV x.X)} {ws : List AV} {w : TV x.X} {pr : PR (TV x.X)} (h1 : VRels x.U ρ us ws) (h : Ybr us = some pr) (hi : PR.Is True pr w) : ∃ ds d, ws = ds.map .d ∧ YdY ds = some d ∧ w.dv x.U = some d := by
  unfold Ybr at h
  split at h
  · simp only [Option.some.injEq] at h; subst h; simp only [PR.Is] at hi; subst hi
    exact ⟨_, _, h1.dv rfl, rfl, rfl⟩
  · cases h
theorem Zc5 {X : Nat → Type} {t' t : Nat} {y : List (X t')} {z : List (X t)} (h : ZiQ t' t y = some z) : ∃ e : t' = t, e ▸ y = z := by
  unfold ZiQ at h
  split at h
  · rename_i e; exact ⟨e, by simpa using h⟩
  · cases h
theorem ZuF : ∀ (l : List DV), Zkp (l.map .d) = Zel l
  | [] => rfl
  | d :: l => by
    cases d <;> simp only [List.map_cons, Zkp, Zel]
    rename_i k n
    cases k <;> simp only [Zkp, Zel, ZuF l]
theorem Yce (ok : x.U.Ok x.C) (r : Rel x.U ρ h0 s a) {s' t : Nat} {u w : TV x.X} {uw : AV} {pr : PR (TV x.X)} (h1 : VRel x.U ρ u uw) (h : Yb9 x s.heap s' t u = some pr) (hi : PR.Is True pr w) :
    ∃ d, ZaF x.C a.heap s' t uw = some d ∧ w.dv x.U = some d := by
  unfold Yb9 at h
  split at h
  · rw [h1.isD rfl]
    simp only [ZaF]
    split at h
    · rename_i e1 e2; rw [e1, e2]; simp only [Option.some.injEq] at h; subst h; simp only [PR.Is] at hi; subst hi; exact ⟨_, rfl, rfl⟩
    · cases h
  · rw [h1.isD rfl]
    simp only [ZaF]
    cases hb : (x.C.isStr s' && x.C.isStr t) with
    | false => rw [hb] at h; cases h
    | true => rw [hb] at h; simp only [cond_true, Option.some.injEq] at h; subst h; simp only [PR.Is] at hi; subst hi; exact ⟨_, rfl, rfl⟩
  · rename_i j g e n
    cases h1 with
    | d v d hd => simp [TV.dv] at hd
    | osl _ i _ _ _ hj =>
      cases hb : (x.C.isBytes s' && x.C.isStr t) with
      | false => rw [hb] at h; cases h
      | true =>
        rw [hb] at h
        simp only [cond_true] at h
        split at h
        · rename_i g' ap e' xs fb f hh hby
          obtain ⟨ao, h3, h4⟩ := Zgw r.heap hh hj
          cases h4
          split at h
          · rename_i ys hc
            obtain ⟨he, hc⟩ := Zc5 hc
            subst he
            simp only at hc
            subst hc
            cases hg : Nat.beq g g' with
            | false => rw [hg] at h; cases h
            | true =>
              rw [hg] at h
              simp only [cond_true, Option.some.injEq] at h
              subst h
              obtain ⟨b, h5, rfl⟩ := hi
              have h5 := h5 trivial
              split at h5
              · rename_i hn
                simp only [Option.some.injEq] at h5
                subst h5
                have := Nat.eq_of_beq_eq_true hg
                subst this
                have hbl : Nat.ble n (xs.map fun y => AV.d (x.U.enc e' y)).length = true := by rw [Nat.ble_eq]; simpa using hn
                simp only [ZaF, hb, cond_true, Zfs, h3, Nat.beq_refl, cond_true, hbl]
                have := (ok.bytes _ _ _ hby).2 (xs.take n)
                rw [← List.map_take, show (List.map (fun y => AV.d (x.U.enc e' y)) (xs.take n)) = ((xs.take n).map (x.U.enc e')).map AV.d by simp [List.map_map, Function.comp_def], ZuF, this]
                exact ⟨_, rfl, rfl⟩
              · cases h5
          · cases h
        · cases h
  · rw [h1.isD rfl]
    cases hb : (x.C.isBytes s' && x.C.isStr t) with
    | false => rw [hb] at h; cases h
    | true =>
      rw [hb] at h
      simp only [cond_true] at h
      split at h
      · rename_i hby
        simp only [Option.some.injEq] at h; subst h; simp only [PR.Is] at hi; subst hi
        simp only [ZaF, hb, cond_true, (ok.bytes _ _ _ hby).2]
        exact ⟨_, rfl, rfl⟩
      · cases h
  · cases h
end
end Go.Tev
namespace Go.Tev
open Go.Abs
section
variable {x : Cx} {ρ : List Rf} {h0 : Base} {s : TSt x.X} {a : St}
theorem Zp2 {i : Int} {n : Nat} (h1 : 0 ≤ i) (h2 : i.toNat < n) : idx i n = some i.toNat := by
  unfold idx
  rw [if_pos ⟨h1, by omega⟩]
theorem Zrs {α : Type} {xs : List α} {i : Int} {y : α} (h : ZdC xs i = some y) : 0 ≤ i ∧ xs[i.toNat]? = some y ∧ i.toNat < xs.length := by
  unfold ZdC at h
  split at h
  · rename_i h1; exact ⟨h1, h, (List.getElem?_eq_some_iff.1 h).1⟩
  · cases h
theorem Zty (r : Rel x.U ρ h0 s a) {ch : ZbD} (hh : holds s ch) {o : Option Operand} {l : Option (TV x.X)} {d m : Int} (h1 : YbF s ch o = some l) (h2 : YcA d l = some m) :
    ∃ dl, optD a o = some dl ∧ ((dl = none ∧ m = d) ∨ ∃ k, dl = some (.int k m)) := by
  cases o with
  | none =>
    simp only [YbF, Option.some.injEq] at h1
    subst h1
    simp only [YcA, Option.some.injEq] at h2
    exact ⟨none, rfl, .inl ⟨rfl, h2.symm⟩⟩
  | some o =>
    simp only [YbF] at h1
    cases h3 : Zfq s ch o with
    | none => rw [h3] at h1; cases h1
    | some v =>
      rw [h3] at h1
      simp only [Option.some.injEq] at h1
      subst h1
      cases v <;> simp only [YcA] at h2 <;> (try (cases h2; done))
      simp only [Option.some.injEq] at h2
      subst h2
      rename_i k n
      obtain ⟨_, h4, _⟩ := ZbT r hh h3 (d := .int k n) rfl
      exact ⟨some (.int k n), by simp only [optD, h4], .inr ⟨k, rfl⟩⟩
theorem Zlk {n : Nat} {dl : Option DV} {d : Nat} {m : Int} (h : (dl = none ∧ m = d) ∨ ∃ k, dl = some (.int k m)) (h1 : 0 ≤ m) (h2 : m ≤ n) : Zfp n d dl = some m.toNat := by
  rcases h with ⟨rfl, rfl⟩ | ⟨k, rfl⟩
  · simp [Zfp]
  · simp only [Zfp, if_pos (And.intro h1 h2)]
theorem ZrL {α : Type} {xs ys : List α} {lo hi : Int} (h : Zsi xs lo hi = some ys) : 0 ≤ lo ∧ lo ≤ hi ∧ hi ≤ xs.length ∧ ys = (xs.take hi.toNat).drop lo.toNat := by
  unfold Zsi at h
  split at h
  · rename_i h1; simp only [Option.some.injEq] at h; exact ⟨h1.1, h1.2.1, h1.2.2, h.symm⟩
  · cases h
theorem Zjb (ok : x.U.Ok x.C) {e n : Nat} (hc : x.U.csz e = some n) (xs : List (x.X e)) : ZaI n (xs.map (x.U.enc e)) = true := by
  induction xs with
  | nil => rfl
  | cons y xs ih => simp only [List.map_cons, ZaI, ih, Bool.and_true, Nat.beq_eq]; exact ok.csz _ _ _ hc
theorem Zjv {n : Nat} : ∀ {l : List DV} (m : Nat), ZaI n l = true → ZaI n (l.take m) = true
  | [], m, _ => by simp [ZaI]
  | v :: l, 0, _ => rfl
  | v :: l, m + 1, h => by
    simp only [ZaI, Bool.and_eq_true] at h
    simp only [List.take_succ_cons, ZaI, Bool.and_eq_true]
    exact ⟨h.1, Zjv m h.2⟩
theorem ZzA (ok : x.U.Ok x.C) (r : Rel x.U ρ h0 s a) {ch : ZbD} (hh : holds s ch) {t : Nat} {lo hi : Option Operand} {l h : Option (TV x.X)} {u w : TV x.X} {pr : PR (TV x.X)} {e : DV} (hu : u.dv x.U = some e)
    (h1 : YbF s ch lo = some l) (h2 : YbF s ch hi = some h) (h3 : ZtB x t l h u = some pr) (hi' : PR.Is True pr w) :
    ∃ dl dh d, optD a lo = some dl ∧ optD a hi = some dh ∧ Zcc x.C t e dl dh = some d ∧ w.dv x.U = some d := by
  unfold ZtB at h3
  split at h3
  · rename_i b
    cases hu
    cases hb : x.C.isStr t with
    | false => rw [hb] at h3; cases h3
    | true =>
      rw [hb] at h3
      simp only [cond_true] at h3
      split at h3
      · rename_i m n hm hn
        simp only [Option.some.injEq] at h3
        subst h3
        obtain ⟨y, h4, rfl⟩ := hi'
        obtain ⟨g1, g2, g3, rfl⟩ := ZrL (h4 trivial)
        obtain ⟨dl, k1, k2⟩ := Zty r hh h1 hm
        obtain ⟨dh, k3, k4⟩ := Zty r hh h2 hn
        refine ⟨dl, dh, _, k1, k3, ?_, rfl⟩
        simp only [Zcc, hb, cond_true, Zlk (d := b.length) (by simpa using k4) (by omega) g3, Zlk (n := n.toNat) (d := 0) (by simpa using k2) g1 (by omega)]
      · cases h3
  · rename_i e' xs
    cases hu
    split at h3
    · rename_i e2 m n he hm hn
      cases hb : Nat.beq e' e2 with
      | false => rw [hb] at h3; cases h3
      | true =>
        rw [hb] at h3
        have := Nat.eq_of_beq_eq_true hb
        subst this
        simp only [cond_true] at h3
        split at h3
        · rename_i sz hsz
          simp only [Option.some.injEq] at h3
          subst h3
          obtain ⟨y, h4, rfl⟩ := hi'
          obtain ⟨g1, g2, g3, rfl⟩ := ZrL (h4 trivial)
          obtain ⟨dl, k1, k2⟩ := Zty r hh h1 hm
          obtain ⟨dh, k3, k4⟩ := Zty r hh h2 hn
          refine ⟨dl, dh, _, k1, k3, ?_, rfl⟩
          cases hes : x.C.elemSize t with
          | none => rw [hes] at hsz; simp at hsz
          | some sz' =>
            have hcs : x.U.csz e' = some sz' := by
              rw [hes] at hsz
              simp only at hsz
              split at hsz
              · rename_i n' hn'
                cases hbb : Nat.beq n' sz' with
                | false => rw [hbb] at hsz; cases hsz
                | true => rw [hn', Nat.eq_of_beq_eq_true hbb]
              · cases hsz
            simp only [Zcc, hes, Zlk (n := (xs.map (x.U.enc e')).length) (d := (xs.map (x.U.enc e')).length) (by simpa using k4) (by omega) (by simpa using g3),
              Zlk (n := n.toNat) (d := 0) (by simpa using k2) g1 (by omega), Zjv 1 (Zjb ok hcs xs), cond_true, List.map_drop, List.map_take]
        · cases h3
    · cases h3
  · cases h3
theorem ZyK {y z : TX x.X} {u : XV} (h1 : XRel x.U ρ y u) (h : ZiF y = some z) : ∃ w, Zp4 u = some w ∧ XRel x.U ρ z w := by
  cases h1 with
  | a v w hv =>
    cases v <;> simp only [ZiF] at h <;> (try (cases h; done))
    simp only [Option.some.injEq] at h; subst h
    cases hv with
    | d v d hd => simp [TV.dv] at hd
    | ptr j i off hj => exact ⟨_, rfl, .a _ _ (.ptr _ _ _ hj)⟩
  | sp => simp only [ZiF, Option.some.injEq] at h; subst h; exact ⟨_, rfl, .sp _ _⟩
  | fp cs ds hd => simp only [ZiF, Option.some.injEq] at h; subst h; exact ⟨_, rfl, .fp _ _ hd⟩
  | ap j i g e n off hj => simp only [ZiF, Option.some.injEq] at h; subst h; exact ⟨_, rfl, .ap _ _ _ _ _ _ hj⟩
  | own => simp [ZiF] at h
  | al => simp [ZiF] at h
  | un => simp [ZiF] at h
theorem Zrh {t f : Nat} {y z : TX x.X} {u : XV} (h1 : XRel x.U ρ y u) (h : Zj9 x t f y = some z) : ∃ w, ZaO x.C t f u = some w ∧ XRel x.U ρ z w := by
  unfold Zj9 at h
  unfold ZaO
  split at h
  · cases h
  · rename_i fd hfd
    rw [hfd]
    simp only
    cases hs : x.C.hasSize fd.type with
    | false => rw [hs] at h; cases h
    | true =>
      rw [hs] at h
      simp only [cond_true] at h ⊢
      cases h1 with
      | a v w hv =>
        cases v <;> simp only at h <;> (try (cases h; done))
        simp only [Option.some.injEq] at h; subst h
        cases hv with
        | d v d hd => simp [TV.dv] at hd
        | ptr j i off hj => exact ⟨_, rfl, .a _ _ (.ptr _ _ _ hj)⟩
      | sp => simp only [Option.some.injEq] at h; subst h; exact ⟨_, rfl, .sp _ _⟩
      | fp cs ds hd =>
        simp only at h ⊢
        rw [ZbC hd] at h
        cases hb : Nat.ble fd.offset ds.length with
        | false => rw [hb] at h; cases h
        | true =>
          rw [hb] at h
          simp only [cond_true, Option.some.injEq] at h ⊢
          subst h
          exact ⟨_, rfl, .fp _ _ (Zhq hd _)⟩
      | ap j i g e n off hj => simp only [Option.some.injEq] at h; subst h; exact ⟨_, rfl, .ap _ _ _ _ _ _ hj⟩
      | own => simp at h
      | al => simp at h
      | un => simp at h
theorem Zyx (ok : x.U.Ok x.C) {t f : Nat} {v w : TV x.X} {d : DV} (hd : v.dv x.U = some d) (h : ZtN x t f v = some w) : ∃ e, ZcC x.C t f d = some e ∧ w.dv x.U = some e := by
  unfold ZtN at h
  unfold ZcC
  split at h
  · cases h
  · rename_i fd hfd
    rw [hfd]
    simp only
    split at h
    · rename_i ty y
      split at h
      · rename_i g hg
        cases hag : x.C.isAgg ty with
        | none => rw [hag] at h; cases h
        | some b =>
          cases b with
          | false => rw [hag] at h; cases h
          | true =>
            rw [hag] at h
            simp only at h
            cases hd
            have h1 := ok.agg _ g y hag hg
            obtain ⟨e, h2, h3⟩ := Zzd ok (Zhq (ok.cells _ _ y hg) fd.offset) h
            rw [h1]
            exact ⟨e, h2, h3⟩
      · cases h
    · rename_i cs
      simp only [TV.dv, Option.map_eq_some_iff] at hd
      obtain ⟨ds, h1, rfl⟩ := hd
      obtain ⟨e, h2, h3⟩ := Zzd ok (Zhq h1 fd.offset) h
      exact ⟨e, h2, h3⟩
    · cases h
theorem ZqY (ok : x.U.Ok x.C) (r : Rel x.U ρ h0 s a) {t : Nat} {v : TV x.X} {vw : AV} {i : Int} {y : TX x.X} {pr : PR (Option (TX x.X))} (hv : VRel x.U ρ v vw)
    (h : Zka x s.heap t v i = some pr) (hi : PR.Is True pr (some y)) : ∃ w, ZaC x.C t a vw i = some w ∧ XRel x.U ρ y w := by
  unfold Zka at h
  split at h
  · rename_i e' sz he hsz
    split at h
    · rename_i e xs
      split at h
      · rename_i f sz' hf hcs
        cases hb : (Nat.beq e e' && Nat.beq sz sz') with
        | false => rw [hb] at h; cases h
        | true =>
          rw [hb] at h
          simp only [cond_true, Option.some.injEq] at h
          subst h
          simp only [Bool.and_eq_true, Nat.beq_eq] at hb
          obtain ⟨rfl, rfl⟩ := hb
          obtain ⟨z, h1, h2⟩ := hi
          simp only [Option.some.injEq] at h2
          subst h2
          obtain ⟨g1, g2, g3⟩ := Zrs (h1 trivial)
          rw [hv.isD rfl]
          have hl : Nat.beq (x.U.enc e z).cells.length sz = true := by rw [Nat.beq_eq]; exact ok.csz _ _ _ hcs
          simp only [ZaC, hsz, List.length_map, Zp2 g1 g3, List.getElem?_map, g2, Option.map_some, hl, cond_true]
          exact ⟨_, rfl, .fp _ _ (ok.cells _ _ _ hf)⟩
      · cases h
    · rename_i j g e n
      split at h
      · rename_i g' ap e2 xs hh
        split at h
        · rename_i sz' hcs
          cases hb : (Nat.beq e e' && Nat.beq e e2 && Nat.beq g g' && Nat.beq sz sz') with
          | false => rw [hb] at h; cases h
          | true =>
            rw [hb] at h
            simp only [cond_true, Option.some.injEq] at h
            subst h
            simp only [Bool.and_eq_true, Nat.beq_eq] at hb
            obtain ⟨⟨⟨rfl, rfl⟩, rfl⟩, rfl⟩ := hb
            obtain ⟨k, h1, h2⟩ := hi
            simp only [Option.some.injEq] at h2
            subst h2
            have h1 := h1 trivial
            split at h1
            · rename_i hcond
              simp only [Option.some.injEq] at h1
              subst h1
              cases hv with
              | d v d hd => simp [TV.dv] at hd
              | osl _ i' _ _ _ hj =>
                obtain ⟨ao, h3, h4⟩ := Zgw r.heap hh hj
                cases h4
                have hbb : ∀ m, Nat.beq m m = true := fun m => by simp
                have hk : i.toNat < xs.length := by omega
                have hl : Nat.beq (AV.d (x.U.enc e xs[i.toNat])).cells.length sz = true := by
                  rw [Nat.beq_eq, show (AV.d (x.U.enc e xs[i.toNat])).cells.length = (x.U.enc e xs[i.toNat]).cells.length by
                    cases x.U.enc e xs[i.toNat] <;> simp [AV.cells, DV.cells]]
                  exact ok.csz _ _ _ hcs
                simp only [ZaC, hsz, Zfs, h3, hbb, cond_true, Zp2 hcond.1 (show i.toNat < n by omega), List.getElem?_map, List.getElem?_eq_getElem hk, Option.map_some, hl]
                exact ⟨_, rfl, .ap _ _ _ _ _ _ hj⟩
            · cases h1
        · cases h
      · cases h
    · cases h
  · cases h
theorem ZzB {t : Nat} {v w : TV x.X} {d : DV} {i : Int} {pr : PR (TV x.X)} (hd : v.dv x.U = some d) (h : Zuh x t v i = some pr) (hi : PR.Is True pr w) : ∃ e, ZcG x.C t d i = some e ∧ w.dv x.U = some e := by
  unfold Zuh at h
  split at h
  · cases hd
    cases hb : x.C.isStr t with
    | false => rw [hb] at h; cases h
    | true =>
      rw [hb] at h
      simp only [cond_true, Option.some.injEq] at h
      subst h
      obtain ⟨c, h1, rfl⟩ := hi
      obtain ⟨g1, g2, g3⟩ := Zrs (h1 trivial)
      simp only [ZcG, hb, cond_true, Zp2 g1 g3, g2]
      exact ⟨_, rfl, rfl⟩
  · cases h
theorem ZvR {v w : TV x.X} {u : AV} {i : Nat} (hv : VRel x.U ρ v u) (h : ZoL v i = some w) : ∃ y, ZaM u i = some y ∧ VRel x.U ρ w y := by
  cases v <;> simp only [ZoL] at h <;> (try (cases h; done))
  rename_i vs
  cases hv with
  | d v d hd =>
    simp only [TV.dv, Option.map_eq_some_iff] at hd
    obtain ⟨ds, h1, rfl⟩ := hd
    obtain ⟨e, h2, h3⟩ := ZjB h1 i w h
    exact ⟨.d e, by simp only [ZaM, h2, Option.map_some], .d _ _ h3⟩
  | tup vs as hl hh =>
    have hi : i < vs.length := (List.getElem?_eq_some_iff.1 h).1
    have hi' : i < as.length := by omega
    have h1 := hh i _ _ h (List.getElem?_eq_getElem hi')
    unfold ZdM
    cases had : ZeI as with
    | some ds =>
      have : as = ds.map .d := by
        clear hh h1 hi hi' hl
        unfold ZeI at had
        induction as generalizing ds with
        | nil => simp only [mapO, Option.some.injEq] at had; subst had; rfl
        | cons b as ih =>
          simp only [mapO] at had
          cases b <;> simp only [AV.toD] at had <;> (try (cases had; done))
          split at had
          · rename_i ys hys
            simp only [Option.some.injEq] at had
            subst had
            rw [ih ys hys]; rfl
          · cases had
      subst this
      have hi2 : i < ds.length := by simpa using hi'
      refine ⟨.d ds[i], by simp only [ZaM, List.getElem?_eq_getElem hi2, Option.map_some], ?_⟩
      simpa using h1
    | none =>
      exact ⟨as[i], by simp only [ZaM, List.getElem?_eq_getElem hi'], h1⟩
end
end Go.Tev
namespace Go.Tev
open Go.Abs
def Zag (U : Uni) (call : Zaa) (f : FuncId) (c : TCall U.X) : Prop := ∀ vs a r ds h, ZzJ U c.ak vs = some a → dvL U vs = some ds → c.fn a = some r → ZuO U c.rts = some h →
  ∃ d, (h r).dv U = some d ∧ ZcL call (!c.dir) f ds = some d
theorem ZlZ {call : Zaa} {b : Bool} {f : FuncId} {ds : List DV} {d : DV} (h : ZcL call b f ds = some d) : ZcL call true f ds = some d := by
  cases b with
  | true => exact h
  | false =>
    unfold ZcL at h ⊢
    split at h
    · exact h
    · cases h
    · cases h
section
variable {x : Cx} {ρ : List Rf} {h0 : Base} {s : TSt x.X} {a : St}
theorem Zuo (ok : x.U.Ok x.C) {kt vt : Nat} {γ : Type} (hk : x.U.isKey kt = true) (key : x.X kt) (f : x.X vt → γ) (es : List (x.X kt × x.X vt)) :
    Zga (x.U.enc kt key) (es.map fun p => (x.U.enc kt p.1, f p.2)) = some ((Za5 (x.U.keq kt) key es).map f) := by
  induction es with
  | nil => rfl
  | cons p es ih =>
    obtain ⟨k', v⟩ := p
    simp only [List.map_cons, Zga, ok.keq kt key k' hk, Za5]
    cases x.U.keq kt key k' with
    | true => rfl
    | false => simpa using ih
theorem mapZ {C : Abs.Ctx} {t kt vt : Nat} {z : DV} (h1 : Ctx.mapT C t = some (kt, vt)) (h2 : C.mapZero t = some z) : C.zero vt = some z := by
  unfold Ctx.mapT at h1
  unfold Abs.Ctx.mapZero at h2
  unfold Abs.Ctx.zero
  split at h1
  · rename_i k v he
    rw [he] at h2
    simp only [Option.some.injEq, Prod.mk.injEq] at h1
    obtain ⟨rfl, rfl⟩ := h1
    simp only at h2
    cases hi : C.P.info? v with
    | none => rw [hi] at h2; split at h2 <;> simp at h2
    | some i => rw [hi] at h2; split at h2 <;> simp at h2 <;> simp [h2]
  · cases h1
theorem Ydl (d e : DV) : ZdM [.d d, .d e] = .d (.tup [d, e]) := rfl
theorem Zzn (ok : x.U.Ok x.C) {vt : Nat} {inj : x.X vt → TV x.X} (hi : x.U.inj vt = some inj) {z : DV} (hz : x.C.zero vt = some z) (hd : x.U.dok vt = true) (r : Option (x.X vt)) (b : Bool) :
    VRel x.U ρ (bif b then .tup [inj (ZkQ (x.U.dflt vt) r), .b r.isSome] else inj (ZkQ (x.U.dflt vt) r))
      (match r.map fun y => AV.d (x.U.enc vt y) with
       | some v => bif b then ZdM [v, .d (.bool true)] else v
       | none => .d (bif b then .tup [z, .bool false] else z)) := by
  have h1 := fun y => ok.inj vt inj y hi
  have h2 := ok.dok vt hd
  rw [hz] at h2
  simp only [Option.some.injEq] at h2
  cases r with
  | none =>
    cases b
    · exact .d _ _ (by simp only [cond_false, ZkQ, h1, h2])
    · exact .d _ _ (by simp only [cond_true, ZkQ, TV.dv, dvL, h1, h2]; rfl)
  | some y =>
    cases b
    · exact .d _ _ (by simp only [cond_false, ZkQ, h1])
    · simp only [Option.map_some, cond_true, Ydl]
      exact .d _ _ (by simp only [ZkQ, TV.dv, dvL, h1]; rfl)
theorem look_ok (ok : x.U.Ok x.C) (r : Rel x.U ρ h0 s a) {t : Nat} {v k w : TV x.X} {vw : AV} {d : DV} {b : Bool} (hv : VRel x.U ρ v vw) (hk : k.dv x.U = some d) (h : Zz4 x t s.heap v k b = some w) :
    ∃ y, Zbf x.C t a.heap vw d b = some y ∧ VRel x.U ρ w y := by
  unfold Zz4 at h
  split at h
  · rename_i kt vt z hm hz
    split at h
    · rename_i key inj hp hinj
      cases hb : (x.U.isKey kt && x.U.dok vt && x.C.keyOk t (x.U.enc kt key)) with
      | false => rw [hb] at h; cases h
      | true =>
        rw [hb] at h
        simp only [cond_true] at h
        simp only [Bool.and_eq_true] at hb
        obtain ⟨⟨hik, hdok⟩, hko⟩ := hb
        have hdk := ok.prj _ _ _ hp
        rw [hk] at hdk
        simp only [Option.some.injEq] at hdk
        subst hdk
        have hz' := mapZ hm hz
        unfold Zbf
        rw [hz]
        simp only [hko, cond_true]
        split at h
        · rename_i r1 hr
          simp only [Option.some.injEq] at h
          subst h
          have hres := Zzn (ρ := ρ) ok hinj hz' hdok r1 b
          split at hr
          · simp only [Option.some.injEq] at hr
            subst hr
            rw [hv.isD rfl]
            exact ⟨_, rfl, hres⟩
          · rename_i kt' vt' es
            split at hr
            · rename_i es1 h1
              obtain ⟨he, h1⟩ := Zbr h1
              subst he
              simp only at h1
              subst h1
              split at hr
              · rename_i es2 h2
                obtain ⟨he, h2⟩ := Zbr h2
                subst he
                simp only at h2
                subst h2
                simp only [Option.some.injEq] at hr
                subst hr
                rw [hv.isD rfl]
                simp only [Zuo ok hik key (x.U.enc vt') es, Option.map_some]
                refine ⟨_, ?_, hres⟩
                cases Za5 (x.U.keq kt') key es <;> rfl
              · cases hr
            · cases hr
          · rename_i j
            split at hr
            · rename_i kt' vt' es hh
              split at hr
              · rename_i es1 h1
                obtain ⟨he, h1⟩ := Zbr h1
                subst he
                simp only at h1
                subst h1
                split at hr
                · rename_i es2 h2
                  obtain ⟨he, h2⟩ := Zbr h2
                  subst he
                  simp only at h2
                  subst h2
                  simp only [Option.some.injEq] at hr
                  subst hr
                  cases hv with
                  | d v d hd => simp [TV.dv] at hd
                  | mp _ i hj =>
                    obtain ⟨ao, h3, h4⟩ := Zgw r.heap hh hj
                    cases h4
                    simp only [h3, Zuo ok hik key (fun y => AV.d (x.U.enc vt' y)) es]
                    refine ⟨_, ?_, hres⟩
                    cases Za5 (x.U.keq kt') key es <;> rfl
                · cases hr
              · cases hr
            · cases hr
          · cases hr
        · cases h
    · cases h
  · cases h
theorem Zhj (ok : x.U.Ok x.C) {t : Nat} {c : Bool} {u v w : TV x.X} {uw vw : AV} {pr : PR (TV x.X)} (h1 : c = true → VRel x.U ρ u uw) (h2 : c = false → VRel x.U ρ v vw) (h : ZqZ x t c u v = some pr) (hi : PR.Is True pr w) :
    VRel x.U ρ w (bif c then uw else vw) := by
  have key : (c = true → ∀ z, VRel x.U ρ u z → VRel x.U ρ w z) ∧ (c = false → ∀ z, VRel x.U ρ v z → VRel x.U ρ w z) := by
    have same : ∀ {p q : TV x.X}, p.dv x.U = q.dv x.U → (q.dv x.U).isSome = true → ∀ z, VRel x.U ρ q z → VRel x.U ρ p z := by
      intro p q hpq hs z hz
      obtain ⟨d, hd⟩ := Option.isSome_iff_exists.1 hs
      rw [hz.isD hd]
      exact .d _ _ (by rw [hpq, hd])
    have refs : ∀ {j g e n g' e' n' : Nat}, g = g' → n = n' → ∀ z, VRel x.U ρ (.osl j g e n) z → VRel x.U ρ (.osl j g' e' n') z := by
      intro j g e n g' e' n' h1 h2 z hz
      subst h1 h2
      cases hz with
      | d v d hd => simp [TV.dv] at hd
      | osl _ i _ _ _ hj => exact .osl _ _ _ _ _ hj
    unfold ZqZ at h
    split at h <;> (try (cases h; done))
    · simp only [Option.some.injEq] at h; subst h; obtain ⟨b, hb, rfl⟩ := hi; have := hb trivial; simp only [Option.some.injEq] at this; subst this
      constructor <;> (rintro rfl; exact same rfl rfl)
    · rename_i k p k' q
      cases hk : decide (k = k') with
      | false => rw [hk] at h; cases h
      | true =>
        rw [hk] at h; have hk := of_decide_eq_true hk; subst hk
        simp only [cond_true, Option.some.injEq] at h; subst h; obtain ⟨b, hb, rfl⟩ := hi; have := hb trivial; simp only [Option.some.injEq] at this; subst this
        constructor <;> (rintro rfl; exact same rfl rfl)
    · simp only [Option.some.injEq] at h; subst h; obtain ⟨b, hb, rfl⟩ := hi; have := hb trivial; simp only [Option.some.injEq] at this; subst this
      constructor <;> (rintro rfl; exact same rfl rfl)
    · split at h
      · rename_i y hy
        obtain ⟨he, hy⟩ := Zbr hy
        subst he
        simp only at hy
        subst hy
        simp only [Option.some.injEq] at h; subst h; obtain ⟨b, hb, rfl⟩ := hi; have := hb trivial; simp only [Option.some.injEq] at this; subst this
        constructor <;> (rintro rfl; exact same rfl rfl)
      · cases h
    · split at h
      · rename_i y hy
        obtain ⟨he, hy⟩ := Zc5 hy
        subst he
        simp only at hy
        subst hy
        simp only [Option.some.injEq] at h; subst h; obtain ⟨b, hb, rfl⟩ := hi; have := hb trivial; simp only [Option.some.injEq] at this; subst this
        constructor <;> (rintro rfl; exact same rfl rfl)
      · cases h
    · simp only [Option.some.injEq] at h; subst h; obtain ⟨b, hb, rfl⟩ := hi; have := hb trivial; simp only [Option.some.injEq] at this; subst this
      constructor <;> (rintro rfl; exact same rfl rfl)
    · simp only [Option.some.injEq] at h; subst h; obtain ⟨b, hb, rfl⟩ := hi; have := hb trivial; simp only [Option.some.injEq] at this; subst this
      constructor <;> (rintro rfl; exact same rfl rfl)
    · simp only [Option.some.injEq] at h; subst h; simp only [PR.Is] at hi; subst hi; exact ⟨fun _ z h => h, fun _ z h => h⟩
    · simp only [Option.some.injEq] at h; subst h; simp only [PR.Is] at hi; subst hi; exact ⟨fun _ z h => h, fun _ z h => h⟩
    · simp only [Option.some.injEq] at h; subst h; simp only [PR.Is] at hi; subst hi; exact ⟨fun _ z h => h, fun _ z h => h⟩
    · rename_i j o j' o'
      cases hb : (Nat.beq j j' && Nat.beq o o') with
      | false => rw [hb] at h; cases h
      | true =>
        rw [hb] at h
        simp only [Bool.and_eq_true, Nat.beq_eq] at hb
        obtain ⟨rfl, rfl⟩ := hb
        simp only [cond_true, Option.some.injEq] at h; subst h; simp only [PR.Is] at hi; subst hi; exact ⟨fun _ z h => h, fun _ z h => h⟩
    · rename_i j j'
      cases hb : Nat.beq j j' with
      | false => rw [hb] at h; cases h
      | true =>
        rw [hb] at h
        rw [Nat.beq_eq] at hb
        subst hb
        simp only [cond_true, Option.some.injEq] at h; subst h; simp only [PR.Is] at hi; subst hi; exact ⟨fun _ z h => h, fun _ z h => h⟩
    · rename_i j g e n j' g' e' n'
      cases hb : (Nat.beq j j' && Nat.beq g g' && Nat.beq e e') with
      | false => rw [hb] at h; cases h
      | true =>
        rw [hb] at h
        simp only [Bool.and_eq_true, Nat.beq_eq] at hb
        obtain ⟨⟨rfl, rfl⟩, rfl⟩ := hb
        simp only [cond_true, Option.some.injEq] at h; subst h; obtain ⟨b, hb, rfl⟩ := hi; have := hb trivial; simp only [Option.some.injEq] at this; subst this
        constructor <;> (rintro rfl; exact refs rfl rfl)
  cases c with
  | true => exact key.1 rfl _ (h1 rfl)
  | false => exact key.2 rfl _ (h2 rfl)
theorem Zw3 : ∀ {cs : List (TV x.X)}, cs.all Zxa = true → ∃ ds, dvL x.U cs = some ds
  | [], _ => ⟨[], rfl⟩
  | c :: cs, h => by
    simp only [List.all_cons, Bool.and_eq_true] at h
    obtain ⟨ds, hd⟩ := Zw3 h.2
    have : ∃ d, c.dv x.U = some d := by
      have h1 := h.1
      cases c <;> simp only [Zxa] at h1 <;> (try (cases h1; done)) <;> exact ⟨_, rfl⟩
    obtain ⟨d, h1⟩ := this
    exact ⟨d :: ds, Zbv h1 hd⟩
theorem Ya1 (ok : x.U.Ok x.C) {v : TV x.X} (h : isD v = true) : ∃ d, v.dv x.U = some d ∧ d.cellOk = true := by
  cases v <;> simp only [isD] at h <;> (try (cases h; done)) <;> (try (exact ⟨_, rfl, rfl⟩))
  · exact ⟨_, rfl, ok.ok _ _⟩
  · obtain ⟨ds, hd⟩ := Zw3 h
    exact ⟨.agg ds, by simp only [TV.dv, hd, Option.map_some], rfl⟩
  · rename_i f caps
    cases caps with
    | nil => exact ⟨_, rfl, rfl⟩
    | cons => simp [isD] at h
theorem Zms (ok : x.U.Ok x.C) {v : TV x.X} {cs : List (TV x.X)} {d : DV} (hd : v.dv x.U = some d) (h : x.vcells v = some cs) : dvL x.U cs = some d.cells := by
  unfold Cx.vcells at h
  split at h
  · rename_i ty y
    split at h
    · rename_i f hf
      simp only [Option.some.injEq] at h
      subst h
      cases hd
      exact ok.cells _ _ _ hf
    · cases h
  · rename_i cs'
    simp only [Option.some.injEq] at h
    subst h
    simp only [TV.dv, Option.map_eq_some_iff] at hd
    obtain ⟨ds, h1, rfl⟩ := hd
    exact h1
  · cases h
  · simp only [Option.some.injEq] at h
    subst h
    rename_i n1 n2 n3
    have : d.cells = [d] := by
      cases v <;> simp only [TV.dv] at hd <;> (try (cases hd; done)) <;> (try (simp only [Option.some.injEq] at hd; subst hd; rfl)) <;> (try (exact absurd rfl (n1 _ _))) <;> (try (exact absurd rfl (n2 _))) <;> (try (exact absurd rfl (n3 _)))
      simp only [Option.map_eq_some_iff] at hd
      obtain ⟨ds, h1, rfl⟩ := hd
      rfl
    rw [this]
    exact Zbv hd rfl
theorem ZfT (d : DV) : (AV.d d).cells = d.cells.map .d := by cases d <;> rfl
theorem Ycs (ok : x.U.Ok x.C) (r : Rel x.U ρ h0 s a) {t : Nat} {p y : TX x.X} {pw : XV} {pr : PR (Option (TX x.X))} (hp : XRel x.U ρ p pw) (h : loadT x t s p = some pr) (hi : PR.Is True pr (some y)) :
    ∃ w, Zbu x.C t a pw = some w ∧ XRel x.U ρ y (.a w) := by
  have fin : ∀ {cs : List (TV x.X)} {ds : List DV}, dvL x.U cs = some ds → ∀ off, (x.ld t (cs.drop off)).map TX.a = some y → ∃ d, Zbo x.C t (ds.drop off) = some d ∧ XRel x.U ρ y (.a (.d d)) := by
    intro cs ds hd off hl
    simp only [Option.map_eq_some_iff] at hl
    obtain ⟨v, h1, rfl⟩ := hl
    obtain ⟨d, h2, h3⟩ := Zzd ok (Zhq hd off) h1
    exact ⟨d, h2, .a _ _ (.d _ _ h3)⟩
  cases hp with
  | a v w hv =>
    cases v <;> simp only [loadT] at h <;> (try (cases h; done))
    cases hv with
    | d v d hd => simp [TV.dv] at hd
    | ptr _ i _ hj =>
      split at h
      · rename_i cs hh
        simp only [Option.some.injEq] at h
        subst h
        simp only [PR.Is] at hi
        obtain ⟨ao, h3, h4⟩ := Zgw r.heap hh hj
        cases h4 with
        | var cs as hvr =>
          have hi := hi.symm
          simp only [Option.map_eq_some_iff] at hi
          obtain ⟨v, h1, rfl⟩ := hi
          obtain ⟨w, h5, h6⟩ := YaR ok (hvr.drop _) h1
          exact ⟨w, by simp only [Zbu, h3, h5], .a _ _ h6⟩
      · cases h
  | sp k off =>
    simp only [loadT] at h
    split at h
    · rename_i cs hb
      simp only [Option.some.injEq] at h
      subst h
      simp only [PR.Is] at hi
      obtain ⟨w, h1, h2⟩ := r.env _ _ hb
      cases h2 with
      | box cs ds hd =>
        obtain ⟨d, h3, h4⟩ := fin hd off hi.symm
        exact ⟨.d d, by simp only [Zbu, h1, h3, Option.map_some], h4⟩
    · cases h
  | fp cs ds hd =>
    simp only [loadT, Option.some.injEq] at h
    subst h
    simp only [PR.Is] at hi
    obtain ⟨d, h3, h4⟩ := fin hd 0 (by simpa using hi.symm)
    exact ⟨.d d, by simp only [Zbu, List.drop_zero] at h3 ⊢; simp only [h3, Option.map_some], h4⟩
  | ap j i g e n off hj =>
    simp only [loadT] at h
    split at h
    · rename_i g' ap e' xs hh
      cases hg : Nat.beq g' g with
      | false => rw [hg] at h; cases h
      | true =>
        rw [hg] at h
        simp only [cond_true] at h
        split at h
        · rename_i ys f hc hf
          obtain ⟨he, hc⟩ := Zc5 hc
          subst he
          simp only at hc
          subst hc
          simp only [Option.some.injEq] at h
          subst h
          obtain ⟨z, h1, h2⟩ := hi
          have h1 := h1 trivial
          have h2 := h2.symm
          simp only [Option.map_eq_some_iff] at h2
          obtain ⟨v, h5, rfl⟩ := h2
          obtain ⟨ao, h3, h4⟩ := Zgw r.heap hh hj
          cases h4
          obtain ⟨w, h6, h7⟩ := YaR (ρ := ρ) ok ((VRels.of_dvL (ok.cells _ _ z hf)).drop off) h5
          have hge := Nat.eq_of_beq_eq_true hg
          subst hge
          exact ⟨w, by simp only [Zbu, Zfs, h3, Nat.beq_refl, cond_true, List.getElem?_map, h1, Option.map_some, ZfT, h6], .a _ _ h7⟩
        · cases h
    · cases h
  | own => simp [loadT] at h
  | al => simp [loadT] at h
  | un => simp [loadT] at h
end
end Go.Tev
namespace Go.Tev
open Go.Abs
section
variable {x : Cx} {ρ : List Rf} {h0 : Base} {s : TSt x.X} {a : St}
theorem Zuy (ok : x.U.Ok x.C) (r : Rel x.U ρ h0 s a) {ch : ZbD} (hh : holds s ch) {f : Nat → Option (Nat × Nat)} : ∀ {ps : List (Nat × Operand)} {l : List (Nat × List (TV x.X))} {cells cs : List (TV x.X)} {ds : List DV},
    ZfM x s ch ps = some l → Zw8 f cells l = some cs → dvL x.U cells = some ds → ∃ vs ds', Zbh a ps = some vs ∧ ZgG f ds vs = some ds' ∧ dvL x.U cs = some ds'
  | [], l, cells, cs, ds, h1, h2, h3 => by
    simp only [ZfM, Option.some.injEq] at h1
    subst h1
    simp only [Zw8, Option.some.injEq] at h2
    subst h2
    exact ⟨[], ds, rfl, rfl, h3⟩
  | (i, o) :: ps, l, cells, cs, ds, h1, h2, h3 => by
    simp only [ZfM] at h1
    split at h1
    · rename_i v hv
      cases hd : isD v with
      | false => rw [hd] at h1; cases h1
      | true =>
        rw [hd] at h1
        simp only [cond_true] at h1
        split at h1
        · rename_i vs hvs
          split at h1
          · rename_i l' hl
            simp only [Option.some.injEq] at h1
            subst h1
            obtain ⟨d, hd1, hd2⟩ := Ya1 ok hd
            have hc := Zms ok hd1 hvs
            simp only [Zw8] at h2
            split at h2
            · rename_i off size hf
              cases hb : Nat.beq vs.length size with
              | false => rw [hb] at h2; cases h2
              | true =>
                rw [hb] at h2
                simp only [cond_true] at h2
                split at h2
                · rename_i c hsp
                  obtain ⟨ds1, h4, h5⟩ := Zod h3 hc hsp
                  obtain ⟨ws, ds', h6, h7, h8⟩ := Zuy ok r hh hl h2 h5
                  obtain ⟨_, h9, _⟩ := ZbT r hh hv hd1
                  refine ⟨(i, d) :: ws, ds', by simp only [Zbh, h9, h6], ?_, h8⟩
                  rw [ZbC hc] at hb
                  simp only [ZgG, hf, hb, hd2, Bool.and_self, cond_true, h4, h7]
                · cases h2
            · cases h2
          · cases h1
        · cases h1
    · cases h1
theorem ZuH (ok : x.U.Ok x.C) (r : Rel x.U ρ h0 s a) {ch : ZbD} (hh : holds s ch) {e sz : Nat} (hc : x.U.csz e = some sz) : ∀ {ps : List (Nat × Operand)} {k : Nat} {ys : List (x.X e)},
    Zrj x e k ps s ch = some ys → ∃ vs, Zbh a ps = some vs ∧ Zch sz k vs = some (ys.map (x.U.enc e))
  | [], k, ys, h => by
    simp only [Zrj, Option.some.injEq] at h
    subst h
    exact ⟨[], rfl, rfl⟩
  | (i, o) :: ps, k, ys, h => by
    simp only [Zrj] at h
    cases hb : Nat.beq i k with
    | false => rw [hb] at h; cases h
    | true =>
      rw [hb] at h
      simp only [cond_true] at h
      split at h
      · rename_i v hv
        split at h
        · rename_i y hy
          split at h
          · rename_i ys' hys
            simp only [Option.some.injEq] at h
            subst h
            have hd := ok.prj _ _ _ hy
            obtain ⟨_, h1, _⟩ := ZbT r hh hv hd
            obtain ⟨vs, h2, h3⟩ := ZuH ok r hh hc hys
            have hl : Nat.beq (x.U.enc e y).cells.length sz = true := by rw [Nat.beq_eq]; exact ok.csz _ _ _ hc
            exact ⟨(i, x.U.enc e y) :: vs, by simp only [Zbh, h1, h2], by simp only [Zch, hb, hl, ok.ok, Bool.and_self, cond_true, h3, List.map_cons]⟩
          · cases h
        · cases h
      · cases h
theorem ZoY {U : Uni} {e sz : Nat} (h : ZmY U e sz = true) : U.csz e = some sz := by
  unfold ZmY at h
  split at h
  · rename_i n hn; rw [hn, Nat.eq_of_beq_eq_true h]
  · cases h
theorem ZiP (ok : x.U.Ok x.C) (r : Rel x.U ρ h0 s a) {ch : ZbD} (hh : holds s ch) {t n : Nat} {ps : List (Nat × Operand)} {e : Nat} {ys : List (x.X e)} (h : Zgm x t n s ch ps = some ⟨e, ys⟩) :
    Zaz x.C t n a ps = some (ys.map (x.U.enc e)) := by
  unfold Zgm at h
  split at h
  · rename_i e' sz he hsz
    split at h
    · rename_i zs hz
      cases hb : (ZmY x.U e' sz && Nat.beq zs.length n && Nat.ble (n * sz) (2 ^ 24) && Nat.blt 0 (n * sz) && x.C.hasZero t) with
      | false => rw [hb] at h; cases h
      | true =>
        rw [hb] at h
        simp only [cond_true, Option.some.injEq, Sigma.mk.injEq] at h
        obtain ⟨rfl, h⟩ := h
        simp only [heq_eq_eq] at h
        subst h
        simp only [Bool.and_eq_true] at hb
        obtain ⟨⟨⟨⟨b1, b2⟩, b3⟩, b4⟩, b5⟩ := hb
        obtain ⟨vs, h2, h3⟩ := ZuH ok r hh (ZoY b1) hz
        simp only [Zaz, hsz, h2, h3, List.length_map, b2, b3, b4, b5, Bool.and_self, cond_true]
    · cases h
  · cases h
theorem Zl4 (U : Uni) (v : TV U.X) (vs : List (TV U.X)) : ZjP U [] (v :: vs) = none := rfl
theorem Zo8 (U : Uni) (t : Nat) (v : TV U.X) : ZjP U [t] [v] = U.prj t v := rfl
theorem Zlu (U : Uni) (t : Nat) : ZjP U [t] [] = none := rfl
theorem ZlE (U : Uni) (t : Nat) (v w : TV U.X) (vs : List (TV U.X)) : ZjP U [t] (v :: w :: vs) = none := rfl
theorem Zls (U : Uni) (t u : Nat) (r : List Nat) : ZjP U (t :: u :: r) [] = none := rfl
theorem Zov (U : Uni) (t u : Nat) (r : List Nat) (v : TV U.X) (vs : List (TV U.X)) : ZjP U (t :: u :: r) (v :: vs) = match U.prj t v with
    | some y => match ZjP U (u :: r) vs with
      | some ys => some (y, ys)
      | none => none
    | none => none := rfl
theorem Zfu {U : Uni} {v : TV U.X} {d : DV} (h : v.dv U = some d) : dvL U [v] = some [d] := by simp only [dvL, h]
theorem ZjE (ok : x.U.Ok x.C) (ts : List Nat) : ∀ (vs : List (TV x.X)) (y : PX x.X ts), ZjP x.U ts vs = some y → ∃ ds, dvL x.U vs = some ds := by
  induction ts with
  | nil =>
    intro vs y h
    cases vs with
    | nil => exact ⟨[], by simp only [dvL]⟩
    | cons v vs => rw [Zl4] at h; cases h
  | cons t r ih =>
    intro vs y h
    cases r with
    | nil =>
      cases vs with
      | nil => rw [Zlu] at h; cases h
      | cons v vs =>
        cases vs with
        | nil =>
          rw [Zo8] at h
          exact ⟨_, Zfu (ok.prj t v y h)⟩
        | cons => rw [ZlE] at h; cases h
    | cons u r =>
      cases vs with
      | nil => rw [Zls] at h; cases h
      | cons v vs =>
        rw [Zov] at h
        cases hz : x.U.prj t v with
        | none => rw [hz] at h; cases h
        | some z =>
          rw [hz] at h
          cases hzs : ZjP x.U (u :: r) vs with
          | none => rw [hzs] at h; cases h
          | some zs =>
            obtain ⟨ds, hd⟩ := ih vs zs hzs
            exact ⟨_, Zbv (ok.prj t v z hz) hd⟩
theorem ZzK (ak : List AK) : ∀ (vs ws : List (TV x.X)), ZfP ak vs = some ws → (∃ ds, dvL x.U ws = some ds) → ∃ ds, dvL x.U vs = some ds := by
  induction ak with
  | nil =>
    intro vs ws h _
    cases vs with
    | nil => exact ⟨[], rfl⟩
    | cons => simp [ZfP] at h
  | cons k r ih =>
    intro vs ws h hd
    cases vs with
    | nil => cases k <;> simp [ZfP] at h
    | cons v vs =>
      cases k with
      | ty t =>
        simp only [ZfP] at h
        cases hw : ZfP r vs with
        | none => rw [hw] at h; cases h
        | some ws' =>
          rw [hw] at h
          simp only [Option.some.injEq] at h
          subst h
          obtain ⟨ds, hd⟩ := hd
          obtain ⟨d, ds', h1, h2, rfl⟩ := Zcv hd
          obtain ⟨es, h3⟩ := ih vs ws' hw ⟨ds', h2⟩
          exact ⟨_, Zbv h1 h3⟩
      | fn f =>
        cases v with
        | fn f' caps =>
          cases caps with
          | cons => simp [ZfP] at h
          | nil =>
            simp only [ZfP] at h
            cases hb : Nat.beq f f' with
            | false => rw [hb] at h; cases h
            | true =>
              rw [hb] at h
              obtain ⟨es, h3⟩ := ih vs ws h hd
              exact ⟨_, Zbv (d := .fn f' []) rfl h3⟩
        | _ => simp [ZfP] at h
theorem Zwt (ok : x.U.Ok x.C) {ak : List AK} {vs : List (TV x.X)} {y : PX x.X (AK.tys ak)} (h : ZzJ x.U ak vs = some y) : ∃ ds, dvL x.U vs = some ds := by
  unfold ZzJ at h
  split at h
  · rename_i ws hw
    exact ZzK _ _ _ hw (ZjE ok _ _ _ h)
  · cases h
theorem Zox (ok : x.U.Ok x.C) {call : Zaa} {f : Nat} {vs : List (TV x.X)} {pr : PR (TV x.X)} {w : TV x.X} : ∀ {T : List (Nat × TCall x.X)}, (∀ p ∈ T, Zag x.U call p.1 p.2) → Zu2 x f vs T = some pr → PR.Is True pr w →
    ∃ ds d, dvL x.U vs = some ds ∧ w.dv x.U = some d ∧ ZcL call true f ds = some d
  | [], _, h, _ => by simp [Zu2] at h
  | (f', c) :: T, hT, h, hi => by
    simp only [Zu2] at h
    cases hb : Nat.beq f f' with
    | false => rw [hb] at h; exact Zox ok (fun p hp => hT p (List.mem_cons_of_mem _ hp)) h hi
    | true =>
      rw [hb] at h
      rw [Nat.beq_eq] at hb
      subst hb
      simp only [cond_true] at h
      split at h
      · rename_i y hy
        split at h
        · rename_i g hg
          simp only [Option.some.injEq] at h
          subst h
          obtain ⟨z, h1, rfl⟩ := hi
          obtain ⟨ds, hd⟩ := Zwt ok hy
          obtain ⟨d, h2, h3⟩ := hT _ (List.mem_cons_self) vs y z ds g hy hd (h1 trivial) hg
          exact ⟨ds, d, hd, h2, ZlZ h3⟩
        · cases h
      · exact Zox ok (fun p hp => hT p (List.mem_cons_of_mem _ hp)) h hi
theorem Zvl (ok : x.U.Ok x.C) (ts : List Nat) : ∀ (g : PX x.X ts → List (TV x.X)) (y : PX x.X ts), Zgt x.U ts = some g → ts.all x.U.noMap = true → ∃ ds, dvL x.U (g y) = some ds ∧ DV.noMapL ds = true := by
  induction ts with
  | nil => intro g y h _; simp only [Zgt, Option.some.injEq] at h; subst h; exact ⟨[], rfl, rfl⟩
  | cons t r ih =>
    intro g y h hn
    rw [List.all_cons, Bool.and_eq_true] at hn
    cases r with
    | nil =>
      simp only [Zgt] at h
      cases hf : x.U.inj t with
      | none => rw [hf] at h; cases h
      | some f =>
        rw [hf] at h
        simp only [Option.some.injEq] at h
        subst h
        have h1 := ok.inj t f y hf
        exact ⟨_, Zbv h1 rfl, by simp only [DV.noMapL]; rw [ok.noMap t y hn.1]; rfl⟩
    | cons u r =>
      simp only [Zgt] at h
      cases hf : x.U.inj t with
      | none => rw [hf] at h; cases h
      | some f =>
        rw [hf] at h
        cases hg : Zgt x.U (u :: r) with
        | none => rw [hg] at h; cases h
        | some g' =>
          rw [hg] at h
          simp only [Option.some.injEq] at h
          subst h
          obtain ⟨ds, h1, h2⟩ := ih g' y.2 hg hn.2
          exact ⟨_, Zbv (ok.inj t f y.1 hf) h1, by simp only [DV.noMapL, h2]; rw [ok.noMap t y.1 hn.1]; rfl⟩
theorem Zu0 (ok : x.U.Ok x.C) {ts : List Nat} {g : PX x.X ts → TV x.X} {y : PX x.X ts} {d : DV} (h : ZuO x.U ts = some g) (hn : ts.all x.U.noMap = true) (hd : (g y).dv x.U = some d) : d.noMap = true := by
  cases ts with
  | nil =>
    simp only [ZuO, Option.some.injEq] at h
    subst h
    cases hd
    rfl
  | cons t r =>
    cases r with
    | nil =>
      have h : x.U.inj t = some g := h
      have h1 := ok.inj t g y h
      rw [h1] at hd
      simp only [Option.some.injEq] at hd
      subst hd
      simp only [List.all_cons, List.all_nil, Bool.and_true] at hn
      exact ok.noMap t y hn
    | cons u r =>
      simp only [ZuO] at h
      cases hf : Zgt x.U (t :: u :: r) with
      | none => rw [hf] at h; cases h
      | some f =>
        rw [hf] at h
        simp only [Option.some.injEq] at h
        subst h
        obtain ⟨ds, h1, h2⟩ := Zvl ok _ f y hf hn
        simp only [TV.dv, h1, Option.map_some, Option.some.injEq] at hd
        subst hd
        exact h2
theorem Zii (ok : x.U.Ok x.C) {call : Zaa} {f k : Nat} {vs : List (TV x.X)} {pr : PR (TV x.X)} {w : TV x.X} : ∀ {T : List (Nat × TCall x.X)}, (∀ p ∈ T, Zag x.U call p.1 p.2) → Zhg x f k vs T = some pr → PR.Is True pr w →
    ∃ ds d, dvL x.U vs = some ds ∧ w.dv x.U = some d ∧ ZcL call false f ds = some d ∧ Zr7 k d = true
  | [], _, h, _ => by simp [Zhg] at h
  | (f', c) :: T, hT, h, hi => by
    simp only [Zhg] at h
    cases hb : Nat.beq f f' with
    | false => rw [hb] at h; exact Zii ok (fun p hp => hT p (List.mem_cons_of_mem _ hp)) h hi
    | true =>
      rw [hb] at h
      rw [Nat.beq_eq] at hb
      subst hb
      simp only [cond_true] at h
      split at h
      · rename_i y hy
        split at h
        · rename_i g hg
          cases hl : (c.dir && Zxw x k c.rts) with
          | false => rw [hl] at h; cases h
          | true =>
            rw [hl] at h
            simp only [Bool.and_eq_true] at hl
            obtain ⟨hdir, hl⟩ := hl
            simp only [cond_true, Option.some.injEq] at h
            subst h
            obtain ⟨z, h1, rfl⟩ := hi
            obtain ⟨ds, hd⟩ := Zwt ok hy
            obtain ⟨d, h2, h3⟩ := hT _ (List.mem_cons_self) vs y z ds g hy hd (h1 trivial) hg
            refine ⟨ds, d, hd, h2, by simpa [hdir] using h3, ?_⟩
            match k, hl with
            | 0, _ => rfl
            | 1, hl => exact Zu0 ok hg hl h2
            | k + 2, hl => simp [Zxw] at hl
        · cases h
      · exact Zii ok (fun p hp => hT p (List.mem_cons_of_mem _ hp)) h hi
theorem Ybj {fv : TV x.X} {f : Nat} {caps : List (TV x.X)} {w : AV} (hv : VRel x.U ρ fv w) (h : Ybd fv = some (f, caps)) : ∃ as, Zlm w = some (f, as) ∧ VRels x.U ρ caps as := by
  cases fv <;> simp only [Ybd] at h <;> (try (cases h; done))
  simp only [Option.some.injEq, Prod.mk.injEq] at h
  obtain ⟨rfl, rfl⟩ := h
  cases hv with
  | d v d hd =>
    simp only [TV.dv, Option.map_eq_some_iff] at hd
    obtain ⟨ds, h1, rfl⟩ := hd
    exact ⟨_, rfl, VRels.of_dvL h1⟩
  | fn _ _ as hl hh =>
    refine ⟨as, ?_, hl, hh⟩
    unfold ZvL
    cases had : ZeI as with
    | none => rfl
    | some ds =>
      have : as = ds.map .d := by
        clear hh hl
        unfold ZeI at had
        induction as generalizing ds with
        | nil => simp only [mapO, Option.some.injEq] at had; subst had; rfl
        | cons b as ih =>
          simp only [mapO] at had
          cases b <;> simp only [AV.toD] at had <;> (try (cases had; done))
          split at had
          · rename_i ys hys
            simp only [Option.some.injEq] at had
            subst had
            rw [ih ys hys]; rfl
          · cases had
      subst this
      rfl
theorem Zww (r : Rel x.U ρ h0 s a) : ∀ {vs ws : List (TV x.X)} {as : List AV} {k : Nat} {ds : List DV}, VRels x.U ρ vs as → Zxm x s.heap vs = some (ws, k) → dvL x.U ws = some ds → ZdR a.heap as = some (ds, k)
  | [], ws, as, k, ds, hv, h, hd => by
    simp only [Zxm, Option.some.injEq, Prod.mk.injEq] at h
    obtain ⟨rfl, rfl⟩ := h
    rw [Zg1 hd]
    cases as with
    | nil => rfl
    | cons => have := hv.1; simp at this
  | v :: vs, ws, as, k, ds, hv, h, hd => by
    simp only [Zxm] at h
    split at h
    · rename_i y m hy
      split at h
      · rename_i ys n hys
        simp only [Option.some.injEq, Prod.mk.injEq] at h
        obtain ⟨rfl, rfl⟩ := h
        obtain ⟨d, ds', h1, h2, rfl⟩ := Zcv hd
        cases as with
        | nil => have := hv.1; simp at this
        | cons b as =>
          have hb := hv.2 0 v b rfl rfl
          have hr : VRels x.U ρ vs as := ⟨by simpa using hv.1, fun k v a h1 h2 => hv.2 (k + 1) v a (by simpa using h1) (by simpa using h2)⟩
          have ih := Zww r hr hys h2
          have : Zqs a.heap b = some (d, m) := by
            unfold Ydt at hy
            split at hy <;> (try (cases hy; done))
            · rename_i j
              split at hy
              · rename_i kt vt es hh
                simp only [Option.some.injEq, Prod.mk.injEq] at hy
                obtain ⟨rfl, rfl⟩ := hy
                cases hb with
                | d v d hd => simp [TV.dv] at hd
                | mp _ i hj =>
                  obtain ⟨ao, h3, h4⟩ := Zgw r.heap hh hj
                  cases h4
                  cases h1
                  have : mapO (fun e => e.2.toD.map fun v => (e.1, v)) (es.map fun p => (x.U.enc kt p.1, AV.d (x.U.enc vt p.2))) = some (es.map fun p => (x.U.enc kt p.1, x.U.enc vt p.2)) := by
                    clear h3 hh hd
                    induction es with
                    | nil => rfl
                    | cons p es ih => simp only [List.map_cons, mapO, AV.toD, Option.map_some] at ih ⊢; rw [ih]
                  simp only [Zqs, h3, this, Option.map_some]
              · cases hy
            · simp only [Option.some.injEq, Prod.mk.injEq] at hy
              obtain ⟨rfl, rfl⟩ := hy
              rw [hb.isD h1]
              rfl
          simp only [ZdR, this, ih]
      · cases h
    · cases h
end
end Go.Tev
namespace Go.Tev
open Go.Abs
section
variable {x : Cx} {ρ : List Rf} {h0 : Base} {s : TSt x.X} {a : St}
theorem Zi0 {X : Nat → Type} {q : Option (PR (TV X))} {pr : PR (Option (TX X))} {y : TX X} (h : prV q = some pr) (hi : PR.Is True pr (some y)) : ∃ r v, q = some r ∧ PR.Is True r v ∧ y = .a v := by
  cases q with
  | none => cases h
  | some r =>
    simp only [prV, Option.some.injEq] at h
    subst h
    obtain ⟨v, h1, h2⟩ := PR.Is_map.1 hi
    simp only [Option.some.injEq] at h2
    exact ⟨r, v, rfl, h1, h2⟩
theorem Zt6 {X : Nat → Type} {q : Option (TX X)} {pr : PR (Option (TX X))} {y : TX X} (h : prO q = some pr) (hi : PR.Is True pr (some y)) : q = some y := by
  cases q with
  | none => cases h
  | some r =>
    simp only [prO, Option.some.injEq] at h
    subst h
    exact hi.symm
theorem ZwX {X : Nat → Type} {q : Option (TV X)} {pr : PR (Option (TX X))} {y : TX X} (h : prA q = some pr) (hi : PR.Is True pr (some y)) : ∃ v, q = some v ∧ y = .a v := by
  cases q with
  | none => cases h
  | some r =>
    simp only [prA, Option.some.injEq] at h
    subst h
    simp only [PR.Is, Option.some.injEq] at hi
    exact ⟨r, rfl, hi⟩
theorem ZtD {o : Operand} {w : AV} (h : opA a o = some w) : opd a o = some (.a w) := by
  unfold opA at h
  split at h
  · rename_i v' h4
    simp only [Option.some.injEq] at h
    rw [h4, h]
  · cases h
theorem Zo4 : ∀ {os : List Operand} {ds : List DV}, Za4 a os = some (ds.map .d) → mapO (opD a) os = some ds
  | [], ds, h => by
    simp only [Za4, Option.some.injEq] at h
    cases ds with
    | nil => rfl
    | cons => simp at h
  | o :: os, ds, h => by
    simp only [Za4] at h
    cases h1 : opA a o with
    | none => rw [h1] at h; cases h
    | some v =>
      rw [h1] at h
      simp only at h
      cases h2 : Za4 a os with
      | none => rw [h2] at h; cases h
      | some vs =>
        rw [h2] at h
        simp only [Option.some.injEq] at h
        cases ds with
        | nil => simp at h
        | cons d ds =>
          simp only [List.map_cons, List.cons.injEq] at h
          obtain ⟨rfl, rfl⟩ := h
          simp only [mapO, Zo4 h2, opD, ZtD h1]
theorem ZrQ {X : Nat → Type} {s : TSt X} {ch : ZbD} (hh : holds s ch) {c : Operand} {cb : Bool} (w : Bool) (h : Zfq s ch c = some (.b cb)) (hw : cb = w) (hk : Yal s c = true) : holds s (Yeu w c ch) := by
  cases c with
  | tmp t =>
    intro p hp
    rcases List.mem_cons.1 hp with rfl | hp
    · simp only [Yal] at hk ⊢
      cases ht : Zad s.tmp t with
      | none => rw [ht] at hk; cases hk
      | some e =>
        refine ⟨e.g, ?_⟩
        simp only [Zfq, Zv3, Zyt, ht] at h
        cases hs : YcF e.g ch with
        | false => rw [hs] at h; simp at h
        | true =>
          rw [hs] at h
          simp only [cond_true] at h
          obtain ⟨g, y⟩ := e
          cases y <;> simp only [TX.copy, TX.flat, Option.some.injEq] at h <;> (try (cases h; done))
          subst h
          subst hw
          rfl
    · exact hh p hp
  | _ => exact hh
theorem Ycf (ok : x.U.Ok x.C) {call : Zaa} (hT : ∀ p ∈ x.T, Zag x.U call p.1 p.2) (r : Rel x.U ρ h0 s a) {fa : FA} {ch : ZbD} (hh : holds s ch) {o : Oper} {pr : PR (Option (TX x.X))} {y : TX x.X}
    (h : ZkN x fa s ch o = some pr) (hi : PR.Is True pr (some y)) : ∃ z, ZaZ x.C call fa o a = some z ∧ XRel x.U ρ y z := by
  obtain ⟨dst, op, ty, pos, after, guard⟩ := o
  cases op with
  | move v =>
    simp only [ZkN] at h
    simp only [ZaZ]
    cases ht : Zcl fa dst with
    | true => rw [ht] at h; cases h
    | false =>
      rw [ht] at h
      simp only [cond_false] at h ⊢
      split at h
      · rename_i y' hy
        obtain ⟨z, h1, h2⟩ := Zts r hh hy
        exact ⟨z, h1, ZjC ok h2 (Zt6 h hi)⟩
      · cases h
  | assign v =>
    simp only [ZkN] at h
    simp only [ZaZ]
    cases ht : Zcl fa dst with
    | true => rw [ht] at h; cases h
    | false =>
      rw [ht] at h
      simp only [cond_false] at h ⊢
      split at h
      · rename_i y' hy
        obtain ⟨z, h1, h2⟩ := Zts r hh hy
        exact ⟨z, h1, ZjC ok h2 (Zt6 h hi)⟩
      · cases h
  | pick c p q =>
    simp only [ZkN] at h
    simp only [ZaZ]
    cases hin : Yal s c with
    | false => rw [hin] at h; cases h
    | true =>
      rw [hin] at h
      simp only [cond_true] at h
      split at h
      · rename_i cb va vb hc hp hq
        obtain ⟨q1, v, h1, h2, rfl⟩ := Zi0 h hi
        obtain ⟨_, hcd, _⟩ := ZbT r hh hc (d := .bool cb) rfl
        rw [hcd]
        cases cb with
        | true =>
          obtain ⟨w, h3, h4⟩ := ZbW r (ZrQ hh true hc rfl hin) hp
          refine ⟨.a w, by simpa using ZtD h3, .a _ _ ?_⟩
          exact Zhj ok (uw := w) (vw := w) (fun _ => h4) (fun h => by cases h) h1 h2
        | false =>
          obtain ⟨w, h3, h4⟩ := ZbW r (ZrQ hh false hc rfl hin) hq
          refine ⟨.a w, by simpa using ZtD h3, .a _ _ ?_⟩
          exact Zhj ok (uw := w) (vw := w) (fun h => by cases h) (fun _ => h4) h1 h2
      · cases h
  | build t ps =>
    simp only [ZkN] at h
    simp only [ZaZ]
    split at h
    · rename_i z f hz hf hag
      split at h
      · rename_i l hl
        split at h
        · rename_i cs hcs
          split at h
          · rename_i w hw
            simp only [Option.some.injEq] at h
            subst h
            simp only [PR.Is, Option.some.injEq] at hi
            subst hi
            obtain ⟨z0, k1, k2, k3, k4⟩ := ok.zcells _ _ hz
            have k4 := k4 hag
            obtain ⟨vs, ds', k5, k6, k7⟩ := Zuy ok r hh hl hcs k2
            have k8 := Zwj ok hw k7
            refine ⟨.a (.d (.agg ds')), ?_, .a _ _ (.d _ _ (by simp only [TV.dv, k8]))⟩
            rw [k4] at k1
            simp only [ZcB, k1, hf, k5, k6, oD]
          · cases h
        · cases h
      · cases h
    · cases h
  | buildSlice t n ps =>
    simp only [ZkN] at h
    simp only [ZaZ]
    cases ht : Zcl fa dst with
    | true => rw [ht] at h; cases h
    | false =>
      rw [ht] at h
      simp only [cond_false] at h ⊢
      split at h
      · rename_i e ys hb
        simp only [Option.some.injEq] at h
        subst h
        simp only [PR.Is, Option.some.injEq] at hi
        subst hi
        rw [ZiP ok r hh hb]
        exact ⟨_, rfl, .a _ _ (.d _ _ rfl)⟩
      · cases h
  | load t p =>
    simp only [ZkN] at h
    simp only [ZaZ]
    split at h
    · rename_i q hq
      obtain ⟨z, h1, h2⟩ := ZgN r hh hq
      obtain ⟨w, h3, h4⟩ := Ycs ok r h2 h hi
      exact ⟨.a w, by simp only [h1, h3, oA], h4⟩
    · cases h
  | nilCheck v =>
    simp only [ZkN] at h
    simp only [ZaZ]
    split at h
    · rename_i q hq
      obtain ⟨z, h1, h2⟩ := ZgN r hh hq
      obtain ⟨w, h3, h4⟩ := ZyK h2 (Zt6 h hi)
      exact ⟨w, by simp only [h1, h3], h4⟩
    · cases h
  | binOp op t p q t' =>
    simp only [ZkN] at h
    simp only [ZaZ]
    split at h
    · rename_i u v hu hv
      obtain ⟨r1, w, h1, h2, rfl⟩ := Zi0 h hi
      obtain ⟨uw, h3, h4⟩ := ZbW r hh hu
      obtain ⟨vw, h5, h6⟩ := ZbW r hh hv
      obtain ⟨d, h7, h8⟩ := Yc7 ok h4 h6 h1 h2
      exact ⟨.a (.d d), by simp only [h3, h5, h7, oD], .a _ _ (.d _ _ h8)⟩
    · cases h
  | unOp op t p =>
    simp only [ZkN] at h
    simp only [ZaZ]
    split at h
    · rename_i u hu
      obtain ⟨r1, w, h1, h2, rfl⟩ := Zi0 h hi
      obtain ⟨uw, h3, h4⟩ := ZbW r hh hu
      obtain ⟨e, d, rfl, h7, h8⟩ := Yed h4 h1 h2
      have : opD a p = some e := by simp only [opD, ZtD h3]
      exact ⟨.a (.d d), by simp only [this, h7, oD], .a _ _ (.d _ _ h8)⟩
    · cases h
  | convert s' t p =>
    simp only [ZkN] at h
    simp only [ZaZ]
    split at h
    · rename_i u hu
      obtain ⟨r1, w, h1, h2, rfl⟩ := Zi0 h hi
      obtain ⟨uw, h3, h4⟩ := ZbW r hh hu
      obtain ⟨d, h7, h8⟩ := Yce ok r h4 h1 h2
      exact ⟨.a (.d d), by simp only [h3, h7, oD], .a _ _ (.d _ _ h8)⟩
    · cases h
  | makeFunc fn first captured =>
    cases fn <;> simp only [ZkN] at h <;> (try (cases h; done))
    simp only [ZaZ]
    split at h
    · rename_i vs hf hv
      simp only [Option.some.injEq] at h
      subst h
      simp only [PR.Is, Option.some.injEq] at hi
      subst hi
      obtain ⟨ws, h1, h2⟩ := ZjF r hh hv
      exact ⟨_, by simp only [hf, h1], .a _ _ (.fn _ _ _ h2.1 h2.2)⟩
    · cases h
  | slice t p lo hi' m =>
    cases m with
    | some m => simp [ZkN] at h
    | none =>
      simp only [ZkN] at h
      simp only [ZaZ]
      split at h
      · rename_i v l hg hv hl hhg
        obtain ⟨r1, w, h1, h2, rfl⟩ := Zi0 h hi
        have : ∃ e, v.dv x.U = some e := by
          unfold ZtB at h1
          split at h1
          · exact ⟨_, rfl⟩
          · exact ⟨_, rfl⟩
          · cases h1
        obtain ⟨e, he⟩ := this
        obtain ⟨_, h3, _⟩ := ZbT r hh hv he
        obtain ⟨dl, dh, d, k1, k2, k3, k4⟩ := ZzA ok r hh he hl hhg h1 h2
        exact ⟨.a (.d d), by simp only [h3, k1, k2, k3, oD], .a _ _ (.d _ _ k4)⟩
      · cases h
  | fieldAddr t p f =>
    simp only [ZkN] at h
    simp only [ZaZ]
    split at h
    · rename_i q hq
      obtain ⟨z, h1, h2⟩ := ZgN r hh hq
      obtain ⟨w, h3, h4⟩ := Zrh h2 (Zt6 h hi)
      exact ⟨w, by simp only [h1, h3], h4⟩
    · cases h
  | field t p f =>
    simp only [ZkN] at h
    simp only [ZaZ]
    split at h
    · rename_i v hv
      obtain ⟨w, h1, rfl⟩ := ZwX h hi
      have : ∃ e, v.dv x.U = some e := by
        unfold ZtN at h1
        split at h1
        · cases h1
        · split at h1
          · exact ⟨_, rfl⟩
          · rename_i fd _ cs
            cases hd : (TV.g cs : TV x.X).dv x.U with
            | some e => exact ⟨e, rfl⟩
            | none =>
              obtain ⟨u, hu, h5⟩ := ZbW r hh hv
              cases h5 with
              | d v d h6 => rw [hd] at h6; cases h6
          · cases h1
      obtain ⟨e, he⟩ := this
      obtain ⟨_, h3, _⟩ := ZbT r hh hv he
      obtain ⟨d, h4, h5⟩ := Zyx ok he h1
      exact ⟨.a (.d d), by simp only [h3, h4, oD], .a _ _ (.d _ _ h5)⟩
    · cases h
  | indexAddr t p i =>
    simp only [ZkN] at h
    simp only [ZaZ]
    split at h
    · rename_i v k n hv hn
      obtain ⟨vw, h1, h2⟩ := ZbW r hh hv
      obtain ⟨_, h3, _⟩ := ZbT r hh hn (d := .int k n) rfl
      obtain ⟨w, h4, h5⟩ := ZqY ok r h2 h hi
      exact ⟨w, by simp only [h1, h3, h4], h5⟩
    · cases h
  | index t p i =>
    simp only [ZkN] at h
    simp only [ZaZ]
    split at h
    · rename_i v k n hv hn
      obtain ⟨r1, w, h1, h2, rfl⟩ := Zi0 h hi
      have : ∃ e, v.dv x.U = some e := by
        unfold Zuh at h1
        split at h1
        · exact ⟨_, rfl⟩
        · cases h1
      obtain ⟨e, he⟩ := this
      obtain ⟨_, h3, _⟩ := ZbT r hh hn (d := .int k n) rfl
      obtain ⟨_, h4, _⟩ := ZbT r hh hv he
      obtain ⟨d, h5, h6⟩ := ZzB he h1 h2
      exact ⟨.a (.d d), by simp only [h3, h4, h5, oD], .a _ _ (.d _ _ h6)⟩
    · cases h
  | lookup t p k b =>
    simp only [ZkN] at h
    simp only [ZaZ]
    split at h
    · rename_i m key hm hk
      obtain ⟨w, h1, rfl⟩ := ZwX h hi
      have : ∃ e, key.dv x.U = some e := by
        unfold Zz4 at h1
        split at h1
        · split at h1
          · rename_i hp _; exact ⟨_, ok.prj _ _ _ hp⟩
          · cases h1
        · cases h1
      obtain ⟨e, he⟩ := this
      obtain ⟨mw, h2, h3⟩ := ZbW r hh hm
      obtain ⟨_, h4, _⟩ := ZbT r hh hk he
      obtain ⟨z, h5, h6⟩ := look_ok ok r h3 he h1
      exact ⟨.a z, by simp only [h2, h4, h5, oA], .a _ _ h6⟩
    · cases h
  | extract p i =>
    simp only [ZkN] at h
    simp only [ZaZ]
    split at h
    · rename_i v hv
      obtain ⟨w, h1, rfl⟩ := ZwX h hi
      obtain ⟨vw, h2, h3⟩ := ZbW r hh hv
      obtain ⟨z, h4, h5⟩ := ZvR h3 h1
      exact ⟨.a z, by simp only [h2, h4, oA], .a _ _ h5⟩
    · cases h
  | call c =>
    obtain ⟨callee, args, types⟩ := c
    cases callee with
    | builtin b =>
      simp only [ZkN] at h
      simp only [ZaZ]
      obtain ⟨r1, w, h1, h2, rfl⟩ := Zi0 h hi
      unfold ZtV at h1
      split at h1
      · split at h1
        · rename_i o t ho ht
          split at h1
          · rename_i v hv
            obtain ⟨vw, h3, h4⟩ := ZbW r hh hv
            obtain ⟨d, h5, h6⟩ := Ydf r h4 h1 h2
            exact ⟨.a (.d d), by simp only [ZaP, ho, ht, h3, h5, oD], .a _ _ (.d _ _ h6)⟩
          · cases h1
        · cases h1
      · split at h1
        · rename_i vs hv
          obtain ⟨ws, h3, h4⟩ := ZjF r hh hv
          obtain ⟨ds, d, rfl, h6, h7⟩ := Yco h4 h1 h2
          exact ⟨.a (.d d), by simp only [ZaP, Zo4 h3, h6, oD], .a _ _ (.d _ _ h7)⟩
        · cases h1
      · split at h1
        · rename_i vs hv
          obtain ⟨ws, h3, h4⟩ := ZjF r hh hv
          obtain ⟨ds, d, rfl, h6, h7⟩ := YcJ h4 h1 h2
          exact ⟨.a (.d d), by simp only [ZaP, Zo4 h3, h6, oD], .a _ _ (.d _ _ h7)⟩
        · cases h1
      · cases h1
    | invoke => simp [ZkN] at h
    | value g =>
      simp only [ZkN] at h
      simp only [ZaZ]
      split at h
      · rename_i fv vs hg hv
        obtain ⟨fw, h1, h2⟩ := ZbW r hh hg
        obtain ⟨ws, h3, h4⟩ := ZjF r hh hv
        split at h
        · rename_i f caps hf
          obtain ⟨as, h5, h6⟩ := Ybj h2 hf
          have h7 := h4.append h6
          simp only [h1, h3, h5]
          cases hl : Za0 fa.lend dst with
          | true =>
            rw [hl] at h
            simp only [cond_true] at h ⊢
            split at h
            · rename_i us k hk
              obtain ⟨r1, w, k1, k2, rfl⟩ := Zi0 h hi
              obtain ⟨ds, d, k3, k4, k5, k6⟩ := Zii ok hT k1 k2
              have k7 := Zww r h7 hk k3
              rw [k7]
              simp only [k5, k6, cond_true]
              exact ⟨_, rfl, .a _ _ (.d _ _ k4)⟩
            · cases h
          | false =>
            rw [hl] at h
            simp only [cond_false] at h ⊢
            cases hz : Za0 fa.frz dst with
            | false => rw [hz] at h; cases h
            | true =>
              rw [hz] at h
              simp only [cond_true] at h
              obtain ⟨r1, w, k1, k2, rfl⟩ := Zi0 h hi
              obtain ⟨ds, d, k3, k4, k5⟩ := Zox ok hT k1 k2
              rw [h7.dv k3, Zhf]
              simp only [k5, oD]
              exact ⟨_, rfl, .a _ _ (.d _ _ k4)⟩
        · cases h
      · cases h
  | _ => simp [ZkN] at h
end
end Go.Tev
namespace Go.Tev
open Go.Abs
section
variable {x : Cx} {ρ : List Rf} {h0 : Base} {s s' : TSt x.X} {a : St}
def Yap {X : Nat → Type} (k : Nat) : TX X → Bool
  | .sp k' _ => Nat.beq k' k
  | _ => false
def ZoW (k : Nat) : XV → Bool
  | .sp k' _ => Nat.beq k' k
  | _ => false
theorem ZfF {X : Nat → Type} (k t : Nat) (e : TE X) (r : List (Nat × TE X)) : Zi6 k ((t, e) :: r) = (!Yap k e.x && Zi6 k r) := by
  obtain ⟨g, y⟩ := e
  cases y <;> simp only [Zi6, Yap] <;> (try simp)
theorem Zg0 (k t : Nat) (e : XV) (r : List (Nat × XV)) : Zju k ((t, e) :: r) = (!ZoW k e && Zju k r) := by
  cases e <;> simp only [Zju, ZoW] <;> (try simp)
theorem ZmL {X : Nat → Type} (k t : Nat) (e : TE X) : ∀ (l : List (Nat × TE X)), (∀ e', Zad l t = some e' → Yap k e'.x = false) → Zi6 k (ins l t e) = (!Yap k e.x && Zi6 k l)
  | [], _ => by simp only [ins, ZfF, Zi6]
  | (t', e') :: r, h => by
    simp only [ins]
    cases hb : Nat.blt t' t with
    | true => simp only [cond_true, ZfF]
    | false =>
      simp only [cond_false]
      simp only [Zad] at h
      cases he : Nat.beq t' t with
      | true =>
        rw [he] at h
        have := h e' rfl
        simp only [cond_true, ZfF, this, Bool.not_false, Bool.true_and]
      | false =>
        rw [he] at h
        simp only [cond_false, ZfF, ZmL k t e r (by simpa using h)]
        cases Yap k e'.x <;> cases Yap k e.x <;> simp
theorem ZpW (k t : Nat) (e : XV) : ∀ (l : List (Nat × XV)), (∀ e', Zad l t = some e' → ZoW k e' = false) → Zju k (ins l t e) = (!ZoW k e && Zju k l)
  | [], _ => by simp only [ins, Zg0, Zju]
  | (t', e') :: r, h => by
    simp only [ins]
    cases hb : Nat.blt t' t with
    | true => simp only [cond_true, Zg0]
    | false =>
      simp only [cond_false]
      simp only [Zad] at h
      cases he : Nat.beq t' t with
      | true =>
        rw [he] at h
        have := h e' rfl
        simp only [cond_true, Zg0, this, Bool.not_false, Bool.true_and]
      | false =>
        rw [he] at h
        simp only [cond_false, Zg0, ZpW k t e r (by simpa using h)]
        cases ZoW k e' <;> cases ZoW k e <;> simp
theorem Yaj {y : TX x.X} {z : XV} (h : XRel x.U ρ y z) (k : Nat) : ZoW k z = Yap k y := by cases h <;> rfl
def Ybo {X : Nat → Type} (s : TSt X) (ch : ZbD) : Prop := ∀ p ∈ ch, (Zad s.tmp p.1).isSome = true
theorem Ziz {X : Nat → Type} {s : TSt X} {t : Nat} {e : TE X} {g : ZbD} (hn : Zad s.tmp t = none) (hg : Ybo s g) : holds { s with tmp := ins s.tmp t e } g ↔ holds s g := by
  unfold holds
  constructor
  · intro h p hp
    obtain ⟨c, hc⟩ := h p hp
    simp only [ZaU] at hc
    have := hg p hp
    cases hb : Nat.beq t p.1 with
    | true => rw [← Nat.eq_of_beq_eq_true hb, hn] at this; cases this
    | false => rw [hb] at hc; exact ⟨c, by simpa using hc⟩
  · intro h p hp
    obtain ⟨c, hc⟩ := h p hp
    refine ⟨c, ?_⟩
    simp only [ZaU]
    cases hb : Nat.beq t p.1 with
    | true => rw [← Nat.eq_of_beq_eq_true hb, hn] at hc; cases hc
    | false => simpa using hc
theorem ER.put {e : List (Nat × TSV x.X)} {env : List (Nat × SV)} (h : ER x.U ρ e env) (t : Nat) {v : TSV x.X} {w : SV} (hv : SRel x.U ρ v w) : ER x.U ρ (ZhO e t v) (ZhO env t w) := by
  intro t' v' h'
  rw [ZaB] at h'
  rw [ZaB]
  cases hb : Nat.beq t t' with
  | true => rw [hb] at h'; simp only [cond_true, Option.some.injEq] at h'; subst h'; exact ⟨w, rfl, hv⟩
  | false => rw [hb] at h'; exact h t' v' (by simpa using h')
theorem TR.put {tmp : List (Nat × XV)} (h : TR x.U ρ s tmp) {t : Nat} {ch : ZbD} {y : TX x.X} {z : XV} (hn : Zad s.tmp t = none) (hc : Ybo s ch) (h1 : holds s ch → XRel x.U ρ y z) (h2 : ¬ holds s ch → z = .un) :
    TR x.U ρ { s with tmp := ins s.tmp t ⟨ch, y⟩ } (ins tmp t z) := by
  refine ⟨fun t' h' => ?_, fun t' e h' => ?_, fun t' e h' p hp => ?_, fun k h' => ?_⟩
  · simp only [ZaU] at h' ⊢
    cases hb : Nat.beq t t' with
    | true => rw [hb] at h'; cases h'
    | false => rw [hb] at h'; exact h.no t' (by simpa using h')
  · simp only [ZaU] at h' ⊢
    cases hb : Nat.beq t t' with
    | true =>
      rw [hb] at h'
      simp only [cond_true, Option.some.injEq] at h'
      subst h'
      refine ⟨z, rfl, fun hh => h1 ((Ziz hn hc).1 hh), fun hh => h2 fun h3 => hh ((Ziz hn hc).2 h3)⟩
    | false =>
      rw [hb] at h'
      obtain ⟨w, k1, k2, k3⟩ := h.yes t' e (by simpa using h')
      have hwf : Ybo s e.g := h.wf t' e (by simpa using h')
      exact ⟨w, k1, fun hh => k2 ((Ziz hn hwf).1 hh), fun hh => k3 fun h4 => hh ((Ziz hn hwf).2 h4)⟩
  · simp only [ZaU] at h' ⊢
    cases hb : Nat.beq t t' with
    | true =>
      rw [hb] at h'
      simp only [cond_true, Option.some.injEq] at h'
      subst h'
      cases Nat.beq t p.1 with
      | true => rfl
      | false => exact hc p hp
    | false =>
      rw [hb] at h'
      cases Nat.beq t p.1 with
      | true => rfl
      | false => exact h.wf t' e (by simpa using h') p hp
  · simp only at h'
    rw [ZmL _ _ _ _ (fun e' he => by rw [hn] at he; cases he), Bool.and_eq_true] at h'
    rw [ZpW _ _ _ _ (fun e' he => by rw [h.no t hn] at he; cases he), Bool.and_eq_true]
    refine ⟨?_, h.nosp k h'.2⟩
    by_cases hh : holds s ch
    · rw [Yaj (h1 hh)]; exact h'.1
    · rw [h2 hh]; rfl
theorem Zem (r : Rel x.U ρ h0 s a) {fa : FA} {ch : ZbD} {dst : Option Tmp} {y : TX x.X} {z : XV} (hc : Ybo s ch) (hh : holds s ch) (hy : XRel x.U ρ y z) (h : Zm7 fa ch s dst y = some s') :
    ∃ a', a.put fa dst z = some a' ∧ Rel x.U ρ h0 s' a' := by
  cases dst with
  | none => simp only [Zm7, Option.some.injEq] at h; subst h; exact ⟨a, rfl, r⟩
  | some t =>
    simp only [Zm7] at h
    simp only [St.put]
    cases hb : Nat.blt t fa.nt with
    | false => rw [hb] at h; cases h
    | true =>
      rw [hb] at h
      simp only [cond_true] at h ⊢
      cases hk : has fa.keep t with
      | true =>
        rw [hk] at h
        simp only [cond_true] at h ⊢
        split at h
        · rename_i v hv
          simp only [Option.some.injEq] at h
          subst h
          have := hy.flat
          rw [hv] at this
          obtain ⟨w, hw, h1⟩ := this.isA
          rw [hw]
          exact ⟨_, rfl, r.env.put t (.val _ _ h1), ⟨r.tmp.no, r.tmp.yes, r.tmp.wf, r.tmp.nosp⟩, r.heap⟩
        · cases h
      | false =>
        rw [hk] at h
        simp only [cond_false] at h ⊢
        split at h
        · rename_i hn
          simp only [Option.some.injEq] at h
          subst h
          exact ⟨_, rfl, r.env, r.tmp.put hn hc (fun _ => hy) (fun h => absurd hh h), r.heap⟩
        · cases h
theorem Yde (r : Rel x.U ρ h0 s a) {fa : FA} {ch : ZbD} {dst : Option Tmp} {y : TX x.X} (hc : Ybo s ch) (hh : ¬ holds s ch) (h : Zm7 fa ch s dst y = some s') :
    ∃ a', a.put fa dst .un = some a' ∧ Rel x.U ρ h0 s' a' := by
  cases dst with
  | none => simp only [Zm7, Option.some.injEq] at h; subst h; exact ⟨a, rfl, r⟩
  | some t =>
    simp only [Zm7] at h
    simp only [St.put]
    cases hb : Nat.blt t fa.nt with
    | false => rw [hb] at h; cases h
    | true =>
      rw [hb] at h
      simp only [cond_true] at h ⊢
      cases hk : has fa.keep t with
      | true =>
        rw [hk] at h
        simp only [cond_true] at h
        split at h
        · exact absurd (fun p hp => by simp at hp) hh
        · cases h
      | false =>
        rw [hk] at h
        simp only [cond_false] at h ⊢
        split at h
        · rename_i hn
          simp only [Option.some.injEq] at h
          subst h
          exact ⟨_, rfl, r.env, r.tmp.put hn hc (fun h => absurd h hh) (fun _ => rfl), r.heap⟩
        · cases h
theorem ZdZ {X : Nat → Type} (k : Nat) (l : List (Nat × TE X)) (t : Nat) : Zad (Zo2 k l) t = (Zad l t).map fun e => match e.x with
    | .al k' e' xs => ⟨e.g, bif Nat.beq k' k then .a (.l e' xs) else .al k' e' xs⟩
    | _ => e := by
  induction l with
  | nil => rfl
  | cons e l ih =>
    obtain ⟨t', g, u⟩ := e
    cases u <;> simp only [Zo2, Zad, ih] <;> cases Nat.beq t' t <;> simp
theorem Zvk {X : Nat → Type} (k k' : Nat) (l : List (Nat × TE X)) : Zi6 k (Zo2 k' l) = Zi6 k l := by
  induction l with
  | nil => rfl
  | cons e l ih =>
    obtain ⟨t', g, u⟩ := e
    cases u <;> simp only [Zo2, ZfF, ih, Yap]
    rename_i k2 e xs
    cases Nat.beq k2 k' <;> simp [Yap]
theorem Zyg (k k' : Nat) (l : List (Nat × XV)) : Zju k (unal k' l) = Zju k l := by
  induction l with
  | nil => rfl
  | cons e l ih =>
    obtain ⟨t', u⟩ := e
    cases u <;> simp only [unal, Zg0, ih, ZoW]
    rename_i k2 xs
    cases Nat.beq k2 k' <;> simp [ZoW]
theorem holds_unal {X : Nat → Type} {s : TSt X} {k : Nat} {g : ZbD} {env : List (Nat × TSV X)} : holds { s with env := env, tmp := Zo2 k s.tmp } g ↔ holds s g := by
  unfold holds
  constructor
  · intro h p hp
    obtain ⟨c, hc⟩ := h p hp
    simp only [ZdZ, Option.map_eq_some_iff] at hc
    obtain ⟨e, h1, h2⟩ := hc
    refine ⟨e.g, ?_⟩
    rw [h1]
    obtain ⟨g', y⟩ := e
    cases y <;> simp only [TE.mk.injEq] at h2 ⊢ <;> (try (cases h2.2; done))
    · simp [h2.2]
    · rename_i k2 e xs
      cases hb : Nat.beq k2 k <;> rw [hb] at h2 <;> simp at h2
  · intro h p hp
    obtain ⟨c, hc⟩ := h p hp
    refine ⟨c, ?_⟩
    simp only [ZdZ, hc, Option.map_some]
theorem TR.unal {tmp : List (Nat × XV)} (h : TR x.U ρ s tmp) (k : Nat) (env : List (Nat × TSV x.X)) : TR x.U ρ { s with env := env, tmp := Zo2 k s.tmp } (unal k tmp) := by
  refine ⟨fun t' h' => ?_, fun t' e h' => ?_, fun t' e h' p hp => ?_, fun k h' => ?_⟩
  · simp only [ZdZ, Option.map_eq_none_iff] at h'
    rw [Zhp, h.no t' h']; rfl
  · simp only [ZdZ, Option.map_eq_some_iff] at h'
    obtain ⟨e', h1, h2⟩ := h'
    obtain ⟨y, k1, k2, k3⟩ := h.yes t' e' h1
    rw [Zhp, k1]
    have hg : e.g = e'.g := by
      obtain ⟨g', y'⟩ := e'
      cases y' <;> simp only at h2 <;> subst h2 <;> rfl
    refine ⟨_, rfl, fun hh => ?_, fun hh => ?_⟩
    · have := k2 (by rw [← hg]; exact holds_unal.1 hh)
      obtain ⟨g', y'⟩ := e'
      cases this <;> simp only at h2 <;> subst h2 <;> (try exact this)
      · rename_i hv; exact .a _ _ hv
      · exact .sp _ _
      · rename_i hd; exact .fp _ _ hd
      · rename_i hj; exact .ap _ _ _ _ _ _ hj
      · exact .own _ _
      · rename_i k' e xs
        cases hb : Nat.beq k' k with
        | true => simp only [hb, cond_true]; exact .a _ _ (.d _ _ rfl)
        | false => simp only [hb, cond_false]; exact .al _ _ _
      · exact .un
    · have := k3 fun h3 => hh (holds_unal.2 (by rw [hg]; exact h3))
      subst this
      rfl
  · simp only [ZdZ, Option.map_eq_some_iff] at h'
    obtain ⟨e', h1, h2⟩ := h'
    have hg : e.g = e'.g := by
      obtain ⟨g', y'⟩ := e'
      cases y' <;> simp only at h2 <;> subst h2 <;> rfl
    have := h.wf t' e' h1 p (hg ▸ hp)
    simp only [ZdZ, Option.isSome_map]
    exact this
  · simp only [Zvk] at h'
    rw [Zyg]
    exact h.nosp k h'
theorem Zmq (r : Rel x.U ρ h0 s a) {fa : FA} {dst : Option Tmp} {e : Nat} {xs : List (x.X e)} (h : Zf4 fa s dst e xs = some s') : ∃ a', a.putOwn fa dst (xs.map (x.U.enc e)) = some a' ∧ Rel x.U ρ h0 s' a' := by
  cases dst with
  | none => simp [Zf4] at h
  | some t =>
    simp only [Zf4] at h
    simp only [St.putOwn]
    cases hb : Nat.blt t fa.nt with
    | false => rw [hb] at h; cases h
    | true =>
      rw [hb] at h
      simp only [cond_true] at h ⊢
      cases hk : has fa.keep t with
      | true =>
        rw [hk] at h
        simp only [cond_true, Option.some.injEq] at h ⊢
        subst h
        exact ⟨_, rfl, r.env.put t (.own _ _), r.tmp.unal _ _, r.heap⟩
      | false =>
        rw [hk] at h
        simp only [cond_false] at h ⊢
        split at h
        · rename_i hn
          simp only [Option.some.injEq] at h
          subst h
          exact ⟨_, rfl, r.env, r.tmp.put hn (fun p hp => by simp at hp) (fun _ => .own _ _) (fun h => absurd (fun p hp => by simp at hp) h), r.heap⟩
        · cases h
theorem Zas {X : Nat → Type} (s : TSt X) : holds s [] := fun p hp => by simp at hp
theorem ZnL (r : Rel x.U ρ h0 s a) (k : Nat) : Rel x.U ρ h0 (Zfg s k) (a.loseEnv k) := by
  unfold Zfg St.loseEnv
  cases hk : Zad s.env k with
  | none =>
    simp only
    cases ha : Zad a.env k with
    | none => exact r
    | some w =>
      cases w with
      | own es =>
        refine ⟨fun t v hv => ?_, ⟨r.tmp.no, r.tmp.yes, r.tmp.wf, r.tmp.nosp⟩, r.heap⟩
        obtain ⟨w, h1, h2⟩ := r.env t v hv
        refine ⟨w, ?_, h2⟩
        simp only [ZaB]
        cases hb : Nat.beq k t with
        | true => rw [← Nat.eq_of_beq_eq_true hb, hk] at hv; cases hv
        | false => simpa using h1
      | _ => exact r
  | some v =>
    obtain ⟨w, h1, h2⟩ := r.env k v hk
    cases h2 with
    | val v w h3 => simp only [h1]; exact r
    | own e xs =>
      simp only [h1]
      exact ⟨r.env.put k (.val _ _ (.d _ _ rfl)), ⟨r.tmp.no, r.tmp.yes, r.tmp.wf, r.tmp.nosp⟩, r.heap⟩
    | box cs ds h3 => simp only [h1]; exact r
theorem Ya0 (r : Rel x.U ρ h0 s a) {ty : Nat} {o : Operand} {e : Nat} {xs : List (x.X e)} (h : Zwf x s ty o = some ⟨e, xs⟩) :
    ZeF a o = some (xs.map (x.U.enc e)) ∧ Rel x.U ρ h0 (ZkU s o) (a.lose o) ∧ ∃ es, opd a o = some (.a (.d (.slc es))) := by
  cases o with
  | tmp t =>
    simp only [Zwf] at h
    cases ht : Zad s.tmp t with
    | some en =>
      rw [ht] at h
      obtain ⟨g, y⟩ := en
      obtain ⟨z, h1, h2, -⟩ := r.tmp.yes t _ ht
      cases g with
      | cons => simp at h
      | nil =>
        replace h2 := h2 (Zas s)
        cases y <;> simp only at h <;> (try (cases h; done))
        · rename_i e' xs'
          simp only [Option.some.injEq, Sigma.mk.injEq] at h
          obtain ⟨rfl, h⟩ := h
          simp only [heq_eq_eq] at h
          subst h
          cases h2
          refine ⟨by simp only [ZeF, h1], ?_, ⟨xs'.map (x.U.enc e'), by simp only [opd, opx, h1]; rfl⟩⟩
          simp only [ZkU, ht, St.lose, h1]
          refine ⟨r.env, ⟨fun t' h' => ?_, fun t' en h' => ?_, fun t' en h' p hp => ?_, fun k h' => ?_⟩, r.heap⟩
          · simp only [ZaU] at h' ⊢
            cases hb : Nat.beq t t' with
            | true => rw [hb] at h'; cases h'
            | false => rw [hb] at h'; exact r.tmp.no t' (by simpa using h')
          · have hold : ∀ g, holds { s with tmp := ins s.tmp t ⟨[], .a (.l e' xs')⟩ } g ↔ holds s g := by
              intro g
              unfold holds
              constructor
              · intro h p hp
                obtain ⟨c, hc⟩ := h p hp
                simp only [ZaU] at hc
                cases hb : Nat.beq t p.1 with
                | true => rw [hb] at hc; simp at hc
                | false => rw [hb] at hc; exact ⟨c, by simpa using hc⟩
              · intro h p hp
                obtain ⟨c, hc⟩ := h p hp
                refine ⟨c, ?_⟩
                simp only [ZaU]
                cases hb : Nat.beq t p.1 with
                | true => rw [← Nat.eq_of_beq_eq_true hb, ht] at hc; simp at hc
                | false => simpa using hc
            simp only [ZaU] at h' ⊢
            cases hb : Nat.beq t t' with
            | true =>
              rw [hb] at h'
              simp only [cond_true, Option.some.injEq] at h'
              subst h'
              exact ⟨_, rfl, fun _ => .a _ _ (.d _ _ rfl), fun hh => absurd (Zas _) hh⟩
            | false =>
              rw [hb] at h'
              obtain ⟨w, k1, k2, k3⟩ := r.tmp.yes t' en (by simpa using h')
              exact ⟨w, k1, fun hh => k2 ((hold _).1 hh), fun hh => k3 fun h4 => hh ((hold _).2 h4)⟩
          · simp only [ZaU] at h' ⊢
            cases hb : Nat.beq t t' with
            | true =>
              rw [hb] at h'
              simp only [cond_true, Option.some.injEq] at h'
              subst h'
              simp at hp
            | false =>
              rw [hb] at h'
              cases Nat.beq t p.1 with
              | true => rfl
              | false => exact r.tmp.wf t' en (by simpa using h') p hp
          · simp only at h'
            rw [ZmL _ _ _ _ (fun e' he => by rw [ht] at he; cases he; rfl), Bool.and_eq_true] at h'
            rw [ZpW _ _ _ _ (fun e' he => by rw [h1] at he; cases he; rfl), Bool.and_eq_true]
            exact ⟨rfl, r.tmp.nosp k h'.2⟩
        · rename_i k e' xs'
          cases h2
          split at h
          · rename_i e2 xs2 hk
            simp only [Option.some.injEq, Sigma.mk.injEq] at h
            obtain ⟨rfl, h⟩ := h
            simp only [heq_eq_eq] at h
            subst h
            obtain ⟨w, h3, h4⟩ := r.env _ _ hk
            cases h4
            exact ⟨by simp only [ZeF, h1, h3], by simp only [ZkU, ht, St.lose, h1]; exact ZnL r k, ⟨xs'.map (x.U.enc e'), by simp only [opd, opx, h1]; rfl⟩⟩
          · cases h
    | none =>
      rw [ht] at h
      have h1 := r.tmp.no t ht
      simp only at h
      split at h
      · rename_i e2 xs2 hk
        simp only [Option.some.injEq, Sigma.mk.injEq] at h
        obtain ⟨rfl, h⟩ := h
        simp only [heq_eq_eq] at h
        subst h
        obtain ⟨w, h3, h4⟩ := r.env _ _ hk
        cases h4
        exact ⟨by simp only [ZeF, h1, h3], by simp only [ZkU, ht, St.lose, h1]; exact ZnL r t, ⟨_, by simp only [opd, opx, h1, h3]; rfl⟩⟩
      · cases h
  | const v =>
    cases v <;> simp only [Zwf] at h <;> (try (cases h; done))
    rename_i ad l c
    cases ad with
    | some ad => simp [Zwf] at h
    | none =>
      cases l with
      | succ l => simp [Zwf] at h
      | zero =>
        cases c with
        | succ c => simp [Zwf] at h
        | zero =>
          simp only [Zwf] at h
          split at h
          · rename_i e' he
            simp only [Option.some.injEq, Sigma.mk.injEq] at h
            obtain ⟨rfl, h⟩ := h
            simp only [heq_eq_eq] at h
            subst h
            exact ⟨rfl, r, ⟨[], rfl⟩⟩
          · cases h
  | func f => simp [Zwf] at h
  | global g => simp [Zwf] at h
theorem Zwy (r : Rel x.U ρ h0 s a) {o : Operand} (h : Zoj s o = true) : ZeF a o = none := by
  cases o with
  | tmp t =>
    simp only [Zoj] at h
    cases ht : Zad s.tmp t with
    | some en =>
      rw [ht] at h
      obtain ⟨g, y⟩ := en
      obtain ⟨z, h1, h2, -⟩ := r.tmp.yes t _ ht
      cases g with
      | cons => simp at h
      | nil =>
        replace h2 := h2 (Zas s)
        cases y <;> simp only at h <;> (try (cases h; done))
        cases h2
        simp only [ZeF, h1]
    | none =>
      rw [ht] at h
      simp only at h
      have h1 := r.tmp.no t ht
      split at h
      · rename_i v hk
        obtain ⟨w, h3, h4⟩ := r.env _ _ hk
        cases h4
        simp only [ZeF, h1, h3]
      · cases h
  | const v =>
    cases v <;> (try rfl)
    rename_i ad l c
    cases ad with
    | some ad => rfl
    | none =>
      cases l with
      | succ l => rfl
      | zero =>
        cases c with
        | succ c => rfl
        | zero => simp [Zoj] at h
  | func f => rfl
  | global g => rfl
end
end Go.Tev
