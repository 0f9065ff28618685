/- A certified evaluator for the walked functions, and their contracts, for the laws of the variables. -/
import Derived.Test.YtnmlodkomklpfaaGreatLF
import Derived.ScopeJumps
import Derived.Maps.RangeRun
set_option linter.unusedVariables false
set_option linter.unusedSimpArgs false
namespace Go.Abs
def HasN (P : Program) (f : FuncId) (args : List AV) (h : List AObj) (R : AV → List AObj → Prop) : Prop :=
  (∃ fn, P.funcs[f]? = some fn ∧ fn.body.isSome = true) ∧
  ∀ (w : World) (own : Own) (vs : Array Value), HRel P w own h → ZhK own → vs.size = args.length →
    (∀ (i : Nat) v x, vs[i]? = some v → args[i]? = some x → ARep P w own h v x) →
    Calls P f vs w fun e w' => ∃ v own' r h', R r h' ∧ e = .returned v ∧ ZhK own' ∧ HRel P w' own' h' ∧ ARep P w' own' h' v r ∧ Frm w own w' own' ∧ ExtA w own h w' own' h'
def Tri (C : Ctx) (fa : FA) (c : Code) (st : St) (Q : Out → Prop) : Prop := ∀ own a w, SRel C.P fa own st a w → c.wp C.P (fun e a' w' => ∃ out, Q out ∧ OutRel C.P fa own st.heap w out e a' w') a w
structure Sub (s t : St) : Prop where
  env : ∀ k v, Zab s.env k = some v → Zab t.env k = some v
  tmp : s.tmp = []
  heap : s.heap = t.heap
section
variable {C : Ctx} {call : Zaa} {fa : FA} {own own' own1 : Own} {st st' st1 st2 s t : St} {a a1 : Act} {w w' w1 : World} {c x y : Code} {Q Q1 : Out → Prop}
theorem SRel.sub (S : SRel C.P fa own t a w) (h : Sub s t) : SRel C.P fa own s a w := by
  refine ⟨(by rw [h.heap]; exact S.h), S.nt, S.defers, fun k v hv => S.ek k v (h.env k v hv), fun k x hx => (by rw [h.tmp] at hx; cases hx), fun k v hv => (by rw [h.heap]; exact S.env k v (h.env k v hv)), fun k x hx => (by rw [h.tmp] at hx; cases hx)⟩
theorem Ztp (h : Tri C fa c st Q1) (hq : ∀ o, Q1 o → Q o) : Tri C fa c st Q := fun own a w S => wp_mono (h own a w S) fun e a' w' ⟨o, h1, h2⟩ => ⟨o, hq o h1, h2⟩
theorem Zk4 (hs : Sub s st) (h : Tri C fa c s Q) : Tri C fa c st Q := fun own a w S => wp_mono (h own a w (S.sub hs)) fun e a' w' ⟨o, h1, h2⟩ => ⟨o, h1, by rw [← hs.heap]; exact h2⟩
theorem Zcj (hn : Zbj C.P) (hm : C.P.follows .mixedOrders = true) (hK : Zba C.P call) {n : Nat} {out : Out} (hok : okC fa c = true) (h : evQ C call fa n c st = some out) (hq : Q out) : Tri C fa c st Q :=
  fun own a w S => wp_mono (ZgP hn hm hK n c st out own a w (Zhv n c st out hok h) S) fun e a' w' r => ⟨out, hq, r⟩
theorem Zkz (hq : Q (.norm st)) : Tri C fa .skip st Q := fun own a w S => wp_skip ⟨_, hq, rfl, own, S, .refl w own, (Grow.refl w).extA own _⟩
theorem Zot {id : Nat} (hq : Q (.exit id st)) : Tri C fa (.exit id) st Q := fun own a w S => wp_exit ⟨_, hq, rfl, own, S, .refl w own, (Grow.refl w).extA own _⟩
theorem Zcr (h1 : Tri C fa x st Q1) (h2 : ∀ s, Q1 (.norm s) → Tri C fa y s Q) (h3 : ∀ o, Q1 o → (∀ s, o ≠ .norm s) → Q o) : Tri C fa (.seq x y) st Q := by
  intro own a w S
  refine wp_seq (wp_mono (h1 own a w S) ?_)
  rintro e a1 w1 ⟨o, hq, r⟩
  have r' := r
  obtain ⟨he, own1, S1, F1, E1⟩ := r
  cases o with
  | norm s =>
    subst he
    exact wp_mono (h2 s hq own1 a1 w1 S1) fun e a2 w2 ⟨o2, k1, k2⟩ => ⟨o2, k1, k2.after F1 E1⟩
  | exit id s => subst he; exact ⟨_, h3 _ hq (by simp), r'⟩
  | goto l s => subst he; exact ⟨_, h3 _ hq (by simp), r'⟩
  | ret s => subst he; exact ⟨_, h3 _ hq (by simp), r'⟩
def Zbw (id : Nat) (e0 : List (Nat × SV)) : Out → Out
  | .norm s => .norm (s.trim e0)
  | .exit k s => bif Nat.beq k id then .norm (s.trim e0) else .exit k s
  | o => o
theorem ZeK {id : Nat} (h : Tri C fa c st fun o => Q (Zbw id st.env o)) : Tri C fa (.block id c) st Q := by
  intro own a w S
  refine wp_block (wp_mono (h own a w S) ?_)
  rintro e a1 w1 ⟨o, hq, r⟩
  have r' := r
  obtain ⟨he, own1, S1, F1, E1⟩ := r
  cases o with
  | norm s => subst he; exact ⟨_, hq, rfl, own1, S1.trim _, F1, E1⟩
  | exit k s =>
    subst he
    simp only [Zbw] at hq
    cases hb : Nat.beq k id with
    | true =>
      rw [hb] at hq
      have := Nat.eq_of_beq_eq_true hb
      subst this
      simp only [Out.ex, Exit.inBlock, if_true]
      exact ⟨_, hq, rfl, own1, S1.trim _, F1, E1⟩
    | false =>
      rw [hb] at hq
      simp only [Out.ex, Exit.inBlock, if_neg (beq_ne.1 hb)]
      exact ⟨_, hq, rfl, own1, S1, F1, E1⟩
  | goto l s => subst he; exact ⟨_, hq, r'⟩
  | ret s => subst he; exact ⟨_, hq, r'⟩
theorem Zhd {g : Operand} {b : Bool} (hb : opD st g = some (.bool b)) (h : Tri C fa (bif b then x else y) st Q) : Tri C fa (.cond g x y) st Q := by
  intro own a w S
  have hc : a.eval g = .bool b := (Zbv S hb).bool_inv
  refine wp_cond hc ?_
  cases b with
  | true => exact h own a w S
  | false => exact h own a w S
theorem ZiO (I : Nat → St → Prop) {n : Nat} (h0 : I n st) (round : ∀ m s, I m s → Tri C fa c s fun o => match o with
    | .norm s' => ∃ k s2, k < m ∧ I k s2 ∧ Sub s2 s'
    | o => Q o) : Tri C fa (.loop c) st Q := by
  intro own a w S
  refine ZgJ (fun n a' w' => ∃ s own1, I n s ∧ SRel C.P fa own1 s a' w' ∧ Frm w own w' own1 ∧ ExtA w own st.heap w' own1 s.heap) n ⟨st, own, h0, S, .refl w own, (Grow.refl w).extA own _⟩ ?_
  rintro n a' w' ⟨s, own1, hI, S1, F1, E1⟩
  refine wp_mono (round n s hI own1 a' w' S1) ?_
  rintro e a2 w2 ⟨o, hq, r⟩
  have r' := OutRel.after F1 E1 r
  obtain ⟨he, own2, S2, F2, E2⟩ := r
  cases o with
  | norm s' =>
    subst he
    obtain ⟨k, s2, hk, hI2, hs⟩ := hq
    exact ⟨k, hk, s2, own2, hI2, S2.sub hs, F1.trans F2, by rw [hs.heap]; exact E1.trans E2⟩
  | exit id s => subst he; exact ⟨_, hq, r'⟩
  | goto l s => subst he; exact ⟨_, hq, r'⟩
  | ret s => subst he; exact ⟨_, hq, r'⟩
theorem ZoB {P : Act → World → Nat → Prop} (a : Act) (w : World) (h : ∃ n, P a w n) : ∃ n, P a w n ∧ ∀ m, P a w m → n ≤ m := by
  obtain ⟨n, hn⟩ := h
  induction n using Nat.strongRecOn with
  | _ n ih =>
    by_cases hm : ∃ m, m < n ∧ P a w m
    · obtain ⟨m, h1, h2⟩ := hm; exact ih m h1 h2
    · exact ⟨n, hn, fun m h => Nat.le_of_not_lt fun hlt => hm ⟨m, hlt, h⟩⟩
theorem Zu5 {l : Nat} {rest : Code} (hf : findLabel c l = some rest) (I : Nat → St → Prop)
    (first : Tri C fa c st fun o => match o with
      | .goto l' s => l' = l ∧ ∃ k s2, I k s2 ∧ Sub s2 s
      | o => Q o)
    (pass : ∀ m s, I m s → Tri C fa rest s fun o => match o with
      | .goto l' s' => l' = l ∧ ∃ k s2, k < m ∧ I k s2 ∧ Sub s2 s'
      | o => Q o) : Tri C fa (.scope c) st Q := by
  intro own a w S
  let P : Act → World → Nat → Prop := fun a' w' n => ∃ s own1, I n s ∧ SRel C.P fa own1 s a' w' ∧ Frm w own w' own1 ∧ ExtA w own st.heap w' own1 s.heap
  classical
  let μ : Act → World → Nat := fun a' w' => if h : ∃ n, P a' w' n then Classical.choose (ZoB a' w' h) else 0
  have hμ : ∀ a' w' (h : ∃ n, P a' w' n), P a' w' (μ a' w') ∧ ∀ m, P a' w' m → μ a' w' ≤ m := by
    intro a' w' h
    have : μ a' w' = Classical.choose (ZoB a' w' h) := dif_pos h
    rw [this]
    exact Classical.choose_spec (ZoB a' w' h)
  refine wp_scope_jumps l (fun a' w' => ∃ n, P a' w' n) μ hf ?_ ?_
  · refine wp_mono (first own a w S) ?_
    rintro e a2 w2 ⟨o, hq, r⟩
    have r' := r
    obtain ⟨he, own2, S2, F2, E2⟩ := r
    cases o with
    | norm s => subst he; exact ⟨_, hq, r'⟩
    | exit id s => subst he; exact ⟨_, hq, r'⟩
    | goto l' s =>
      subst he
      obtain ⟨hl, k, s2, hI, hs⟩ := hq
      exact ⟨hl, k, s2, own2, hI, S2.sub hs, F2, by rw [hs.heap]; exact E2⟩
    | ret s => subst he; exact ⟨_, hq, r'⟩
  · rintro a1 w1 hJ
    obtain ⟨hP, hmin⟩ := hμ a1 w1 hJ
    obtain ⟨s, own1, hI, S1, F1, E1⟩ := hP
    refine wp_mono (pass _ s hI own1 a1 w1 S1) ?_
    rintro e a2 w2 ⟨o, hq, r⟩
    have r' := OutRel.after F1 E1 r
    obtain ⟨he, own2, S2, F2, E2⟩ := r
    cases o with
    | norm s => subst he; exact ⟨_, hq, r'⟩
    | exit id s => subst he; exact ⟨_, hq, r'⟩
    | goto l' s' =>
      subst he
      obtain ⟨hl, k, s2, hk, hI2, hs⟩ := hq
      have hP2 : P a2 w2 k := ⟨s2, own2, hI2, S2.sub hs, F1.trans F2, by rw [hs.heap]; exact E1.trans E2⟩
      exact ⟨hl, ⟨k, hP2⟩, Nat.lt_of_le_of_lt ((hμ a2 w2 ⟨k, hP2⟩).2 k hP2) hk⟩
    | ret s => subst he; exact ⟨_, hq, r'⟩
def YbJ (C : Ctx) (fa : FA) (o : Oper) (st : St) (Q : St → Prop) : Prop := ∀ own a w, SRel C.P fa own st a w → ∀ (K : Act → World → Prop) (X : Exit → Act → World → Prop),
  (∀ a' w' st' own', Q st' → SRel C.P fa own' st' a' w' → Frm w own w' own' → ExtA w own st.heap w' own' st'.heap → K a' w') → o.wp C.P a w K X
theorem ZeO (hn : Zbj C.P) (hK : Zba C.P call) {all : List Oper} {X : Exit → Act → World → Prop} {rest : List Oper} : ∀ (pre : List Oper) (st : St) (own : Own) (a : Act) (w : World), Zan C call fa all pre st = some st1 → SRel C.P fa own st a w →
    (∀ a' w' own', SRel C.P fa own' st1 a' w' → Frm w own w' own' → ExtA w own st.heap w' own' st1.heap → wpList C.P all.toArray X rest a' w') → wpList C.P all.toArray X (pre ++ rest) a w
  | [], st, own, a, w, he, S, hQ => by
    simp only [Zan, Option.some.injEq] at he
    subst he
    exact hQ a w own S (.refl w own) ((Grow.refl w).extA own _)
  | o :: pre, st, own, a, w, he, S, hQ => by
    simp only [Zan] at he
    split at he
    · rename_i st2 h1
      exact ZjE hn hK S h1 _ X fun a' w' own' S' F E => ZeO hn hK pre st2 own' a' w' he S' fun a2 w2 own2 S2 F2 E2 => hQ a2 w2 own2 S2 (F.trans F2) (E.trans E2)
    · cases he
theorem ZgY (hn : Zbj C.P) (hK : Zba C.P call) {id : Nat} {pre : List Oper} {o : Oper} {ops : Array Oper} (hops : ops.toList = pre ++ [o]) (he : Zan C call fa (pre ++ [o]) pre st = some st1) (hg : o.guard = none) {Q2 : St → Prop}
    (ho : YbJ C fa o st1 Q2) (hq : ∀ s, Q2 s → Q (.norm { s with tmp := [] })) : Tri C fa (.region id ops false) st Q := by
  intro own a w S
  refine wp_region_list ?_
  rw [hops]
  have hall : (pre ++ [o]).toArray = ops := by rw [← hops]
  have key : wpList C.P (pre ++ [o]).toArray (fun e a' w' => ∃ out, Q out ∧ OutRel C.P fa own st.heap w out e a' w') (pre ++ [o]) a w := by
    refine ZeO hn hK pre st own a w he S fun a1 w1 own1 S1 F1 E1 => ?_
    simp only [wpList]
    have hw : Region.wanted o (yielded (pre ++ [o]).toArray a1.tmps) = true := by
      unfold Region.wanted
      rw [hg]
    rw [if_pos hw]
    left
    refine ho own1 a1 w1 S1 _ _ fun a2 w2 s2 own2 hq2 S2 F2 E2 => ?_
    exact ⟨_, hq s2 hq2, rfl, own2, S2.dropTmp, F1.trans F2, E1.trans E2⟩
  rw [hall] at key
  exact key
theorem Zhq (hn : Zbj C.P) {o : Oper} {cl : Call} {g : Operand} {fv : AV} {vs caps : List AV} {f : FuncId} {R : AV → List AObj → Prop} (hop : o.op = .call cl) (hc : cl.callee = .value g)
    (hg : opA st g = some fv) (hv : ZaL st cl.args.toList = some vs) (hf : ZeB fv = some (f, caps)) (hH : HasN C.P f (vs ++ caps) st.heap R) (hput : ∀ r h', R r h' → ∃ s, St.put fa { st with heap := h' } o.dst (.a r) = some s) :
    YbJ C fa o st fun s => ∃ r h', R r h' ∧ St.put fa { st with heap := h' } o.dst (.a r) = some s := by
  intro own a w S K X hKK
  obtain ⟨cs, hgv, hcl, hch⟩ := ZnE (Zb8 S hg) hf
  obtain ⟨ha1, ha2⟩ := Zny S hv hcl hch
  obtain ⟨hb, hhas⟩ := hH
  refine Zkp hn hop hc hgv hb ?_
  refine (hhas w (ZkS own) _ (Zia S.h) (Zif own) ha1 (fun i v x hv' hx => (ha2 i v x hv' hx).mono (Zfw w own st.heap))).mono ?_
  rintro e w' ⟨v, own1, r, h', hR, rfl, hO, H1, hrr, F, E⟩
  obtain ⟨H2, E2, K2, F2, E3⟩ := Zwa S.h H1 hO F E
  obtain ⟨s, hp⟩ := hput r h' hR
  exact hKK _ _ s _ ⟨r, h', hR, hp⟩ ((S.heapStep H2 E2 K2).put (x := .a r) (fun t _ => hrr.mono E3) hp) F2 (by rw [ZbX hp]; exact E2)
end
end Go.Abs
namespace Go.Abs
open Go.ChangeMaps (setBlock)
section
variable {C : Ctx} {call : Zaa} {fa : FA} {own own' own1 : Own} {st st' st1 st2 s t : St} {a a1 : Act} {w w' w1 : World} {Q : Out → Prop}
def IterAt (w : World) (own : Own) (r mb : Nat) (ds : List (DV × DV)) (vis : List Nat) (cur : Option Nat) : Prop :=
  ∃ (m : Array MapEntry) (clock since last : Nat) (seen : Array Nat), w.heap[mb]? = some (.map m clock) ∧ own mb = none ∧ ZgF m clock ∧ m.size = ds.length ∧
    (∀ (j : Nat) e d, m[j]? = some e → ds[j]? = some d → Rep w own e.key d.1 ∧ Rep w own e.val d.2) ∧
    w.heap[r]? = some (.mapIter (some mb) since seen last) ∧ own r = none ∧ (∀ e ∈ m.toList, e.born < since) ∧ since ≤ last ∧ since ≤ clock ∧
    (∀ (j : Nat) e, m[j]? = some e → (seen.contains e.born = true ↔ j ∈ vis)) ∧
    (∀ j, cur = some j → ∃ (e : MapEntry) (seen' : Array Nat), m[j]? = some e ∧ seen = seen'.push e.born ∧ last = clock)
theorem IterAt.after {r mb : Nat} {ds : List (DV × DV)} {vis : List Nat} {cur : Option Nat} (h : IterAt w own r mb ds vis cur) (F : Frm w own w' own') (E : Ext w own w' own') : IterAt w' own' r mb ds vis cur := by
  obtain ⟨m, clock, since, last, seen, h1, h2, h3, h4, h5, h6, h7, h8⟩ := h
  have b1 := F.blk mb (Za4 h1) (.inl h2)
  have b2 := F.blk r (Za4 h6) (.inl h7)
  exact ⟨m, clock, since, last, seen, by rw [b1.1, h1], by rw [b1.2, h2], h3, h4, fun j e d hj hd => ⟨(h5 j e d hj hd).1.mono E, (h5 j e d hj hd).2.mono E⟩, by rw [b2.1, h6], by rw [b2.2, h7], h8⟩
structure Stepped (w w' : World) (r : Nat) : Prop where
  os : w'.os = w.os
  tape : w'.tape = w.tape
  output : w'.output = w.output
  size : w'.heap.size = w.heap.size
  blk : ∀ b, b ≠ r → w'.heap[b]? = w.heap[b]?
  was : ∃ m s seen c, w.heap[r]? = some (.mapIter m s seen c)
theorem Stepped.ext {r : Nat} (h : Stepped w w' r) : Ext w own w' own := by
  obtain ⟨m, s, seen, c, hw⟩ := h.was
  refine ⟨fun b o v hc hp => ⟨?_, hp⟩, fun b es c hc hn => ⟨?_, hn⟩⟩
  · by_cases hb : b = r
    · subst hb; simp [World.cell?, hw] at hc
    · rw [Zcc (h.blk b hb), hc]
  · by_cases hb : b = r
    · subst hb; rw [hw] at hc; cases hc
    · rw [h.blk b hb, hc]
theorem Stepped.extA {r : Nat} (h : Stepped w w' r) (hr : own r = none) (hh : List AObj) : ExtA w own hh w' own hh :=
  ⟨h.ext, Nat.le_refl _, fun id x x' h1 h2 => by rw [h1] at h2; simp only [Option.some.injEq] at h2; subst h2; exact AObj.later_refl x,
    fun b id x x' hb _ _ _ => ⟨hb, fun c T fr hc => ⟨c, by
      have hne : b ≠ r := fun e => by subst e; rw [hr] at hb; cases hb
      rw [h.blk b hne, hc], rfl⟩⟩⟩
theorem Stepped.keep {r : Nat} (h : Stepped w w' r) (hr : own r = none) (x : Owner) : Keep w own w' own x := fun b f hb => ⟨hb, h.blk b fun e => by subst e; rw [hr] at hb; cases hb⟩
theorem HRel.stepped {P : Program} {hh : List AObj} {r : Nat} (H : HRel P w own hh) (h : Stepped w w' r) (hr : own r = none) : HRel P w' own hh :=
  ⟨fun id x hx => let ⟨b, hb, hrr⟩ := H.obj id x hx; ⟨b, hb, hrr.mono (h.extA hr hh) (h.blk b fun e => by subst e; rw [hr] at hb; cases hb)⟩, H.uniq,
    fun b x hb => by rw [h.size]; exact H.lt b x hb, H.idlt⟩
theorem SRel.stepped {r : Nat} (S : SRel C.P fa own st a w) (h : Stepped w w' r) (hr : own r = none) : SRel C.P fa own st a w' :=
  ⟨S.h.stepped h hr, S.nt, S.defers, S.ek, S.tk, fun s sv hs => (S.env s sv hs).mono (h.extA hr st.heap) (h.keep hr _) (h.keep hr _),
    fun t x ht => (S.tmp t x ht).mono (h.extA hr st.heap) (fun _ _ _ _ hb => hb) (h.keep hr _) (fun _ _ _ _ he => ⟨he, rfl⟩)⟩
theorem Frm.stepped {w0 : World} {Zbo : Own} {r : Nat} (F : Frm w0 Zbo w own) (h : Stepped w w' r) (hr : w0.heap.size ≤ r) : Frm w0 Zbo w' own :=
  ⟨h.os.trans F.os, h.tape.trans F.tape, h.output.trans F.output, by rw [h.size]; exact F.size, fun b hb ho => ⟨by rw [h.blk b (by omega)]; exact (F.blk b hb ho).1, (F.blk b hb ho).2⟩⟩
theorem leftOf_mem {m : Array MapEntry} {seen : Array Nat} {e : MapEntry} : e ∈ (leftOf m seen).toList ↔ e ∈ m.toList ∧ seen.contains e.born = false := by
  unfold leftOf
  simp
theorem IterAt.next {P : Program} {r mb : Nat} {ds : List (DV × DV)} {vis : List Nat} {cur : Option Nat} (h : IterAt w own r mb ds vis cur) (ty : TypeId) :
    ((∀ j, j < ds.length → j ∈ vis) ∧ (Instr.next (.pointer (some ⟨r, 0, none⟩)) false ty).run P w = .ok (.tuple #[.bool false]) w) ∨
    ∃ j k v key val w', ds[j]? = some (k, v) ∧ j ∉ vis ∧ (Instr.next (.pointer (some ⟨r, 0, none⟩)) false ty).run P w = .ok (.tuple #[.bool true, key, val]) w' ∧ Stepped w w' r ∧ IterAt w' own r mb ds (j :: vis) (some j) ∧ Rep w' own key k ∧ Rep w' own val v := by
  obtain ⟨m, clock, since, last, seen, h1, h2, h3, h4, h5, h6, h7, h8, h9, h10, h11, h12⟩ := h
  rcases run_next_at (P := P) w ty r mb since last seen m clock h6 h1 h8 h9 with ⟨hz, hrun⟩ | ⟨e, he, w1, hw1, hrun⟩
  · refine .inl ⟨fun j hj => ?_, hrun⟩
    have hj' : j < m.size := by omega
    have hge := Array.getElem?_eq_getElem hj'
    refine (h11 j _ hge).1 ?_
    cases hc : seen.contains m[j].born with
    | true => rfl
    | false =>
      have : m[j] ∈ (leftOf m seen).toList := leftOf_mem.2 ⟨by simp, hc⟩
      have hl : (leftOf m seen).toList = [] := by
        apply List.eq_nil_of_length_eq_zero
        simpa using hz
      rw [hl] at this
      cases this
  · obtain ⟨hem, hns⟩ := leftOf_mem.1 he
    obtain ⟨j, hj, hje⟩ := List.mem_iff_getElem.1 hem
    have hj' : j < m.size := by simpa using hj
    have hge : m[j]? = some e := by rw [Array.getElem?_eq_getElem hj', ← hje]; simp
    have hjd : j < ds.length := by omega
    have hd := List.getElem?_eq_getElem hjd
    have hheap : (setBlock w1 r (.mapIter (some mb) since (seen.push e.born) clock)).heap = w.heap.setIfInBounds r (.mapIter (some mb) since (seen.push e.born) clock) := by
      rcases hw1 with rfl | rfl <;> rfl
    have hst : Stepped w (setBlock w1 r (.mapIter (some mb) since (seen.push e.born) clock)) r := by
      refine ⟨?_, ?_, ?_, by rw [hheap]; simp, fun b hb => by rw [hheap]; simp [Array.getElem?_setIfInBounds, Ne.symm hb], ⟨_, _, _, _, h6⟩⟩
      · rcases hw1 with rfl | rfl <;> rfl
      · rcases hw1 with rfl | rfl <;> rfl
      · rcases hw1 with rfl | rfl <;> rfl
    have hrr : (setBlock w1 r (.mapIter (some mb) since (seen.push e.born) clock)).heap[r]? = some (.mapIter (some mb) since (seen.push e.born) clock) := by
      have hlt := Za4 h6
      rw [hheap]
      simp [Array.getElem?_setIfInBounds, hlt]
    have hmbr : mb ≠ r := fun e => by subst e; rw [h1] at h6; cases h6
    obtain ⟨r1, r2⟩ := h5 j e _ hge hd
    refine .inr ⟨j, ds[j].1, ds[j].2, e.key, e.val, _, hd, fun hv => ?_, hrun, hst, ?_, r1.mono hst.ext, r2.mono hst.ext⟩
    · rw [(h11 j e hge).2 hv] at hns; cases hns
    · refine ⟨m, clock, since, clock, seen.push e.born, by rw [hst.blk mb hmbr, h1], h2, h3, h4, fun i x d hx hdx => ⟨(h5 i x d hx hdx).1.mono hst.ext, (h5 i x d hx hdx).2.mono hst.ext⟩, hrr, h7, h8, h10, h10, fun i x hx => ?_, fun i hi => ?_⟩
      · rw [Array.contains_push]
        have hnd := h3.2
        constructor
        · intro hc
          rw [Bool.or_eq_true] at hc
          rcases hc with hc | hc
          · exact List.mem_cons_of_mem _ ((h11 i x hx).1 hc)
          · rw [beq_iff_eq] at hc
            have hi' : i < m.size := (Array.getElem?_eq_some_iff.1 hx).1
            have : i = j := by
              refine (List.getElem_inj hnd (i := i) (j := j) (h₀ := by simpa using hi') (h₁ := by simpa using hj')).1 ?_
              simp only [List.getElem_map, Array.getElem_toList]
              rw [(Array.getElem?_eq_some_iff.1 hx).2, (Array.getElem?_eq_some_iff.1 hge).2]
              exact hc
            subst this
            exact List.mem_cons_self
        · intro hm
          rw [Bool.or_eq_true]
          rcases List.mem_cons.1 hm with rfl | hm
          · rw [hge] at hx
            cases hx
            exact .inr (by simp)
          · exact .inl ((h11 i x hx).2 hm)
      · cases hi
        exact ⟨e, seen, hge, rfl, rfl⟩
theorem IterAt.entry {P : Program} {r mb : Nat} {ds : List (DV × DV)} {vis : List Nat} {j : Nat} {k v : DV} (h : IterAt w own r mb ds vis (some j)) (hj : ds[j]? = some (k, v)) :
    ∃ key val, (Instr.entry (.pointer (some ⟨r, 0, none⟩))).run P w = .ok (.tuple #[key, val]) w ∧ Rep w own key k ∧ Rep w own val v := by
  obtain ⟨m, clock, since, last, seen, h1, h2, h3, h4, h5, h6, h7, h8, h9, h10, h11, h12⟩ := h
  obtain ⟨e, seen', g1, rfl, rfl⟩ := h12 j rfl
  have hem : e ∈ m.toList := Array.mem_toList_iff.2 (Array.mem_of_getElem? g1)
  obtain ⟨r1, r2⟩ := h5 j e _ g1 hj
  exact ⟨e.key, e.val, run_entry_at w r mb since seen' m last e h6 h1 hem h3.2, r1, r2⟩
theorem IterAt.start {P : Program} {t k e : TypeId} {v : Value} {ds : List (DV × DV)} (hr : Rep w own v (.fmap ds)) (ht : P.underlying t = some (.map k e)) (hlt : ∀ b x, own b = some x → b < w.heap.size) :
    ∃ mb w', (Instr.range t v).run P w = .ok (.pointer (some ⟨w.heap.size, 0, none⟩)) w' ∧ Grow w w' ∧ w'.heap.size = w.heap.size + 1 ∧ IterAt w' own w.heap.size mb ds [] none := by
  cases hr with
  | fmap b es clock _ hb ho hst hl hk hv =>
    have hg : Grow w (w.alloc (.mapIter (some b) clock #[] clock)) := Grow.alloc w _
    refine ⟨b, _, run_range_map w t k e b es clock ht hb, hg, by simp, ?_⟩
    have hnew : own w.heap.size = none := by
      cases h : own w.heap.size with
      | none => rfl
      | some x => have := hlt _ _ h; omega
    refine ⟨es, clock, clock, clock, #[], by rw [hg.blk b (Za4 hb), hb], ho, hst, hl, fun j x d hx hd => ⟨(hk j x d hx hd).mono (hg.ext own), (hv j x d hx hd).mono (hg.ext own)⟩, ZeA w _, hnew, hst.1, Nat.le_refl _, Nat.le_refl _, fun j x hx => by simp, fun j hj => by cases hj⟩
end
end Go.Abs
namespace Go.Abs
theorem Zo1 : ∀ (n : Nat) (l : List Nat), l.Nodup → (∀ j ∈ l, j < n) → l.length ≤ n
  | 0, l, _, h => by
    cases l with
    | nil => exact Nat.le_refl _
    | cons j l => have := h j List.mem_cons_self; omega
  | n + 1, l, hn, h => by
    have h1 := Zo1 n (l.erase n) (hn.erase n) (fun j hj => by
      have h2 := h j (List.mem_of_mem_erase hj)
      have h3 : j ≠ n := fun e => by subst e; exact (List.Nodup.mem_erase_iff hn).1 hj |>.1 rfl
      omega)
    have h2 : l.length ≤ (l.erase n).length + 1 := by
      rw [List.length_erase]
      split <;> omega
    omega
section
variable {C : Ctx} {call : Zaa} {fa : FA} {own own' own1 : Own} {st st' st1 st2 s t : St} {a a1 : Act} {w w' w1 : World} {Q Q1 : Out → Prop}
theorem Zsv {o : Oper} {v : Value} {K : Act → World → Prop} {X : Exit → Act → World → Prop} (hr : (execOp a.eval o).run C.P w = .ok (.value v) w') (h : K (a.put o.dst v) w') : o.wp C.P a w K X := by
  unfold Oper.wp
  rw [hr]
  exact h
theorem Zpa {o : Oper} {x : Operand} {v : Value} (hop : o.op = .next x false) (h : (Instr.next (a.eval x) false o.type).run C.P w = .ok v w') : (execOp a.eval o).run C.P w = .ok (.value v) w' := by
  simp only [execOp, hop, Sem.run_bind, h, Result.andThen_ok, Sem.run_pure]
theorem ZuH {o : Oper} {x : Operand} {v : Value} (hop : o.op = .entry x) (h : (Instr.entry (a.eval x)).run C.P w = .ok v w') : (execOp a.eval o).run C.P w = .ok (.value v) w' := by
  simp only [execOp, hop, Sem.run_bind, h, Result.andThen_ok, Sem.run_pure]
theorem ZtO {o : Oper} {x : Operand} {t : TypeId} {v : Value} (hop : o.op = .range t x) (h : (Instr.range t (a.eval x)).run C.P w = .ok v w') : (execOp a.eval o).run C.P w = .ok (.value v) w' := by
  simp only [execOp, hop, Sem.run_bind, h, Result.andThen_ok, Sem.run_pure]
theorem Zvp {P : Program} {hh : List AObj} {v u : Value} (h : ARep P w own hh v (.raw u)) : v = u := by cases h; rfl
def Ydo (C : Ctx) (fa : FA) (it : Nat) (p : Value) (ds : List (DV × DV)) (c : Code) (st : St) (Q : Out → Prop) : Prop := ∀ own a w r mb w0 Zbo h0, SRel C.P fa own st a w → p = .pointer (some ⟨r, 0, none⟩) → Zab st.env it = some (.val (.raw p)) → IterAt w own r mb ds [] none →
  Frm w0 Zbo w own → ExtA w0 Zbo h0 w own st.heap → w0.heap.size ≤ r → c.wp C.P (fun e a' w' => ∃ out, Q out ∧ OutRel C.P fa Zbo h0 w0 out e a' w') a w
theorem ZeL (hn : Zbj C.P) (hK : Zba C.P call) {id : Nat} {pre : List Oper} {o : Oper} {ops : Array Oper} {X : Code} {x : Operand} {t k e : TypeId} {it : Nat} {ds : List (DV × DV)} (hops : ops.toList = pre ++ [o]) (he : Zan C call fa (pre ++ [o]) pre st = some st1) (hg : o.guard = none)
    (hop : o.op = .range t x) (hd : o.dst = some it) (hkp : has fa.keep it = true) (hnt : Nat.blt it fa.nt = true) (hx : opA st1 x = some (.d (.fmap ds))) (ht : C.P.underlying t = some (.map k e))
    (h : ∀ p, Ydo C fa it p ds X ⟨Zdk st1.env it (.val (.raw p)), [], st1.heap⟩ Q) : Tri C fa (.seq (.region id ops false) X) st Q := by
  intro own a w S
  refine wp_seq (wp_region_list ?_)
  rw [hops]
  have hall : (pre ++ [o]).toArray = ops := by rw [← hops]
  have key : wpList C.P (pre ++ [o]).toArray (Exit.then (X.wp C.P fun e a' w' => ∃ out, Q out ∧ OutRel C.P fa own st.heap w out e a' w') fun e a' w' => ∃ out, Q out ∧ OutRel C.P fa own st.heap w out e a' w') (pre ++ [o]) a w := by
    refine ZeO hn hK pre st own a w he S fun a1 w1 own1 S1 F1 E1 => ?_
    simp only [wpList]
    have hw : Region.wanted o (yielded (pre ++ [o]).toArray a1.tmps) = true := by
      unfold Region.wanted
      rw [hg]
    rw [if_pos hw]
    left
    have hv := Zb8 S1 hx
    obtain ⟨mb, w2, hrun, hgr, hsz, hI⟩ := IterAt.start (P := C.P) hv.d_inv ht S1.h.lt
    refine Zsv (ZtO hop hrun) ?_
    simp only [Exit.then]
    have hput : st1.put fa o.dst (.a (.raw (.pointer (some ⟨w1.heap.size, 0, none⟩)))) = some { st1 with env := Zdk st1.env it (.val (.raw (.pointer (some ⟨w1.heap.size, 0, none⟩)))) } := by
      rw [hd]
      simp only [St.put, hnt, hkp, cond_true, XV.flat]
    have S2 := ((S1.grow hgr).put (v := .pointer (some ⟨w1.heap.size, 0, none⟩)) (x := .a (.raw (.pointer (some ⟨w1.heap.size, 0, none⟩)))) (fun _ _ => .raw _ rfl) hput).dropTmp
    exact h _ own1 _ w2 w1.heap.size mb w own st.heap S2 rfl (by simp only [ZaN, Nat.beq_refl, cond_true]) hI (F1.trans (hgr.frm own1)) (E1.trans (hgr.extA own1 _)) F1.size
  rw [hall] at key
  exact key
theorem ZkG (hn : Zbj C.P) (hK : Zba C.P call) {it : Nat} {p : Value} {ds : List (DV × DV)} {id1 id2 ib ix jb tn te : Nat} {on oe : Oper} {rest1 rest2 : List Oper} {ops1 ops2 : Array Oper} {g : Operand} {body : Code}
    (hops1 : ops1.toList = on :: rest1) (hg1 : on.guard = none) (hop1 : on.op = .next (.tmp it) false) (hd1 : on.dst = some tn) (hk1 : has fa.keep tn = false) (hn1 : Nat.blt tn fa.nt = true)
    (hops2 : ops2.toList = oe :: rest2) (hg2 : oe.guard = none) (hop2 : oe.op = .entry (.tmp it)) (hd2 : oe.dst = some te) (hk2 : has fa.keep te = false) (hn2 : Nat.blt te fa.nt = true)
    (Inv : List Nat → St → Prop) (h0 : Inv [] st) (hit : ∀ vis s, Inv vis s → s.tmp = [] ∧ Zab s.env it = some (.val (.raw p)))
    (hover : ∀ vis s, Inv vis s → (∀ j, j < ds.length → j ∈ vis) → ∃ s1, Zan C call fa (on :: rest1) rest1 { s with tmp := [(tn, .a (.d (.tup [.bool false])))] } = some s1 ∧ opD { s1 with tmp := [] } g = some (.bool false) ∧ Q (Zbw ib st.env (.exit ix { s1 with tmp := [] })))
    (hstep : ∀ vis s j k v, Inv vis s → ds[j]? = some (k, v) → j ∉ vis → ∃ s1 s2, Zan C call fa (on :: rest1) rest1 { s with tmp := [(tn, .a (.d (.tup [.bool true, k, v])))] } = some s1 ∧ opD { s1 with tmp := [] } g = some (.bool true) ∧ Zab s1.env it = some (.val (.raw p)) ∧
      Zan C call fa (oe :: rest2) rest2 { s1 with tmp := [(te, .a (.d (.tup [k, v])))] } = some s2 ∧ Tri C fa body { s2 with tmp := [] } fun o => match Zbw jb s1.env o with
        | .norm s' => ∃ s3, Inv (j :: vis) s3 ∧ Sub s3 s'
        | o => Q (Zbw ib st.env o)) :
    Ydo C fa it p ds (.block ib (.loop (.seq (.region id1 ops1 false) (.seq (.cond g .skip (.exit ix)) (.block jb (.seq (.region id2 ops2 false) body)))))) st Q := by
  intro own a w r mb w0 Zbo hh0 S hp _ hI F E hr
  have hblk : (Code.loop (.seq (.region id1 ops1 false) (.seq (.cond g .skip (.exit ix)) (.block jb (.seq (.region id2 ops2 false) body))))).wp C.P (fun e a' w' => ∃ out, (∀ s, out ≠ .norm s) ∧ Q (Zbw ib st.env out) ∧ OutRel C.P fa Zbo hh0 w0 out e a' w') a w := by
    refine ZgJ (fun n a' w' => ∃ vis s own1 cur, n = ds.length - vis.length ∧ vis.Nodup ∧ (∀ j ∈ vis, j < ds.length) ∧ Inv vis s ∧ SRel C.P fa own1 s a' w' ∧ IterAt w' own1 r mb ds vis cur ∧ Frm w0 Zbo w' own1 ∧ ExtA w0 Zbo hh0 w' own1 s.heap) ds.length
      ⟨[], st, own, none, rfl, List.nodup_nil, fun j hj => by simp at hj, h0, S, hI, F, E⟩ ?_
    rintro n a1 w1 ⟨vis, s, own1, cur, rfl, hnd, hlt, hInv, S1, hI1, F1, E1⟩
    obtain ⟨htmp, hraw⟩ := hit vis s hInv
    have hev : a1.eval (.tmp it) = .pointer (some ⟨r, 0, none⟩) := by
      have h1 : opA s (.tmp it) = some (.raw p) := by simp only [opA, opd, opx, htmp, Zab, hraw, XV.flat]
      rw [Zvp (Zb8 S1 h1), hp]
    have hall1 : (on :: rest1).toArray = ops1 := by rw [← hops1]
    have hall2 : (oe :: rest2).toArray = ops2 := by rw [← hops2]
    have hw1 : ∀ tmps, Region.wanted on (yielded (on :: rest1).toArray tmps) = true := fun tmps => by
      unfold Region.wanted
      rw [hg1]
    have hw2 : ∀ tmps, Region.wanted oe (yielded (oe :: rest2).toArray tmps) = true := fun tmps => by
      unfold Region.wanted
      rw [hg2]
    have hput1 : ∀ d, s.put fa on.dst (.a (.d d)) = some { s with tmp := [(tn, .a (.d d))] } := fun d => by
      rw [hd1]
      simp only [St.put, hn1, hk1, cond_true, cond_false, htmp, ins]
    rcases hI1.next (P := C.P) on.type with ⟨hall, hrun⟩ | ⟨j, k, v, key, val, w2, hj, hjv, hrun, hst, hI2, hrk, hrv⟩
    ·
      obtain ⟨s1, e1, e2, e3⟩ := hover vis s hInv hall
      refine wp_seq (wp_region_list ?_)
      rw [← hall1]
      simp only [wpList]
      rw [if_pos (hw1 _)]
      left
      rw [← hev] at hrun
      refine Zsv (Zpa hop1 hrun) ?_
      have S2 := S1.put (v := .tuple #[.bool false]) (x := .a (.d (.tup [.bool false]))) (fun _ _ => .d _ _ (.tup _ _ rfl fun i v d hv hd => by
        rcases i with _ | i
        · cases hv; cases hd; exact .bool _
        · simp at hd)) (hput1 _)
      refine Zdd hn hK rest1 _ own1 _ w1 e1 S2 fun a3 w3 own3 S3 F3 E3 => ?_
      simp only [Exit.then]
      have S3' := S3.dropTmp
      refine wp_seq ?_
      have hc : a3.eval g = .bool false := (Zbv S3' e2).bool_inv
      refine wp_cond hc (wp_exit ?_)
      exact ⟨.exit ix { s1 with tmp := [] }, by simp, e3, rfl, own3, S3', F1.trans F3, E1.trans E3⟩
    ·
      obtain ⟨s1, s2, e1, e2, e3, e4, e5⟩ := hstep vis s j k v hInv hj hjv
      have hr1 : own1 r = none := by
        obtain ⟨_, _, _, _, _, _, _, _, _, _, _, h7, _⟩ := hI1
        exact h7
      refine wp_seq (wp_region_list ?_)
      rw [← hall1]
      simp only [wpList]
      rw [if_pos (hw1 _)]
      left
      rw [← hev] at hrun
      refine Zsv (Zpa hop1 hrun) ?_
      have S1' := S1.stepped hst hr1
      have F1' := F1.stepped hst hr
      have E1' := E1.trans (hst.extA hr1 s.heap)
      have S2 := S1'.put (v := .tuple #[.bool true, key, val]) (x := .a (.d (.tup [.bool true, k, v]))) (fun _ _ => .d _ _ (.tup _ _ rfl fun i v d hv hd => by
        rcases i with _ | _ | _ | i
        · cases hv; cases hd; exact .bool _
        · cases hv; cases hd; exact hrk
        · cases hv; cases hd; exact hrv
        · simp at hd)) (hput1 _)
      refine Zdd hn hK rest1 _ own1 _ w2 e1 S2 fun a3 w3 own3 S3 F3 E3 => ?_
      simp only [Exit.then]
      have S3' := S3.dropTmp
      have hI3 := hI2.after F3 E3.ext
      refine wp_seq ?_
      have hc : a3.eval g = .bool true := (Zbv S3' e2).bool_inv
      refine wp_cond hc (wp_skip ?_)
      simp only [Exit.then]
      refine wp_block ?_
      refine wp_seq (wp_region_list ?_)
      rw [← hall2]
      simp only [wpList]
      rw [if_pos (hw2 _)]
      left
      have hev3 : a3.eval (.tmp it) = .pointer (some ⟨r, 0, none⟩) := by
        have h1 : opA { s1 with tmp := [] } (.tmp it) = some (.raw p) := by simp only [opA, opd, opx, Zab, e3, XV.flat]
        rw [Zvp (Zb8 S3' h1), hp]
      obtain ⟨key', val', hrun2, hrk2, hrv2⟩ := hI3.entry (P := C.P) hj
      rw [← hev3] at hrun2
      refine Zsv (ZuH hop2 hrun2) ?_
      have hput2 : St.put fa { s1 with tmp := [] } oe.dst (.a (.d (.tup [k, v]))) = some { s1 with tmp := [(te, .a (.d (.tup [k, v])))] } := by
        rw [hd2]
        simp only [St.put, hn2, hk2, cond_true, cond_false, ins]
      have S4 := S3'.put (v := .tuple #[key', val']) (x := .a (.d (.tup [k, v]))) (fun _ _ => .d _ _ (.tup _ _ rfl fun i v d hv hd => by
        rcases i with _ | _ | i
        · cases hv; cases hd; exact hrk2
        · cases hv; cases hd; exact hrv2
        · simp at hd)) hput2
      refine Zdd hn hK rest2 _ own3 _ w3 e4 S4 fun a5 w5 own5 S5 F5 E5 => ?_
      simp only [Exit.then]
      have S5' := S5.dropTmp
      have hI5 := hI3.after F5 E5.ext
      refine wp_mono (e5 own5 a5 w5 S5') ?_
      rintro e a6 w6 ⟨o, hq, rr⟩
      obtain ⟨he, own6, S6, F6, E6⟩ := rr
      have hnd' : (j :: vis).Nodup := List.nodup_cons.2 ⟨hjv, hnd⟩
      have hlt' : ∀ i ∈ j :: vis, i < ds.length := fun i hi => by
        rcases List.mem_cons.1 hi with rfl | hi
        · exact (List.getElem?_eq_some_iff.1 hj).1
        · exact hlt i hi
      have hlen := Zo1 ds.length (j :: vis) hnd' hlt'
      simp only [List.length_cons] at hlen
      have F7 := ((F1'.trans F3).trans F5).trans F6
      have E7 := ((E1'.trans E3).trans E5).trans E6
      cases o with
      | norm s' =>
        subst he
        simp only [Zbw] at hq
        obtain ⟨s3, hq1, hq2⟩ := hq
        exact ⟨_, by simp only [List.length_cons]; omega, j :: vis, s3, own6, some j, rfl, hnd', hlt', hq1, (S6.trim _).sub hq2, hI5.after F6 E6.ext, F7, by rw [hq2.heap]; exact E7⟩
      | exit i s' =>
        subst he
        simp only [Zbw] at hq
        simp only [Out.ex, Exit.inBlock]
        cases hb : Nat.beq i jb with
        | true =>
          have hbe := Nat.eq_of_beq_eq_true hb
          subst hbe
          rw [hb] at hq
          simp only [cond_true] at hq
          rw [if_pos rfl]
          obtain ⟨s3, hq1, hq2⟩ := hq
          exact ⟨_, by simp only [List.length_cons]; omega, j :: vis, s3, own6, some j, rfl, hnd', hlt', hq1, (S6.trim _).sub hq2, hI5.after F6 E6.ext, F7, by rw [hq2.heap]; exact E7⟩
        | false =>
          rw [hb] at hq
          simp only [cond_false] at hq
          rw [if_neg (beq_ne.1 hb)]
          exact ⟨.exit i s', by simp, hq, rfl, own6, S6, F7, E7⟩
      | goto l s' => subst he; exact ⟨.goto l s', by simp, hq, rfl, own6, S6, F7, E7⟩
      | ret s' => subst he; exact ⟨.ret s', by simp, hq, rfl, own6, S6, F7, E7⟩
  refine wp_block (wp_mono hblk ?_)
  rintro e a1 w1 ⟨o, hne, hq, rr⟩
  have r' := rr
  obtain ⟨he, own1, S1, F1, E1⟩ := rr
  cases o with
  | norm s => exact absurd rfl (hne s)
  | exit k s =>
    subst he
    simp only [Zbw] at hq
    cases hb : Nat.beq k ib with
    | true =>
      rw [hb] at hq
      have := Nat.eq_of_beq_eq_true hb
      subst this
      simp only [Out.ex, Exit.inBlock, if_true]
      exact ⟨_, hq, rfl, own1, S1.trim _, F1, E1⟩
    | false =>
      rw [hb] at hq
      simp only [Out.ex, Exit.inBlock, if_neg (beq_ne.1 hb)]
      exact ⟨_, hq, rfl, own1, S1, F1, E1⟩
  | goto l s => subst he; exact ⟨_, hq, r'⟩
  | ret s => subst he; exact ⟨_, hq, r'⟩
end
end Go.Abs
namespace Go.Abs
section
variable {C : Ctx} {call : Zaa} {fa : FA} {own own' own1 : Own} {st st' st1 st2 s t : St} {a a1 : Act} {w w' w1 : World} {Q Q1 : Out → Prop}
def Yek (C : Ctx) (fn : Func) (R : AV → List AObj → Prop) : Out → Prop
  | .norm s => ∃ vs, Zbp C s fn.results.toList = some vs ∧ R (ZaW vs) s.heap
  | .ret s => ∃ vs, Zbp C s fn.results.toList = some vs ∧ R (ZaW vs) s.heap
  | _ => False
theorem ZdW {f : FuncId} {fn : Func} {c : Code} {args : List AV} {h : List AObj} {R : AV → List AObj → Prop} (hfn : C.P.funcs[f]? = some fn) (hc : fn.body = some c)
    (hb : (Nat.beq fn.ntmps (C.ann f).nt && Nat.ble args.length fn.ntmps && Zer (C.ann f).keep args.length) = true) (ht : Tri C (C.ann f) c ⟨Zgo 0 args, [], h⟩ (Yek C fn R)) : HasN C.P f args h R := by
  simp only [Bool.and_eq_true] at hb
  obtain ⟨⟨b1, b2⟩, b3⟩ := hb
  have hnt : fn.ntmps = (C.ann f).nt := Nat.eq_of_beq_eq_true b1
  have hle : args.length ≤ fn.ntmps := Nat.le_of_ble_eq_true b2
  refine ⟨⟨fn, hfn, by rw [hc]; rfl⟩, fun w own vs H hO hl hr => ?_⟩
  refine calls_of_wp hfn hc ?_
  have S : SRel C.P (C.ann f) own ⟨Zgo 0 args, [], h⟩ { tmps := vs ++ Array.replicate (fn.ntmps - vs.size) undef, defers := [] } w := by
    refine ⟨H, by simp; omega, rfl, fun s sv hs => ?_, fun t x ht => by simp [Zab] at ht, fun s sv hs => ?_, fun t x ht => by simp [Zab] at ht⟩
    · obtain ⟨v, _, _, h3⟩ := Zhk args 0 s sv hs
      exact ZiE b3 s (by have := (List.getElem?_eq_some_iff.1 h3).1; simpa using this)
    · obtain ⟨v, rfl, _, h3⟩ := Zhk args 0 s sv hs
      rw [Nat.sub_zero] at h3
      have hlt : s < vs.size := by rw [hl]; exact (List.getElem?_eq_some_iff.1 h3).1
      have hu := Array.getElem?_eq_getElem hlt
      have hg : (vs ++ Array.replicate (fn.ntmps - vs.size) undef).getD s undef = vs[s] := by
        rw [Array.getD_eq_getD_getElem?, Array.getElem?_append_left hlt, hu]; rfl
      simp only [SVRel]
      rw [hg]
      exact hr s _ v hu h3
  have fin : ∀ (st' : St), (∃ vs, Zbp C st' fn.results.toList = some vs ∧ R (ZaW vs) st'.heap) → ∀ (a' : Act) (w' : World), (∃ own', SRel C.P (C.ann f) own' st' a' w' ∧ Frm w own w' own' ∧ ExtA w own h w' own' st'.heap) →
      a'.defers = [] ∧ ∃ v, (results fn a'.tmps).run C.P w' = .ok v w' ∧ ∃ v1 own' r h', R r h' ∧ Ending.returned v = .returned v1 ∧ ZhK own' ∧ HRel C.P w' own' h' ∧ ARep C.P w' own' h' v1 r ∧ Frm w own w' own' ∧ ExtA w own h w' own' h' := by
    intro st' ⟨vs', hvs, hR⟩ a' w' ⟨own', S', F, E⟩
    obtain ⟨v, hv, hrep⟩ := ZlJ S' hvs
    have E2 := Zfw w' own' st'.heap
    refine ⟨S'.defers, v, hv, v, ZkS own', _, _, hR, rfl, Zif own', Zia S'.h, hrep.mono E2, F.trans ⟨rfl, rfl, rfl, Nat.le_refl _, fun b _ hb => ⟨rfl, ?_⟩⟩, E.trans E2⟩
    rcases hb with hb | ⟨f, hb⟩ <;> simp [ZkS, hb]
  refine wp_mono (ht own _ w S) ?_
  rintro e a' w' ⟨o, hq, he, q⟩
  cases o with
  | norm s => subst he; exact fin s hq a' w' q
  | ret s => subst he; exact fin s hq a' w' q
  | exit id s => exact False.elim hq
  | goto l s => exact False.elim hq
theorem HasN.frozen {P : Program} {f : FuncId} {ds : List DV} {R : AV → List AObj → Prop} {d : DV} (h : HasN P f (ds.map .d) [] R) (hR : ∀ r h', R r h' → ∃ m, Abs.freeze h' m r = some d) : Has P f (ds.map .d) [] (.d d) [] := by
  refine ⟨h.1, fun w own vs H hO hl hr => (h.2 w own vs H hO hl hr).mono ?_⟩
  rintro e w' ⟨v, own1, r, h', hr', rfl, hO1, H1, hrep, F, E⟩
  obtain ⟨m, hm⟩ := hR r h' hr'
  have hno : ∀ b id f, own b ≠ some (.obj id, f) := fun b id f hb => by
    have := (H.idlt b id f hb).1
    simp at this
  have hold : ∀ b, b < w.heap.size → w'.heap[b]? = w.heap[b]? ∧ own1 b = own b := fun b hb => by
    refine F.blk b hb ?_
    cases ho : own b with
    | none => exact .inl rfl
    | some x =>
      obtain ⟨x, f⟩ := x
      rcases hO b x f ho with rfl | ⟨id, rfl⟩
      · exact .inr ⟨f, rfl⟩
      · exact absurd ho (hno b id f)
  have hgrow : Grow w w' := ⟨F.os, F.tape, F.output, F.size, fun b hb => (hold b hb).1⟩
  have hE : Ext w' own1 w' own := by
    refine ⟨fun b o v hc hp => ⟨hc, fun x f hx => ?_⟩, fun b es c hc hn => ⟨hc, ?_⟩⟩
    · have hb := H.lt b _ hx
      exact hp x f (by rw [(hold b hb).2]; exact hx)
    · cases ho : own b with
      | none => rfl
      | some x =>
        have hb := H.lt b _ ho
        rw [← (hold b hb).2, hn] at ho
        cases ho
  have hdrop : ∀ b id f, own1 b = some (.obj id, f) → own b = none := fun b id f hb => by
    cases ho : own b with
    | none => rfl
    | some x =>
      have hlt := H.lt b _ ho
      rw [(hold b hlt).2] at hb
      exact absurd hb (hno b id f)
  exact ⟨v, own, rfl, hO, H.grow hgrow, .d _ _ (ZmN hE hdrop H1 _ _ _ _ hm hrep), hgrow.frm own, hgrow.extA own _⟩
end
end Go.Abs
namespace Go.Abs
def Qu (w0 : World) (own : Own) (w : World) : Option (Value × List Int) → Prop
  | none => True
  | some (v, qs) => ∃ b p cap c T f, v = .slice (some ⟨b, p, none⟩) qs.length cap ∧ own b = some (.ext, f) ∧ p + qs.length ≤ f ∧ (qs.length < cap → f = p + qs.length) ∧ w0.heap.size ≤ b ∧
      w.heap[b]? = some (.cells c T (0, 0)) ∧ p + cap ≤ c.size ∧ qs.length ≤ cap ∧ ∀ (j : Nat) n, qs[j]? = some n → c[p + j]? = some (.int .i64 n)
def ints (qs : List Int) : DV := .slc (qs.map fun n => DV.int .i64 n)
structure JR (P : Program) (fa : FA) (w0 : World) (Zbo : Own) (h0 : List AObj) (q : Option (Value × List Int)) (st : St) (own : Own) (a : Act) (w : World) : Prop where
  s : SRel P fa own st a w
  f : Frm w0 Zbo w own
  e : ExtA w0 Zbo h0 w own st.heap
  q : Qu w0 own w q
section
variable {C : Ctx} {call : Zaa} {fa : FA} {own own' own1 Zbo : Own} {st st' st1 st2 s t : St} {a a1 : Act} {w w' w1 w0 : World} {h0 : List AObj} {c x y : Code} {q q1 : Option (Value × List Int)} {Q1 : Out → Prop}
  {Q Q2 : Out → Option (Value × List Int) → Prop}
theorem Qu.frm (h : Qu w0 own w q) (F : Frm w own w' own') : Qu w0 own' w' q := by
  rcases q with _ | ⟨v, qs⟩
  · trivial
  · obtain ⟨b, p, cap, c, T, f, h1, h2, h3, h4, h5, h6, h7⟩ := h
    obtain ⟨e1, e2⟩ := F.blk b (Za4 h6) (.inr ⟨_, h2⟩)
    exact ⟨b, p, cap, c, T, f, h1, by rw [e2, h2], h3, h4, h5, by rw [e1, h6], h7⟩
theorem Qu.rep {v : Value} {qs : List Int} (h : Qu w0 own w (some (v, qs))) : Rep w own v (ints qs) := by
  obtain ⟨b, p, cap, c, T, f, rfl, h2, h3, h4, h5, h6, h7, h8, h9⟩ := h
  have hl : (qs.map fun n => DV.int .i64 n).length = qs.length := List.length_map _
  have hf : ∀ l : List Int, (l.map fun n => DV.int .i64 n).flatMap DV.cells = l.map fun n => DV.int .i64 n := by
    intro l
    induction l with
    | nil => rfl
    | cons n r ih => simp only [List.map_cons, List.flatMap_cons, DV.cells, ih]; rfl
  unfold ints
  rw [← hl]
  have hin : ∀ i, i < qs.length → ∃ n, qs[i]? = some n := fun i hi => ⟨_, List.getElem?_eq_getElem hi⟩
  refine .slc b p cap 1 _ (fun i => .int .i64 (qs.getD i 0)) (by rw [hl]; exact h8) (fun e he => ?_) (fun i hi => ?_) (fun i hi x g hx => ?_) (fun i hi => rfl) (fun i d hd => ?_)
  · obtain ⟨n, _, rfl⟩ := List.mem_map.1 he; rfl
  · rw [hl, Nat.mul_one] at hi
    obtain ⟨n, hn⟩ := hin i hi
    rw [cell_of_row w b _ c T (0, 0) h6, h9 i n hn, List.getD_eq_getElem?_getD, hn]; rfl
  · rw [hl, Nat.mul_one] at hi
    rw [h2] at hx
    simp only [Option.some.injEq, Prod.mk.injEq] at hx
    omega
  · rw [hf, List.getElem?_map, Option.map_eq_some_iff] at hd
    obtain ⟨n, hn, rfl⟩ := hd
    rw [List.getD_eq_getElem?_getD, hn]
    exact .int _ _
def TJ (C : Ctx) (fa : FA) (w0 : World) (Zbo : Own) (h0 : List AObj) (c : Code) (st : St) (q : Option (Value × List Int)) (Q : Out → Option (Value × List Int) → Prop) : Prop :=
  ∀ own a w, JR C.P fa w0 Zbo h0 q st own a w → c.wp C.P (fun e a' w' => ∃ o q', Q o q' ∧ e = o.ex ∧ ∃ own', JR C.P fa w0 Zbo h0 q' o.st own' a' w') a w
theorem YcH (h : TJ C fa w0 Zbo h0 c st q Q2) (hq : ∀ o q', Q2 o q' → Q o q') : TJ C fa w0 Zbo h0 c st q Q := fun own a w J => wp_mono (h own a w J) fun e a' w' ⟨o, q', h1, h2⟩ => ⟨o, q', hq o q' h1, h2⟩
theorem JR.sub (J : JR C.P fa w0 Zbo h0 q t own a w) (h : Sub s t) : JR C.P fa w0 Zbo h0 q s own a w := ⟨J.s.sub h, J.f, by rw [h.heap]; exact J.e, J.q⟩
theorem Zw8 (h : Tri C fa c st Q1) (hq : ∀ o, Q1 o → Q o q) : TJ C fa w0 Zbo h0 c st q Q := fun own a w J => wp_mono (h own a w J.s) fun e a' w' ⟨o, h1, he, own', S, F, E⟩ => ⟨o, q, hq o h1, he, own', ⟨S, J.f.trans F, J.e.trans E, J.q.frm F⟩⟩
theorem Zgl (h1 : TJ C fa w0 Zbo h0 x st q Q2) (h2 : ∀ s q', Q2 (.norm s) q' → TJ C fa w0 Zbo h0 y s q' Q) (h3 : ∀ o q', Q2 o q' → (∀ s, o ≠ .norm s) → Q o q') : TJ C fa w0 Zbo h0 (.seq x y) st q Q := by
  intro own a w J
  refine wp_seq (wp_mono (h1 own a w J) ?_)
  rintro e a1 w1 ⟨o, q1, hq, he, own1, J1⟩
  cases o with
  | norm s => subst he; exact h2 s q1 hq own1 a1 w1 J1
  | exit id s => subst he; exact ⟨_, _, h3 _ _ hq (by simp), rfl, own1, J1⟩
  | goto l s => subst he; exact ⟨_, _, h3 _ _ hq (by simp), rfl, own1, J1⟩
  | ret s => subst he; exact ⟨_, _, h3 _ _ hq (by simp), rfl, own1, J1⟩
theorem ZfI {g : Operand} {b : Bool} (hb : opD st g = some (.bool b)) (h : TJ C fa w0 Zbo h0 (bif b then x else y) st q Q) : TJ C fa w0 Zbo h0 (.cond g x y) st q Q := by
  intro own a w J
  have hc : a.eval g = .bool b := (Zbv J.s hb).bool_inv
  refine wp_cond hc ?_
  cases b with
  | true => exact h own a w J
  | false => exact h own a w J
theorem ZkB {id : Nat} (h : TJ C fa w0 Zbo h0 c st q fun o q' => Q (Zbw id st.env o) q') : TJ C fa w0 Zbo h0 (.block id c) st q Q := by
  intro own a w J
  refine wp_block (wp_mono (h own a w J) ?_)
  rintro e a1 w1 ⟨o, q1, hq, he, own1, J1⟩
  cases o with
  | norm s => subst he; exact ⟨_, _, hq, rfl, own1, J1.s.trim _, J1.f, J1.e, J1.q⟩
  | exit k s =>
    subst he
    simp only [Zbw] at hq
    cases hb : Nat.beq k id with
    | true =>
      rw [hb] at hq
      have := Nat.eq_of_beq_eq_true hb
      subst this
      simp only [Out.ex, Exit.inBlock, if_true]
      exact ⟨_, _, hq, rfl, own1, J1.s.trim _, J1.f, J1.e, J1.q⟩
    | false =>
      rw [hb] at hq
      simp only [Out.ex, Exit.inBlock, if_neg (beq_ne.1 hb)]
      exact ⟨_, _, hq, rfl, own1, J1⟩
  | goto l s => subst he; exact ⟨_, _, hq, rfl, own1, J1⟩
  | ret s => subst he; exact ⟨_, _, hq, rfl, own1, J1⟩
theorem Zvu (I : Nat → St → Option (Value × List Int) → Prop) {n : Nat} (h0' : I n st q) (round : ∀ m s q1, I m s q1 → TJ C fa w0 Zbo h0 c s q1 fun o q' => match o with
    | .norm s' => ∃ k s2, k < m ∧ I k s2 q' ∧ Sub s2 s'
    | o => Q o q') : TJ C fa w0 Zbo h0 (.loop c) st q Q := by
  intro own a w J
  refine ZgJ (fun n a' w' => ∃ s q1 own1, I n s q1 ∧ JR C.P fa w0 Zbo h0 q1 s own1 a' w') n ⟨st, q, own, h0', J⟩ ?_
  rintro n a' w' ⟨s, q1, own1, hI, J1⟩
  refine wp_mono (round n s q1 hI own1 a' w' J1) ?_
  rintro e a2 w2 ⟨o, q2, hq, he, own2, J2⟩
  cases o with
  | norm s' =>
    subst he
    obtain ⟨k, s2, hk, hI2, hs⟩ := hq
    exact ⟨k, hk, s2, q2, own2, hI2, J2.sub hs⟩
  | exit id s => subst he; exact ⟨_, _, hq, rfl, own2, J2⟩
  | goto l s => subst he; exact ⟨_, _, hq, rfl, own2, J2⟩
  | ret s => subst he; exact ⟨_, _, hq, rfl, own2, J2⟩
theorem Zw7 {id : Nat} (hq : Q (.exit id st) q) : TJ C fa w0 Zbo h0 (.exit id) st q Q := Zw8 (Zot (Q := fun o => o = .exit id st) rfl) fun o ho => by subst ho; exact hq
theorem ZlR (hq : Q (.norm st) q) : TJ C fa w0 Zbo h0 .skip st q Q := Zw8 (Zkz (Q := fun o => o = .norm st) rfl) fun o ho => by subst ho; exact hq
theorem ZyQ (hn : Zbj C.P) (hm : C.P.follows .mixedOrders = true) (hK : Zba C.P call) {n : Nat} {out : Out} (hok : okC fa c = true) (h : evQ C call fa n c st = some out) (hq : Q out q) : TJ C fa w0 Zbo h0 c st q Q :=
  Zw8 (Zcj hn hm hK (Q := fun o => o = out) hok h rfl) fun o ho => by subst ho; exact hq
def OpJ (C : Ctx) (fa : FA) (w0 : World) (Zbo : Own) (h0 : List AObj) (o : Oper) (st : St) (q : Option (Value × List Int)) (Q : St → Option (Value × List Int) → Prop) : Prop := ∀ own a w, JR C.P fa w0 Zbo h0 q st own a w →
  ∀ (K : Act → World → Prop) (X : Exit → Act → World → Prop), (∀ a' w' s own' q', Q s q' → JR C.P fa w0 Zbo h0 q' s own' a' w' → K a' w') → o.wp C.P a w K X
theorem ZgA (hn : Zbj C.P) (hK : Zba C.P call) {id : Nat} {pre post : List Oper} {o : Oper} {ops : Array Oper} (hops : ops.toList = pre ++ o :: post) (he : Zan C call fa (pre ++ o :: post) pre st = some st1) (hg : o.guard = none)
    {Q3 : St → Option (Value × List Int) → Prop} (ho : OpJ C fa w0 Zbo h0 o st1 q Q3) (hq : ∀ s q', Q3 s q' → ∃ s2, Zan C call fa (pre ++ o :: post) post s = some s2 ∧ Q (.norm { s2 with tmp := [] }) q') : TJ C fa w0 Zbo h0 (.region id ops false) st q Q := by
  intro own a w J
  refine wp_region_list ?_
  rw [hops]
  have hall : (pre ++ o :: post).toArray = ops := by rw [← hops]
  have key : wpList C.P (pre ++ o :: post).toArray (fun e a' w' => ∃ o q', Q o q' ∧ e = o.ex ∧ ∃ own', JR C.P fa w0 Zbo h0 q' o.st own' a' w') (pre ++ o :: post) a w := by
    refine ZeO hn hK pre st own a w he J.s fun a1 w1 own1 S1 F1 E1 => ?_
    simp only [wpList]
    have hw : Region.wanted o (yielded (pre ++ o :: post).toArray a1.tmps) = true := by
      unfold Region.wanted
      rw [hg]
    rw [if_pos hw]
    left
    refine ho own1 a1 w1 ⟨S1, J.f.trans F1, J.e.trans E1, J.q.frm F1⟩ _ _ fun a2 w2 s2 own2 q2 hq2 J2 => ?_
    obtain ⟨s3, e3, hq3⟩ := hq s2 q2 hq2
    exact Zdd hn hK post s2 own2 a2 w2 e3 J2.s fun a3 w3 own3 S3 F3 E3 => ⟨_, _, hq3, rfl, own3, S3.dropTmp, J2.f.trans F3, J2.e.trans E3, J2.q.frm F3⟩
  rw [hall] at key
  exact key
theorem Zlt {v u : Value} (h : ARep C.P w own h0 u (.raw v)) : u = v := by cases h; rfl
theorem Zs4 (hn : Zbj C.P) (hK : Zba C.P call) {o : Oper} {u : Nat} {v : Value} {qs : List Int} (hu : Zab st.tmp u = some (.a (.raw v))) (he : Zeh C call fa o { st with tmp := ins st.tmp u (.a (.d (ints qs))) } = some st2) :
    OpJ C fa w0 Zbo h0 o st (some (v, qs)) fun s q' => s = st2 ∧ q' = some (v, qs) := by
  intro own a w J K X hKK
  have hv : a.tmps.getD u undef = v := Zlt (J.s.tmp u _ hu)
  have S' : SRel C.P fa own { st with tmp := ins st.tmp u (.a (.d (ints qs))) } a w := by
    refine ⟨J.s.h, J.s.nt, J.s.defers, J.s.ek, fun t x ht => ?_, J.s.env, fun t x ht => ?_⟩
    · simp only [Za2] at ht
      cases hb : Nat.beq u t with
      | true =>
        have := Nat.eq_of_beq_eq_true hb
        subst this
        exact J.s.tk _ _ hu
      | false => rw [hb] at ht; exact J.s.tk _ _ ht
    · simp only [Za2] at ht
      cases hb : Nat.beq u t with
      | true =>
        have := Nat.eq_of_beq_eq_true hb
        subst this
        rw [hb] at ht
        simp only [cond_true, Option.some.injEq] at ht
        subst ht
        exact .d _ _ (by rw [hv]; exact J.q.rep)
      | false => rw [hb] at ht; exact J.s.tmp _ _ ht
  exact ZmU hn hK S' he K X fun a' w' own' S F E => hKK a' w' _ own' _ ⟨rfl, rfl⟩ ⟨S, J.f.trans F, J.e.trans E, J.q.frm F⟩
theorem Ybg {d : Nat} {v : Value} (h1 : has fa.keep d = false) (h2 : Nat.blt d fa.nt = true) : st.put fa (some d) (.a (.raw v)) = some { st with tmp := ins st.tmp d (.a (.raw v)) } := by
  simp only [St.put, h1, h2, cond_true, cond_false]
theorem SRel.owned (S : SRel C.P fa own st a w) (E : ExtA w own st.heap w' own' st.heap) (hb : ∀ b id, own b = some (.obj id, 0) → w'.heap[b]? = w.heap[b]?) (hi : ∀ b x f, x ≠ .ext → own' b = some (x, f) → own b = some (x, f))
    (hl : ∀ b x, own' b = some x → b < w'.heap.size) (hk : ∀ x, x ≠ .ext → Keep w own w' own' x) : SRel C.P fa own' st a w' := by
  refine ⟨⟨fun id o ho => ?_, fun b b' x f f' h1 h2 hx => S.h.uniq b b' x f f' (hi _ _ _ hx h1) (hi _ _ _ hx h2) hx, hl, fun b id f h => S.h.idlt b id f (hi _ _ _ (by simp) h)⟩, S.nt, S.defers, S.ek, S.tk,
    fun s sv hs => (S.env s sv hs).mono E (hk _ (by simp)) (hk _ (by simp)), fun t x ht => (S.tmp t x ht).mono E (fun s _ _ b hb => (hk (.box s) (by simp) b 0 hb).1) (hk _ (by simp)) (fun _ _ _ _ he => ⟨he, rfl⟩)⟩
  obtain ⟨b, h1, r⟩ := S.h.obj id o ho
  exact ⟨b, (E.blk b id o o h1 ho ho (AObj.stays_refl o)).1, r.mono E (hb b id h1)⟩
end
end Go.Abs
namespace Go.Abs
section
variable {C : Ctx} {call : Zaa} {fa : FA} {own own' own1 Zbo : Own} {st st' st1 st2 s t : St} {a a1 : Act} {w w' w1 w0 : World} {h0 : List AObj} {q q1 : Option (Value × List Int)}
theorem Zr7 (J : JR C.P fa w0 Zbo h0 q st own a w) {d : Nat} {v : Value} (h1 : has fa.keep d = false) (h2 : Nat.blt d fa.nt = true) (hv : v.oneCell' = true) : JR C.P fa w0 Zbo h0 q { st with tmp := ins st.tmp d (.a (.raw v)) } own (a.put (some d) v) w :=
  ⟨J.s.put (dst := some d) (x := .a (.raw v)) (fun t _ => .raw _ hv) (Ybg h1 h2), J.f, J.e, J.q⟩
theorem ZxT {o : Oper} {t e : TypeId} {i : TypeInfo} {u d : Nat} {n : Int} {r : List Int} {v : Value} (hop : o.op = .slice t (.tmp u) (some (.const (.int .i64 1))) none none) (hd : o.dst = some d) (hu : Zab st.tmp u = some (.a (.raw v)))
    (ht : C.P.underlying t = some (.slice e)) (hi : C.P.info? e = some i) (hs : i.size = 1) (h1 : has fa.keep d = false) (h2 : Nat.blt d fa.nt = true) :
    OpJ C fa w0 Zbo h0 o st (some (v, n :: r)) fun s q' => ∃ v', s = { st with tmp := ins st.tmp d (.a (.raw v')) } ∧ q' = some (v', r) := by
  intro own a w J K X hKK
  have hv : a.tmps.getD u undef = v := Zlt (J.s.tmp u _ hu)
  have hq := J.q
  obtain ⟨b, p, cap, c, T, f, rfl, k2, k3, k4, k5, k6, k7, k8, k9⟩ := hq
  simp only [List.length_cons] at k3 k4 k8
  have hb : ZbO (r.length + 1) 0 (some (.int .i64 1)) = some 1 := by
    simp only [ZbO]
    rw [if_pos (by constructor <;> omega)]; rfl
  obtain ⟨hrun, _, _⟩ := Zdp (C := C) (isS := true) (len := r.length + 1) (cap := cap) (hi := none) (lo := some (.const (.int .i64 1))) J.s rfl (h := none) rfl rfl hb k8
  have hval : (execOp a.eval o).run C.P w = .ok (.value (.slice (if cap = 1 then some ⟨b, p, none⟩ else some ⟨b, p + 1, none⟩) r.length (cap - 1))) w := by
    have he : a.eval (.tmp u) = .slice (some ⟨b, p, none⟩) (r.length + 1) cap := hv
    have : (Instr.slice t (a.eval (.tmp u)) ((some (Operand.const (.int .i64 1))).map a.eval) ((none : Option Operand).map a.eval) none).run C.P w = .ok (.slice (if cap = 1 then some ⟨b, p, none⟩ else some ⟨b, p + 1, none⟩) r.length (cap - 1)) w := by
      unfold Instr.slice
      rw [he]
      simp only [Sem.run_bind, run_underlying ht, Result.andThen_ok, hrun, sizeOf, typeInfo, run_program, hi, hs, Sem.run_pure, Addr.add_lit, Nat.mul_one, Nat.add_sub_cancel]
      split <;> rfl
    have h3 : (Instr.sliceAt t (a.eval (.tmp u)) ((some (Operand.const (.int .i64 1))).map a.eval) ((none : Option Operand).map a.eval) none).run C.P w = .ok (.slice (if cap = 1 then some ⟨b, p, none⟩ else some ⟨b, p + 1, none⟩) r.length (cap - 1)) w := by
      unfold Instr.sliceAt
      simp only [Sem.run_bind, run_underlying ht, Result.andThen_ok]
      exact this
    simp only [execOp, hop, Option.map_none, Sem.run_bind]
    simp only [Option.map_none] at h3
    rw [h3]
    rfl
  unfold Oper.wp
  rw [hval]
  show K (a.put o.dst _) _
  rw [hd]
  refine hKK _ _ _ own (some (.slice (if cap = 1 then some ⟨b, p, none⟩ else some ⟨b, p + 1, none⟩) r.length (cap - 1), r)) ⟨_, rfl, rfl⟩ ?_
  have J' : JR C.P fa w0 Zbo h0 none st own a w := ⟨J.s, J.f, J.e, trivial⟩
  have J2 := Zr7 J' (d := d) (v := .slice (if cap = 1 then some ⟨b, p, none⟩ else some ⟨b, p + 1, none⟩) r.length (cap - 1)) h1 h2 (by split <;> rfl)
  refine ⟨J2.s, J2.f, J2.e, ?_⟩
  by_cases hc : cap = 1
  · rw [if_pos hc]
    have hr : r = [] := List.eq_nil_of_length_eq_zero (by omega)
    subst hr
    refine ⟨b, p, cap - 1, c, T, f, rfl, k2, by simp only [List.length_nil]; omega, fun h => by simp only [List.length_nil] at h; omega, k5, k6, by omega, by simp, fun j m hj => by simp at hj⟩
  · rw [if_neg hc]
    refine ⟨b, p + 1, cap - 1, c, T, f, rfl, k2, by omega, fun h => by have := k4 (by omega); omega, k5, k6, by omega, by omega, fun j m hj => ?_⟩
    rw [show p + 1 + j = p + (j + 1) by omega]
    exact k9 (j + 1) m (by rw [List.getElem?_cons_succ]; exact hj)
theorem YbS {o : Oper} {t : TypeId} {ps : Array (Nat × Operand)} {d : Nat} {n : Int} (hop : o.op = .buildSlice t 1 ps) (hd : o.dst = some d) (he : Zae C t 1 st ps.toList = some [.int .i64 n]) (h1 : has fa.keep d = false) (h2 : Nat.blt d fa.nt = true) :
    OpJ C fa w0 Zbo h0 o st none fun s q' => ∃ v', s = { st with tmp := ins st.tmp d (.a (.raw v')) } ∧ q' = some (v', [n]) := by
  intro own a w J K X hKK
  obtain ⟨e, inf, c, hu, hi, hs0, hn, hn0, hmax, hcs, hsz, k1, k2, hrun⟩ := ZrX J.s hop he
  have hs : inf.size = 1 := (hsz _ (List.mem_singleton.2 rfl)).symm
  have g := Grow.alloc w (.cells c e)
  have hc0 : c[0]? = some (.int .i64 n) := by
    have hl : 0 < c.size := by rw [hcs, hs]; decide
    have hu := Array.getElem?_eq_getElem hl
    have := k2 0 _ (.int .i64 n) hu rfl
    rw [hu, this.int_inv]
  unfold Oper.wp
  rw [hrun]
  show K (a.put o.dst _) _
  rw [hd]
  have E := ZnC J.s.h g (some (.ext, 1)) (h' := st.heap) (Nat.le_refl _) (fun id x x' h h' => by rw [h] at h'; simpa using h')
  have hup : ∀ k, k < w.heap.size → upd own w.heap.size (some (.ext, 1)) k = own k := fun k hk => by simp [upd, Nat.ne_of_lt hk]
  have hat : upd own w.heap.size (some (.ext, 1)) w.heap.size = some (.ext, 1) := by simp [upd]
  have S' : SRel C.P fa (upd own w.heap.size (some (.ext, 1))) st a (w.alloc (.cells c e)) := by
    refine J.s.owned E (fun b id hb => g.blk b (J.s.h.lt b _ hb)) (fun b x f hx hb => ?_) (fun b x hb => ?_) (fun x _ => Zku J.s.h g _ x)
    · by_cases hbw : b = w.heap.size
      · subst hbw; rw [hat] at hb; simp only [Option.some.injEq, Prod.mk.injEq] at hb; exact absurd hb.1.symm hx
      · simpa [upd, hbw] using hb
    · rw [ZdV]
      by_cases hbw : b = w.heap.size
      · omega
      · have : own b = some x := by simpa [upd, hbw] using hb
        have := J.s.h.lt b _ this
        omega
  have J2 : JR C.P fa w0 Zbo h0 none st (upd own w.heap.size (some (.ext, 1))) a (w.alloc (.cells c e)) := ⟨S', J.f.trans (ZgK g _), J.e.trans E, trivial⟩
  have J3 := Zr7 J2 (d := d) (v := .slice (some ⟨w.heap.size, 0, none⟩) 1 1) h1 h2 rfl
  refine hKK _ _ _ _ (some (.slice (some ⟨w.heap.size, 0, none⟩) 1 1, [n])) ⟨_, rfl, rfl⟩ ⟨J3.s, J3.f, J3.e, ?_⟩
  refine ⟨w.heap.size, 0, 1, c, e, 1, rfl, hat, by simp, fun h => by simp at h, J.f.size, ZeA w _, by rw [hcs, hs]; decide, by simp, fun j m hj => ?_⟩
  rcases j with _ | j
  · simp only [List.getElem?_cons_zero, Option.some.injEq] at hj; subst hj; simpa using hc0
  · simp at hj
theorem YbF {o : Oper} {cl : Call} {t : TypeId} {u x d : Nat} {n : Int} {qs : List Int} {v : Value} (hop : o.op = .call cl) (hc : cl.callee = .builtin .append) (ha : cl.args.toList = [.tmp u, .tmp x]) (ht : cl.argTypes.toList = [t, t]) (hd : o.dst = some d)
    (hu : Zab st.tmp u = some (.a (.raw v))) (hx : opD st (.tmp x) = some (.slc [.int .i64 n])) (hsz : C.elemSize t = some 1) (hroom : ZbL C t (qs.length + 1) = true) (hok : C.elemOk t 1 = true) (h1 : has fa.keep d = false) (h2 : Nat.blt d fa.nt = true) :
    OpJ C fa w0 Zbo h0 o st (some (v, qs)) fun s q' => ∃ v', s = { st with tmp := ins st.tmp d (.a (.raw v')) } ∧ q' = some (v', qs ++ [n]) := by
  intro own a w J K X hKK
  have hv : a.eval (.tmp u) = v := Zlt (J.s.tmp u _ hu)
  obtain ⟨e, i, zv, zd, hun, hi, hs, hiz, hzs, hpos, _, _, _⟩ := ZdR hsz hok
  obtain ⟨r1, r2⟩ := ZdN hun hi hroom
  obtain ⟨xb, xc, news, hxv, hnl, hf, h1', hnr⟩ := ZoF (C := C) (Zbv J.s hx) (sz := i.size) (fun e he => by simp at he; subst he; exact hs.symm)
  rw [hxv] at hf
  simp only [List.length_cons, List.length_nil, Nat.zero_add, hs, Nat.mul_one] at hnl hf
  obtain ⟨un, rfl⟩ := List.length_eq_one_iff.1 hnl
  have hun' : un = .int .i64 n := (hnr 0 un (.int .i64 n) rfl rfl).int_inv
  subst hun'
  have hq := J.q
  obtain ⟨b, p, cap, c, T, f, hve, k2, k3, k4, k5, k6, k7, k8, k9⟩ := hq
  have hlq : (qs ++ [n]).length = qs.length + 1 := by simp
  unfold Oper.wp
  rcases Nat.lt_or_ge cap (qs.length + 1) with hfull | hin
  · have hol : ((c.toList.drop p).take qs.length).length = qs.length * i.size := by
      have hcp : qs.length ≤ c.size - p := by omega
      rw [List.length_take, List.length_drop, Array.length_toList, hs, Nat.mul_one]; exact Nat.min_eq_left hcp
    have hfirst : ∀ w', w'.heap = w.heap → (Builtin.firstCells i.size qs.length (.slice (some ⟨b, p, none⟩) qs.length cap)).run C.P w' = .ok ((c.toList.drop p).take qs.length).toArray w' := by
      intro w' hw
      refine run_firstCells_some _ _ _ _ _ _ _ hol (fun j v h => ?_)
      rw [List.getElem?_take] at h
      split at h
      · rw [List.getElem?_drop] at h
        rw [Addr.add_lit, cell_of_row w' b _ c T (0, 0) (by rw [hw, k6])]
        simpa using h
      · cases h
    obtain ⟨nc, c', hrun, hge, hnm, hcs, hget⟩ := Zdz (ty := o.type) (m := 1) (news := [.int .i64 n]) (xb := xb) (xc := xc) hun hi hiz (by rw [hzs, hs]) hfirst hol (by rw [hs]; rfl) (by simpa [hs] using hf) hfull r2 r1
    have hrun' := Zce (C := C) (a := a) hop hc ha ht (by rw [hv, hve, hxv]; exact hrun)
    rw [hrun']
    show K (a.put o.dst _) _
    rw [hd]
    have g := ZiX w (.cells c' e)
    have E := ZnC J.s.h g (some (.ext, qs.length + 1)) (h' := st.heap) (Nat.le_refl _) (fun id x x' h h' => by rw [h] at h'; simpa using h')
    have hat : upd own w.heap.size (some (.ext, qs.length + 1)) w.heap.size = some (.ext, qs.length + 1) := by simp [upd]
    have S' : SRel C.P fa (upd own w.heap.size (some (.ext, qs.length + 1))) st a (w.drew.alloc (.cells c' e)) := by
      refine J.s.owned E (fun b id hb => g.blk b (J.s.h.lt b _ hb)) (fun b x f hx hb => ?_) (fun b x hb => ?_) (fun x _ => Zku J.s.h g _ x)
      · by_cases hbw : b = w.heap.size
        · subst hbw; rw [hat] at hb; simp only [Option.some.injEq, Prod.mk.injEq] at hb; exact absurd hb.1.symm hx
        · simpa [upd, hbw] using hb
      · rw [ZkC]
        by_cases hbw : b = w.heap.size
        · omega
        · have : own b = some x := by simpa [upd, hbw] using hb
          have := J.s.h.lt b _ this
          omega
    have J2 : JR C.P fa w0 Zbo h0 none st (upd own w.heap.size (some (.ext, qs.length + 1))) a (w.drew.alloc (.cells c' e)) := ⟨S', J.f.trans (ZgK g _), J.e.trans E, trivial⟩
    have J3 := Zr7 J2 (d := d) (v := .slice (some ⟨w.heap.size, 0, none⟩) (qs.length + 1) nc) h1 h2 rfl
    refine hKK _ _ _ _ (some (.slice (some ⟨w.heap.size, 0, none⟩) (qs.length + 1) nc, qs ++ [n])) ⟨_, rfl, rfl⟩ ⟨J3.s, J3.f, J3.e, ?_⟩
    refine ⟨w.heap.size, 0, nc, c', e, qs.length + 1, by rw [hlq], hat, by rw [hlq]; omega, fun _ => by rw [hlq]; omega, J.f.size, ZfK w _, by rw [hcs, hs]; omega, by rw [hlq]; exact hge, fun j m hj => ?_⟩
    have hjl := (List.getElem?_eq_some_iff.1 hj).1
    rw [hlq] at hjl
    rw [Nat.zero_add, hget j (by rw [hs]; omega)]
    rcases Nat.lt_or_ge j qs.length with hlt | hge'
    · rw [List.getElem?_append_left (by rw [hol, hs]; omega), List.getElem?_take, if_pos hlt, List.getElem?_drop]
      rw [List.getElem?_append_left hlt] at hj
      simpa using k9 j m hj
    · have : j = qs.length := by omega
      subst this
      rw [List.getElem?_append_right (by rw [hol, hs]; omega), hol, hs]
      rw [List.getElem?_append_right (Nat.le_refl _)] at hj
      simp at hj ⊢
      rw [hj]
  · have hfp := k4 (by omega)
    obtain ⟨c', g1, g2, g3⟩ := ZcD (P := C.P) b (p + qs.length) T (0, 0) [.int .i64 n] 0 c w k6 (fun j _ hj => by simp at hj) (by simp; omega) h1'
    have hrun : (Builtin.append_ #[t, t] o.type #[.slice (some ⟨b, p, none⟩) qs.length cap, .slice xb 1 xc]).run C.P w = .ok (.slice (some ⟨b, p, none⟩) (qs.length + 1) cap) (w.setRow b c') := by
      have hf' := hf w rfl
      simp [Builtin.append_, run_underlying hun, sizeOf, typeInfo, hi, hs, Builtin.lenOf, hin, hf', Addr.add_lit, g1]
    have hrun' := Zce (C := C) (a := a) hop hc ha ht (by rw [hv, hve, hxv]; exact hrun)
    rw [hrun']
    show K (a.put o.dst _) _
    rw [hd]
    have hat : upd own b (some (.ext, f + 1)) b = some (.ext, f + 1) := by simp [upd]
    have hne : ∀ k, k ≠ b → upd own b (some (.ext, f + 1)) k = own k := fun k hk => by simp [upd, hk]
    have hblk : ∀ k, k ≠ b → (w.setRow b c').heap[k]? = w.heap[k]? := fun k hk => setRow_other w b k c' hk
    have hrow := setRow_heap w b c c' T (0, 0) k6
    have E : ExtA w own st.heap (w.setRow b c') (upd own b (some (.ext, f + 1))) st.heap := by
      refine ⟨⟨fun k o v hcv hp => ?_, fun k es m hk hn => ?_⟩, Nat.le_refl _, fun id x x' h h' => by rw [h] at h'; simp only [Option.some.injEq] at h'; subst h'; exact AObj.later_refl _, fun k id x x' hk h h' _ => ?_⟩
      · by_cases hkb : k = b
        · subst hkb
          have ho : o < f := hp _ _ k2
          refine ⟨?_, fun x g hx => by rw [hat] at hx; simp only [Option.some.injEq, Prod.mk.injEq] at hx; omega⟩
          rw [cell_of_row _ k o c' T (0, 0) hrow, g3 o, if_neg (by omega)]
          rw [cell_of_row w k o c T (0, 0) k6] at hcv
          exact hcv
        · exact ⟨by rw [Zcc (hblk k hkb), hcv], fun x g hx => hp x g (by rwa [hne k hkb] at hx)⟩
      · have hkb : k ≠ b := fun h => by subst h; rw [k2] at hn; cases hn
        exact ⟨by rw [hblk k hkb, hk], by rw [hne k hkb, hn]⟩
      · have hkb : k ≠ b := fun h => by subst h; rw [k2] at hk; cases hk
        exact ⟨by rw [hne k hkb, hk], fun cc TT fr hcc => ⟨cc, by rw [hblk k hkb, hcc], rfl⟩⟩
    have S' : SRel C.P fa (upd own b (some (.ext, f + 1))) st a (w.setRow b c') := by
      have hsize : (w.setRow b c').heap.size = w.heap.size := size_setRow w b c'
      refine J.s.owned E (fun k id hk => hblk k (fun h => by subst h; rw [k2] at hk; cases hk)) (fun k x g hx hk => ?_) (fun k x hk => ?_) (fun x hx k g hk => ?_)
      · by_cases hkb : k = b
        · subst hkb; rw [hat] at hk; simp only [Option.some.injEq, Prod.mk.injEq] at hk; exact absurd hk.1.symm hx
        · rwa [hne k hkb] at hk
      · rw [hsize]
        by_cases hkb : k = b
        · subst hkb; exact Za4 k6
        · rw [hne k hkb] at hk; exact J.s.h.lt k _ hk
      · have hkb : k ≠ b := fun h => by subst h; rw [k2] at hk; simp only [Option.some.injEq, Prod.mk.injEq] at hk; exact hx hk.1.symm
        exact ⟨by rw [hne k hkb, hk], hblk k hkb⟩
    have hF : Frm w0 Zbo (w.setRow b c') (upd own b (some (.ext, f + 1))) := by
      refine ⟨J.f.os, J.f.tape, J.f.output, by rw [size_setRow]; exact J.f.size, fun k hk ho => ?_⟩
      have hkb : k ≠ b := by omega
      obtain ⟨e1, e2⟩ := J.f.blk k hk ho
      exact ⟨by rw [hblk k hkb, e1], by rw [hne k hkb, e2]⟩
    have J2 : JR C.P fa w0 Zbo h0 none st (upd own b (some (.ext, f + 1))) a (w.setRow b c') := ⟨S', hF, J.e.trans E, trivial⟩
    have J3 := Zr7 J2 (d := d) (v := .slice (some ⟨b, p, none⟩) (qs.length + 1) cap) h1 h2 rfl
    refine hKK _ _ _ _ (some (.slice (some ⟨b, p, none⟩) (qs.length + 1) cap, qs ++ [n])) ⟨_, rfl, rfl⟩ ⟨J3.s, J3.f, J3.e, ?_⟩
    refine ⟨b, p, cap, c', T, f + 1, by rw [hlq], hat, by rw [hlq]; omega, fun _ => by rw [hlq]; omega, k5, hrow, by rw [g2]; exact k7, by rw [hlq]; exact hin, fun j m hj => ?_⟩
    have hjl := (List.getElem?_eq_some_iff.1 hj).1
    rw [hlq] at hjl
    rw [g3]
    rcases Nat.lt_or_ge j qs.length with hlt | hge'
    · rw [if_neg (by omega)]
      rw [List.getElem?_append_left hlt] at hj
      exact k9 j m hj
    · have : j = qs.length := by omega
      subst this
      rw [if_pos (by simp), Nat.add_zero, Nat.sub_self]
      rw [List.getElem?_append_right (Nat.le_refl _)] at hj
      simp at hj ⊢
      exact hj
end
end Go.Abs
namespace Go.Abs
def Zcn (n : Nat) (own : Own) : Own := fun b => match own b with
  | some (.obj id, f) => if id < n then some (.obj id, f) else none
  | x => x
inductive ShedV (n : Nat) (h : List AObj) : AV → AV → Prop where
  | d (x : DV) : ShedV n h (.d x) (.d x)
  | ptr (id off : Nat) (hid : id < n) : ShedV n h (.ptr id off) (.ptr id off)
  | mp (id : Nat) (hid : id < n) : ShedV n h (.mp id) (.mp id)
  | raw (v : Value) : ShedV n h (.raw v) (.raw v)
  | fn (f : FuncId) (as bs : List AV) (hl : as.length = bs.length) (hh : ∀ (i : Nat) a b, as[i]? = some a → bs[i]? = some b → ShedV n h a b) : ShedV n h (.fn f as) (.fn f bs)
  | frz (id : Nat) (es : List (DV × DV)) (hn : n ≤ id) (hh : h[id]? = some (.map (es.map fun p => (p.1, .d p.2)))) : ShedV n h (.mp id) (.d (.fmap es))
inductive ShedSV (n : Nat) (h : List AObj) : SV → SV → Prop where
  | val (a b : AV) (hv : ShedV n h a b) : ShedSV n h (.val a) (.val b)
  | box (cs : List DV) : ShedSV n h (.box cs) (.box cs)
inductive ShedO (n : Nat) (h : List AObj) : AObj → AObj → Prop where
  | var (cs ds : List AV) (hl : cs.length = ds.length) (hh : ∀ (i : Nat) a b, cs[i]? = some a → ds[i]? = some b → ShedV n h a b) : ShedO n h (.var cs) (.var ds)
  | map (es fs : List (DV × AV)) (hl : es.length = fs.length) (hh : ∀ (i : Nat) a b, es[i]? = some a → fs[i]? = some b → a.1 = b.1 ∧ ShedV n h a.2 b.2) : ShedO n h (.map es) (.map fs)
section
variable {C : Ctx} {call : Zaa} {fa : FA} {own own' own1 : Own} {st st2 : St} {a : Act} {w w0 : World} {n : Nat}
theorem Zge (n : Nat) (own : Own) (b : Nat) : (∃ id f, own b = some (.obj id, f) ∧ id < n ∧ Zcn n own b = some (.obj id, f)) ∨ (∃ id f, own b = some (.obj id, f) ∧ n ≤ id ∧ Zcn n own b = none) ∨ ((∀ id f, own b ≠ some (.obj id, f)) ∧ Zcn n own b = own b) := by
  unfold Zcn
  cases h : own b with
  | none => exact .inr (.inr ⟨fun id f e => (by cases e), rfl⟩)
  | some x =>
    obtain ⟨x, f⟩ := x
    cases x with
    | obj id =>
      simp only
      by_cases hi : id < n
      · rw [if_pos hi]; exact .inl ⟨id, f, rfl, hi, rfl⟩
      · rw [if_neg hi]; exact .inr (.inl ⟨id, f, rfl, by omega, rfl⟩)
    | _ => exact .inr (.inr ⟨fun id f e => (by cases e), rfl⟩)
theorem Zfk {b : Nat} {x : Owner} {f : Nat} (h : Zcn n own b = some (x, f)) : own b = some (x, f) := by
  rcases Zge n own b with ⟨id, g, h1, h2, h3⟩ | ⟨id, g, h1, h2, h3⟩ | ⟨h1, h2⟩
  · rw [h3] at h; rw [h1, h]
  · rw [h3] at h; cases h
  · rw [h2] at h; exact h
theorem Zg1 (w : World) : Ext w own w (Zcn n own) := by
  refine ⟨fun b o v hc hp => ⟨hc, fun x f hx => hp x f (Zfk hx)⟩, fun b es c hc hn => ⟨hc, ?_⟩⟩
  rcases Zge n own b with ⟨id, g, h1, h2, h3⟩ | ⟨id, g, h1, h2, h3⟩ | ⟨h1, h2⟩
  · rw [h1] at hn; cases hn
  · exact h3
  · rw [h2]; exact hn
def Ziq : AObj → AObj → Prop
  | .var _, .var _ => True
  | .map _, .map _ => True
  | _, _ => False
theorem ShedO.kind {h : List AObj} {o o2 : AObj} (r : ShedO n h o o2) : Ziq o o2 := by cases r <;> trivial
theorem ShedV.rep {P : Program} {h h2 : List AObj} (H : HRel P w own h) (hl : h2.length = n) (hk : ∀ (id : Nat) (o2 : AObj), h2[id]? = some o2 → ∃ o, h[id]? = some o ∧ Ziq o o2) {x y : AV} (s : ShedV n h x y) : ∀ {v : Value}, ARep P w own h v x → ARep P w (Zcn n own) h2 v y := by
  have keep : ∀ {b id f : Nat}, own b = some (.obj id, f) → id < n → Zcn n own b = some (.obj id, f) := fun {b id f} hb hi => by simp only [Zcn, hb, if_pos hi]
  induction s with
  | d x =>
    intro v r
    exact .d _ _ (r.d_inv.mono (Zg1 w))
  | raw v =>
    intro u r
    cases r with
    | raw _ h1 => exact .raw _ h1
  | ptr id off hid =>
    intro v r
    cases r with
    | ptr _ _ _ hid' hl' hv =>
      refine .ptr _ _ _ (by omega) (fun cs hcs => ?_) hv
      obtain ⟨o, h1, h2⟩ := hk id _ hcs
      cases o <;> simp only [Ziq] at h2
      obtain ⟨b, h3, h4⟩ := hl' _ h1
      exact ⟨b, keep h3 hid, h4⟩
  | mp id hid =>
    intro v r
    cases r with
    | mp _ _ hid' hl' hv =>
      refine .mp _ _ (by omega) (fun es hes => ?_) hv
      obtain ⟨o, h1, h2⟩ := hk id _ hes
      cases o <;> simp only [Ziq] at h2
      obtain ⟨b, h3, h4⟩ := hl' _ h1
      exact ⟨b, keep h3 hid, h4⟩
  | fn f as bs hlen hh ih =>
    intro v r
    cases r with
    | fn _ cs _ hl' hr =>
      refine .fn f cs bs (by rw [hl', hlen]) fun i u b hu hb => ?_
      · have hi : i < as.length := by rw [hlen]; exact (List.getElem?_eq_some_iff.1 hb).1
        exact ih i as[i] b (List.getElem?_eq_getElem hi) hb (hr i u _ hu (List.getElem?_eq_getElem hi))
  | frz id es hn hh =>
    intro v r
    cases r with
    | mp _ _ hid' hl' hv =>
      obtain ⟨b, h3, rfl⟩ := hl' _ hh
      obtain ⟨b', h4, m, clock, h5, h6, h7, h8⟩ := H.obj id _ hh
      have : b' = b := H.uniq _ _ _ _ _ h4 h3 (by simp)
      subst this
      have hnone : Zcn n own b' = none := by simp only [Zcn, h3]; rw [if_neg (by omega)]
      refine .d _ _ (.fmap b' m clock es h5 hnone h6 (by simpa using h7) (fun i e d he hd => ?_) (fun i e d he hd => ?_))
      · exact ((h8 i e _ he (by rw [List.getElem?_map, hd]; rfl)).1).mono (Zg1 w)
      · exact ((h8 i e _ he (by rw [List.getElem?_map, hd]; rfl)).2.d_inv).mono (Zg1 w)
structure Sheds (n : Nat) (st st2 : St) : Prop where
  tmp : st2.tmp = []
  len : st2.heap.length = n
  heap : ∀ (id : Nat) o2, st2.heap[id]? = some o2 → ∃ o, st.heap[id]? = some o ∧ ShedO n st.heap o o2
  env : ∀ k v2, Zab st2.env k = some v2 → ∃ v, Zab st.env k = some v ∧ ShedSV n st.heap v v2
theorem SRel.shed (S : SRel C.P fa own st a w) (h : Sheds n st st2) : SRel C.P fa (Zcn n own) st2 a w := by
  have hk : ∀ (id : Nat) (o2 : AObj), st2.heap[id]? = some o2 → ∃ o, st.heap[id]? = some o ∧ Ziq o o2 := fun id o2 ho => by
    obtain ⟨o, h1, h2⟩ := h.heap id o2 ho
    exact ⟨o, h1, h2.kind⟩
  have rep : ∀ {x y : AV}, ShedV n st.heap x y → ∀ {v : Value}, ARep C.P w own st.heap v x → ARep C.P w (Zcn n own) st2.heap v y := fun {x y} sh {v} r => sh.rep S.h h.len hk r
  refine ⟨⟨fun id o2 ho => ?_, fun b b' x f f' h1 h2 hne => S.h.uniq b b' x f f' (Zfk h1) (Zfk h2) hne, fun b x hb => ?_, fun b id f hb => ?_⟩, S.nt, S.defers, fun k v hv => ?_, fun k x hx => (by rw [h.tmp] at hx; cases hx), fun k v hv => ?_, fun k x hx => (by rw [h.tmp] at hx; cases hx)⟩
  · obtain ⟨o, h1, h2⟩ := h.heap id o2 ho
    obtain ⟨b, h3, h4⟩ := S.h.obj id o h1
    have hid : id < n := by rw [← h.len]; exact (List.getElem?_eq_some_iff.1 ho).1
    refine ⟨b, by simp only [Zcn, h3, if_pos hid], ?_⟩
    cases h2 with
    | var cs ds hl hh =>
      obtain ⟨c, T, fr, k1, k2, k3, k4⟩ := h4
      refine ⟨c, T, fr, k1, k2, by rw [k3, hl], fun j x hx => ?_⟩
      have hj : j < cs.length := by rw [hl]; exact (List.getElem?_eq_some_iff.1 hx).1
      obtain ⟨v, g1, g2, g3⟩ := k4 j _ (List.getElem?_eq_getElem hj)
      exact ⟨v, g1, g2, rep (hh j _ _ (List.getElem?_eq_getElem hj) hx) g3⟩
    | map es fs hl hh =>
      obtain ⟨m, clock, k1, k2, k3, k4⟩ := h4
      refine ⟨m, clock, k1, k2, by rw [k3, hl], fun j e x he hx => ?_⟩
      have hj : j < es.length := by rw [hl]; exact (List.getElem?_eq_some_iff.1 hx).1
      obtain ⟨g1, g2⟩ := k4 j e _ he (List.getElem?_eq_getElem hj)
      obtain ⟨g3, g4⟩ := hh j _ _ (List.getElem?_eq_getElem hj) hx
      exact ⟨by rw [← g3]; exact g1.mono (Zg1 w), rep g4 g2⟩
  · obtain ⟨x, f⟩ := x
    exact S.h.lt b _ (Zfk hb)
  · obtain ⟨h1, h2⟩ := S.h.idlt b id f (Zfk hb)
    refine ⟨?_, h2⟩
    rw [h.len]
    rcases Zge n own b with ⟨id', g, k1, k2, k3⟩ | ⟨id', g, k1, k2, k3⟩ | ⟨k1, k2⟩
    · rw [k3] at hb; cases hb; exact k2
    · rw [k3] at hb; cases hb
    · rw [k2] at hb; exact absurd hb (k1 id f)
  · obtain ⟨u, h1, _⟩ := h.env k v hv
    exact S.ek k u h1
  · obtain ⟨u, h1, h2⟩ := h.env k v hv
    have := S.env k u h1
    cases h2 with
    | val x y hs => exact rep hs this
    | box cs =>
      obtain ⟨b, c, T, fr, k1, k2, k3, k4, k5, k6⟩ := this
      refine ⟨b, c, T, fr, by simp only [Zcn, k1], k2, k3, k4, k5, fun j d hd => ?_⟩
      obtain ⟨u, g1, g2, g3⟩ := k6 j d hd
      exact ⟨u, g1, g2, g3.mono (Zg1 w)⟩
theorem Frm.shed {Zbo : Own} (F : Frm w0 Zbo w own) : Frm w0 Zbo w (Zcn n own) := by
  refine ⟨F.os, F.tape, F.output, F.size, fun b hb ho => ⟨(F.blk b hb ho).1, ?_⟩⟩
  rw [← (F.blk b hb ho).2]
  have h := (F.blk b hb ho).2
  rcases ho with ho | ⟨f, ho⟩
  · rw [h, ho]; simp [Zcn, h, ho]
  · rw [h, ho]; simp [Zcn, h, ho]
theorem ExtA.shed {Zbo : Own} {h0 : List AObj} (E : ExtA w0 Zbo h0 w own st.heap) (h : Sheds n st st2) (hn : h0.length ≤ n) : ExtA w0 Zbo h0 w (Zcn n own) st2.heap := by
  refine ⟨E.ext.trans (Zg1 w), by rw [h.len]; exact hn, fun id o o2 h1 h2 => ?_, fun b id o o2 hb h1 h2 hs => ?_⟩
  · obtain ⟨o', k1, k2⟩ := h.heap id o2 h2
    have := E.kind id o o' h1 k1
    cases k2 <;> cases o <;> simp only [AObj.later] at this ⊢
  · obtain ⟨o', k1, k2⟩ := h.heap id o2 h2
    have hs' : o.stays o' := by
      have := E.kind id o o' h1 k1
      cases k2 <;> cases o <;> simp only [AObj.later, AObj.stays] at this ⊢
    obtain ⟨g1, g2⟩ := E.blk b id o o' hb h1 k1 hs'
    have hid : id < n := by rw [← h.len]; exact (List.getElem?_eq_some_iff.1 h2).1
    exact ⟨by simp only [Zcn, g1, if_pos hid], g2⟩
theorem Zr6 {c : Code} {Q : Out → Prop} (hn : st.heap.length ≤ n) (h : Tri C fa c st fun o => match o with
    | .norm s => ∃ s2, Sheds n s s2 ∧ Q (.norm s2)
    | o => Q o) : Tri C fa c st Q := by
  intro own a w S
  refine wp_mono (h own a w S) ?_
  rintro e a' w' ⟨o, hq, r⟩
  have r' := r
  obtain ⟨he, own1, S1, F1, E1⟩ := r
  cases o with
  | norm s =>
    subst he
    obtain ⟨s2, hs, hq2⟩ := hq
    exact ⟨_, hq2, rfl, _, S1.shed hs, F1.shed, E1.shed hs hn⟩
  | exit id s => subst he; exact ⟨_, hq, r'⟩
  | goto l s => subst he; exact ⟨_, hq, r'⟩
  | ret s => subst he; exact ⟨_, hq, r'⟩
end
end Go.Abs
namespace Go.Tev
open Go.Abs
inductive TV (X : Nat → Type) : Type where
  | b (v : Bool)
  | i (k : IntKind) (n : Int)
  | s (v : List UInt8)
  | t (ty : Nat) (x : X ty)
  | l (e : Nat) (xs : List (X e))
  | m (k v : Nat) (es : List (X k × X v))
  | g (cs : List (TV X))
  | e0
  | nilm
  | nilp
  | nilf
  | nili
  | fn (f : Nat) (caps : List (TV X))
  | tup (vs : List (TV X))
  | ptr (j off : Nat)
  | osl (j g e : Nat) (n : Nat)
  | mp (j : Nat)
inductive TX (X : Nat → Type) : Type where
  | a (v : TV X)
  | sp (slot off : Nat)
  | fp (cs : List (TV X))
  | ap (j g e : Nat) (i : Nat) (off : Nat)
  | own (e : Nat) (xs : List (X e))
  | al (slot : Nat) (e : Nat) (xs : List (X e))
  | un
inductive TSV (X : Nat → Type) : Type where
  | val (v : TV X)
  | own (e : Nat) (xs : List (X e))
  | box (cs : List (TV X))
inductive TObj (X : Nat → Type) : Type where
  | arr (g : Nat) (ap : Bool) (e : Nat) (xs : List (X e))
  | var (cs : List (TV X))
  | map (k v : Nat) (es : List (X k × X v))
abbrev Zb6 := List (Nat × Bool)
structure TE (X : Nat → Type) where
  g : Zb6
  x : TX X
structure TSt (X : Nat → Type) where
  env : List (Nat × TSV X)
  tmp : List (Nat × TE X)
  heap : List (TObj X)
inductive PR (α : Type) : Type 1 where
  | tot (a : α)
  | part {β : Type} (p : Option β) (d : β) (f : β → α)
def PR.map {α β : Type} (h : α → β) : PR α → PR β
  | .tot a => .tot (h a)
  | .part p d f => .part p d (fun b => h (f b))
def PR.go {α R : Type} (g : Option Bool) (r : PR α) (k : α → Option R) : Option R := match r with
  | .tot a => k a
  | .part p d f => match g with
    | none => Option.bind p fun b => k (f b)
    | some c => Option.bind (cond c p (some d)) fun b => k (f b)
structure Uni where
  X : Nat → Type
  enc : (t : Nat) → X t → DV
  dflt : (t : Nat) → X t
  keq : (t : Nat) → X t → X t → Bool
  noMap : (t : Nat) → Bool
  isKey : (t : Nat) → Bool
  dok : (t : Nat) → Bool
  inj : (t : Nat) → Option (X t → TV X)
  cells : (t : Nat) → Option (X t → List (TV X))
  csz : (t : Nat) → Option Nat
  prj : (t : Nat) → TV X → Option (X t)
  pack : (t : Nat) → List (TV X) → Option (X t)
  zcells : (t : Nat) → Option (List (TV X))
  eqT : (t : Nat) → Option (X t → X t → Bool)
  bytes : (e : Nat) → Option ((List UInt8 → List (X e)) × (List (X e) → List UInt8))
def PX (X : Nat → Type) : List Nat → Type
  | [] => Unit
  | [t] => X t
  | t :: u :: r => X t × PX X (u :: r)
inductive AK where
  | ty (t : Nat)
  | fn (f : Nat)
def AK.tys : List AK → List Nat
  | [] => []
  | .ty t :: r => t :: AK.tys r
  | _ :: r => AK.tys r
structure TCall (X : Nat → Type) where
  dir : Bool
  ak : List AK
  rts : List Nat
  fn : PX X (AK.tys ak) → Option (PX X rts)
inductive RK where
  | map (k v : Nat)
  | var (ts : List Nat)
def RK.T (X : Nat → Type) : RK → Type
  | .map k v => List (X k × X v)
  | .var ts => PX X ts
def PR' (X : Nat → Type) : List RK → Type
  | [] => Unit
  | r :: l => r.T X × PR' X l
inductive AR where
  | ty (t : Nat)
  | fn (f : Nat)
  | ref (r : RK)
def AR.tys : List AR → List Nat
  | [] => []
  | .ty t :: r => t :: AR.tys r
  | _ :: r => AR.tys r
def AR.refs : List AR → List RK
  | [] => []
  | .ref k :: r => k :: AR.refs r
  | _ :: r => AR.refs r
structure TCallR (X : Nat → Type) where
  ak : List AR
  rts : List Nat
  fn : PX X (AR.tys ak) → PR' X (AR.refs ak) → Option (PX X rts × PR' X (AR.refs ak))
structure Cx where
  C : Ctx
  U : Uni
  T : List (Nat × TCall U.X)
  TR : List (Nat × TCallR U.X) := []
  lk : Nat → List Nat
def Ctx.elemT (C : Ctx) (t : TypeId) : Option Nat := match C.P.underlying t with
  | some (.slice e) => some e
  | _ => none
def Ctx.mapT (C : Ctx) (t : TypeId) : Option (Nat × Nat) := match C.P.underlying t with
  | some (.map k v) => some (k, v)
  | _ => none
section
variable (x : Cx)
abbrev Cx.X := x.U.X
def Zfg {X : Nat → Type} (t' t : Nat) (y : X t') : Option (X t) := if h : t' = t then some (h ▸ y) else none
def Zih {X : Nat → Type} (t' t : Nat) (y : List (X t')) : Option (List (X t)) := if h : t' = t then some (h ▸ y) else none
def TX.flat {X : Nat → Type} : TX X → TX X
  | .own e xs => .a (.l e xs)
  | .al _ e xs => .a (.l e xs)
  | y => y
def TX.copy {X : Nat → Type} : TX X → TX X
  | .own e xs => .a (.l e xs)
  | y => y
def Zyd {X : Nat → Type} : DV → Option (TV X)
  | .bool b => some (.b b)
  | .int k n => some (.i k n)
  | .str s => some (.s s)
  | .nilp => some .nilp
  | .nilm => some .nilm
  | .nilf => some .nilf
  | .nili => some .nili
  | .slc [] => some .e0
  | _ => none
def tdv {X : Nat → Type} : DV → Option (TV X)
  | .agg cs => (mapO Zyd cs).map .g
  | v => Zyd v
def Zw0 {X : Nat → Type} : TV X → Bool
  | .b _ => true
  | .i _ _ => true
  | .s _ => true
  | .e0 => true
  | .nilm => true
  | .nilp => true
  | .nilf => true
  | .nili => true
  | _ => false
def isD {X : Nat → Type} : TV X → Bool
  | .ptr _ _ => false
  | .osl _ _ _ _ => false
  | .mp _ => false
  | .fn _ [] => true
  | .fn _ _ => false
  | .tup _ => false
  | .g cs => cs.all Zw0
  | _ => true
def YdM (p : Nat × Bool) : Zb6 → Bool
  | [] => false
  | q :: r => bif Nat.beq p.1 q.1 && (p.2 == q.2) then true else YdM p r
def YaH : Zb6 → Zb6 → Bool
  | [], _ => true
  | p :: r, ch => YdM p ch && YaH r ch
def ZxE {X : Nat → Type} (s : TSt X) (ch : Zb6) : Operand → Option (TX X)
  | .tmp t => match Zab s.tmp t with
    | some e => bif YaH e.g ch then some e.x.copy else none
    | none => match Zab s.env t with
      | some (.val v) => some (.a v)
      | some (.own e xs) => some (.al t e xs)
      | some (.box _) => some (.sp t 0)
      | none => none
  | .const v => match ZeT v with
    | some d => match tdv d with
      | some y => some (.a y)
      | none => none
    | none => none
  | .func f => some (.a (.fn f []))
  | .global _ => none
def ZuQ {X : Nat → Type} (s : TSt X) (ch : Zb6) (o : Operand) : Option (TX X) := match ZxE s ch o with
  | some y => some y.flat
  | none => none
def Zfd {X : Nat → Type} (s : TSt X) (ch : Zb6) (o : Operand) : Option (TV X) := match ZuQ s ch o with
  | some (.a v) => some v
  | _ => none
def Cx.coerce (t : Nat) : TV x.X → Option (TV x.X)
  | .e0 => match Ctx.elemT x.C t with
    | some e => some (.l e [])
    | none => some .e0
  | .g cs => match x.U.pack t cs with
    | some y => some (.t t y)
    | none => none
  | v => some v
def Cx.coerceX (t : Nat) : TX x.X → Option (TX x.X)
  | .a v => match x.coerce t v with
    | some w => some (.a w)
    | none => none
  | y => some y
def Cx.vcells : TV x.X → Option (List (TV x.X))
  | .t ty y => match x.U.cells ty with
    | some f => some (f y)
    | none => none
  | .g cs => some cs
  | .tup _ => none
  | v => some [v]
def Cx.ld (t : Nat) (cs : List (TV x.X)) : Option (TV x.X) := match x.C.isAgg t with
  | some true => match x.C.size t with
    | some n => bif Nat.ble n cs.length then (match x.U.pack t (cs.take n) with
      | some y => some (.t t y)
      | none => none) else none
    | none => none
  | some false => match cs with
    | v :: _ => x.coerce t v
    | [] => none
  | none => none
def YdY {X : Nat → Type} (k : IntKind) (p : Option Int) : PR (TV X) := .part p 0 (.i k)
def YbO {X : Nat → Type} (op : BinOp) (k : IntKind) (a b : Int) : Option (PR (TV X)) := match op with
  | .add => some (.tot (.i k (k.wrap (a + b))))
  | .sub => some (.tot (.i k (k.wrap (a - b))))
  | .mul => some (.tot (.i k (k.wrap (a * b))))
  | .and => some (.tot (.i k (k.wrap (BitVec.ofInt k.bits a &&& BitVec.ofInt k.bits b).toNat)))
  | .or => some (.tot (.i k (k.wrap (BitVec.ofInt k.bits a ||| BitVec.ofInt k.bits b).toNat)))
  | .xor => some (.tot (.i k (k.wrap (BitVec.ofInt k.bits a ^^^ BitVec.ofInt k.bits b).toNat)))
  | .eql => some (.tot (.b (a == b)))
  | .neq => some (.tot (.b (a != b)))
  | .lss => some (.tot (.b (decide (a < b))))
  | .leq => some (.tot (.b (decide (a ≤ b))))
  | .gtr => some (.tot (.b (decide (a > b))))
  | .geq => some (.tot (.b (decide (a ≥ b))))
  | .quo => some (YdY k (if b = 0 then none else some (k.wrap (a.tdiv b))))
  | .rem => some (YdY k (if b = 0 then none else some (a.tmod b)))
  | _ => none
def Ye7 (op : BinOp) (t : Nat) : TV x.X → TV x.X → Option (PR (TV x.X))
  | .i k a, .i k' b => match op with
    | .shl => some (YdY k (if b < 0 then none else some (k.wrap (a * 2 ^ (min b.toNat k.bits)))))
    | .shr => some (YdY k (if b < 0 then none else some (a.fdiv (2 ^ (min b.toNat k.bits)))))
    | _ => bif decide (k = k') then YbO op k a b else none
  | .s a, .s b => match op with
    | .add => some (.part (if a.length + b.length ≤ 2 ^ 40 then some (a ++ b) else none) [] .s)
    | .eql => some (.tot (.b (a == b)))
    | .neq => some (.tot (.b (a != b)))
    | .lss => some (.tot (.b (Op.bytesLess a b)))
    | .leq => some (.tot (.b (Op.bytesLess a b || a == b)))
    | .gtr => some (.tot (.b (!(Op.bytesLess a b || a == b))))
    | .geq => some (.tot (.b (!Op.bytesLess a b)))
    | _ => none
  | .b a, .b b => match op, x.C.isBool t with
    | .eql, true => some (.tot (.b (a == b)))
    | .neq, true => some (.tot (.b (a != b)))
    | _, _ => none
  | .t ty a, .t ty' b => match Zfg ty' ty b, x.U.eqT ty with
    | some b', some f => bif Nat.beq ty t then (match op with
      | .eql => some (.tot (.b (f a b')))
      | .neq => some (.tot (.b (!(f a b'))))
      | _ => none) else none
    | _, _ => none
  | .m _ _ _, .nilm => match op, x.C.isMap t with
    | .eql, true => some (.tot (.b false))
    | .neq, true => some (.tot (.b true))
    | _, _ => none
  | .mp _, .nilm => match op, x.C.isMap t with
    | .eql, true => some (.tot (.b false))
    | .neq, true => some (.tot (.b true))
    | _, _ => none
  | _, _ => none
def unT {X : Nat → Type} (op : UnOp) : TV X → Option (PR (TV X))
  | .i k n => match op with
    | .neg => some (.tot (.i k (k.wrap (0 - n))))
    | _ => none
  | .b b => match op with
    | .not => some (.tot (.b (!b)))
    | _ => none
  | _ => none
def Yfz (h : List (TObj x.X)) (t : Nat) : TV x.X → Option (PR (TV x.X))
  | .s s => bif x.C.isStr t then some (.tot (.i .i64 s.length)) else none
  | .l e xs => match x.C.elemSize t with
    | some _ => some (.tot (.i .i64 xs.length))
    | none => none
  | .e0 => match x.C.elemSize t with
    | some _ => some (.tot (.i .i64 0))
    | none => none
  | .osl j g e n => match x.C.elemSize t with
    | some _ => some (.tot (.i .i64 n))
    | none => none
  | .mp j => match h[j]? with
    | some (.map k v es) => bif x.C.isMap t then some (.tot (.i .i64 es.length)) else none
    | _ => none
  | _ => none
def Ybc {X : Nat → Type} : List (TV X) → Option (PR (TV X))
  | [.i k a, .i k' b] => some (.tot (.i k (if b > a then b else a)))
  | _ => none
def Yb7 {X : Nat → Type} : List (TV X) → Option (PR (TV X))
  | [.i k a, .i k' b] => some (.tot (.i k (if b < a then b else a)))
  | _ => none
def YaS (h : List (TObj x.X)) (s t : Nat) : TV x.X → Option (PR (TV x.X))
  | .i _ n => match x.C.P.underlying s, x.C.intKind t with
    | some _, some k => some (.tot (.i k (k.wrap n)))
    | _, _ => none
  | .s b => bif x.C.isStr s && x.C.isStr t then some (.tot (.s b)) else none
  | .osl j g e n => bif x.C.isBytes s && x.C.isStr t then match h[j]?, x.U.bytes e with
      | some (.arr g' _ e' xs), some (_, f) => match Zih e' e xs with
        | some ys => bif Nat.beq g g' then some (.part (if n ≤ ys.length then some (f (ys.take n)) else none) [] .s) else none
        | none => none
      | _, _ => none
    else none
  | .l e xs => bif x.C.isBytes s && x.C.isStr t then match x.U.bytes e with
      | some (_, f) => some (.tot (.s (f xs)))
      | none => none
    else none
  | _ => none
def ZfX {α : Type} (xs : List α) (i : Int) : Option α := if 0 ≤ i then xs[i.toNat]? else none
def ZsI {α : Type} (xs : List α) (lo hi : Int) : Option (List α) := if 0 ≤ lo ∧ lo ≤ hi ∧ hi ≤ xs.length then some ((xs.take hi.toNat).drop lo.toNat) else none
def YbC {X : Nat → Type} (d : Int) : Option (TV X) → Option Int
  | none => some d
  | some (.i _ n) => some n
  | some _ => none
def Zr2 (t : Nat) (lo hi : Option (TV x.X)) : TV x.X → Option (PR (TV x.X))
  | .s s => bif x.C.isStr t then match YbC 0 lo, YbC s.length hi with
      | some a, some b => some (.part (ZsI s a b) [] .s)
      | _, _ => none
    else none
  | .l e xs => match Ctx.elemT x.C t, YbC 0 lo, YbC xs.length hi with
    | some e', some a, some b => bif Nat.beq e e' then (match (match x.C.elemSize t with
        | some sz => (match x.U.csz e with
          | some sz' => bif Nat.beq sz' sz then some () else none
          | none => none)
        | none => none) with
      | some _ => some (.part (ZsI xs a b) [] (.l e))
      | none => none) else none
    | _, _, _ => none
  | _ => none
def Ybd {X : Nat → Type} (s : TSt X) (ch : Zb6) : Option Operand → Option (Option (TV X))
  | none => some none
  | some o => match Zfd s ch o with
    | some v => some (some v)
    | none => none
def ZiH {X : Nat → Type} : TX X → Option (TX X)
  | .a (.ptr j off) => some (.a (.ptr j off))
  | .sp s off => some (.sp s off)
  | .ap j g e i off => some (.ap j g e i off)
  | .fp cs => some (.fp cs)
  | _ => none
def Zjt (t : Nat) (f : Nat) (y : TX x.X) : Option (TX x.X) := match x.C.field t f with
  | none => none
  | some fd => bif x.C.hasSize fd.type then match y with
      | .sp s off => some (.sp s (off + fd.offset))
      | .fp cs => bif Nat.ble fd.offset cs.length then some (.fp (cs.drop fd.offset)) else none
      | .ap j g e i off => some (.ap j g e i (off + fd.offset))
      | .a (.ptr j off) => some (.a (.ptr j (off + fd.offset)))
      | _ => none
    else none
def Ztr (t : Nat) (f : Nat) (v : TV x.X) : Option (TV x.X) := match x.C.field t f with
  | none => none
  | some fd => match v with
    | .t ty y => match x.U.cells ty with
      | some f => (match x.C.isAgg ty with
        | some true => x.ld fd.type ((f y).drop fd.offset)
        | _ => none)
      | none => none
    | .g cs => x.ld fd.type (cs.drop fd.offset)
    | _ => none
def ZjD (h : List (TObj x.X)) (t : Nat) (v : TV x.X) (i : Int) : Option (PR (Option (TX x.X))) := match Ctx.elemT x.C t, x.C.elemSize t with
  | some e', some sz => match v with
    | .l e xs => match x.U.cells e, x.U.csz e with
      | some f, some sz' => bif Nat.beq e e' && Nat.beq sz sz' then some (.part (ZfX xs i) (x.U.dflt e) (fun y => some (.fp (f y)))) else none
      | _, _ => none
    | .osl j g e n => match h[j]? with
      | some (.arr g' _ e2 xs) => (match x.U.csz e with
        | some sz' => bif Nat.beq e e' && Nat.beq e e2 && Nat.beq g g' && Nat.beq sz sz' then some (.part (if 0 ≤ i ∧ i < n ∧ i < xs.length then some i.toNat else none) 0 (fun k => some (.ap j g e k 0))) else none
        | none => none)
      | _ => none
    | _ => none
  | _, _ => none
def ZsU (t : Nat) (v : TV x.X) (i : Int) : Option (PR (TV x.X)) := match v with
  | .s s => bif x.C.isStr t then some (.part (ZfX s i) 0 (fun b => .i .u8 b.toNat)) else none
  | _ => none
def Znt {X : Nat → Type} (v : TV X) (i : Nat) : Option (TV X) := match v with
  | .tup vs => vs[i]?
  | _ => none
def Zbu {α β : Type} (eq : α → α → Bool) (k : α) : List (α × β) → Option β
  | [] => none
  | (k', v) :: r => bif eq k k' then some v else Zbu eq k r
def Zgu {α β : Type} (eq : α → α → Bool) (k : α) (v : β) : List (α × β) → List (α × β)
  | [] => [(k, v)]
  | (k', u) :: r => bif eq k k' then (k, v) :: r else (k', u) :: Zgu eq k v r
def Ydz {α β : Type} (eq : α → α → Bool) (k : α) : List (α × β) → List (α × β)
  | [] => []
  | (k', u) :: r => bif eq k k' then r else (k', u) :: Ydz eq k r
def Zki {β : Type} (d : β) : Option β → β
  | some v => v
  | none => d
def Zy4 (t : Nat) (h : List (TObj x.X)) (v : TV x.X) (k : TV x.X) (ok : Bool) : Option (TV x.X) := match Ctx.mapT x.C t, x.C.mapZero t with
  | some (kt, vt), some _ => match x.U.prj kt k, x.U.inj vt with
    | some key, some inj => bif x.U.isKey kt && x.U.dok vt && x.C.keyOk t (x.U.enc kt key) then
        (match (match v with
          | .nilm => some none
          | .m kt' vt' es => (match Zfg (X := fun n => List (x.X n × x.X vt')) kt' kt es with
            | some es1 => (match Zfg (X := fun n => List (x.X kt × x.X n)) vt' vt es1 with
              | some es2 => some (Zbu (x.U.keq kt) key es2)
              | none => none)
            | none => none)
          | .mp j => (match h[j]? with
            | some (.map kt' vt' es) => (match Zfg (X := fun n => List (x.X n × x.X vt')) kt' kt es with
              | some es1 => (match Zfg (X := fun n => List (x.X kt × x.X n)) vt' vt es1 with
                | some es2 => some (Zbu (x.U.keq kt) key es2)
                | none => none)
              | none => none)
            | _ => none)
          | _ => none : Option (Option (x.X vt))) with
        | some r => some (bif ok then .tup [inj (Zki (x.U.dflt vt) r), .b r.isSome] else inj (Zki (x.U.dflt vt) r))
        | none => none)
      else none
    | _, _ => none
  | _, _ => none
def Zjj (U : Uni) : (ts : List Nat) → List (TV U.X) → Option (PX U.X ts)
  | [], [] => some ()
  | [t], [v] => U.prj t v
  | t :: u :: r, v :: vs => match U.prj t v with
    | some y => match Zjj U (u :: r) vs with
      | some ys => some (y, ys)
      | none => none
    | none => none
  | _, _ => none
def Zgh (U : Uni) : (ts : List Nat) → Option (PX U.X ts → List (TV U.X))
  | [] => some (fun _ => [])
  | [t] => match U.inj t with
    | some f => some (fun y => [f y])
    | none => none
  | t :: u :: r => match U.inj t, Zgh U (u :: r) with
    | some f, some g => some (fun y => f y.1 :: g y.2)
    | _, _ => none
def ZzX (U : Uni) : (ts : List Nat) → PX U.X ts
  | [] => ()
  | [t] => U.dflt t
  | t :: u :: r => (U.dflt t, ZzX U (u :: r))
def ZuN (U : Uni) : (ts : List Nat) → Option (PX U.X ts → TV U.X)
  | [t] => U.inj t
  | [] => some (fun _ => .tup [])
  | t :: u :: r => match Zgh U (t :: u :: r) with
    | some f => some (fun y => .tup (f y))
    | none => none
def ZeG {X : Nat → Type} : (ak : List AK) → List (TV X) → Option (List (TV X))
  | [], [] => some []
  | .fn f :: r, .fn f' [] :: vs => bif Nat.beq f f' then ZeG r vs else none
  | .ty t :: r, v :: vs => match ZeG r vs with
    | some ws => some (v :: ws)
    | none => none
  | _, _ => none
def Zvq (U : Uni) (ak : List AK) (vs : List (TV U.X)) : Option (PX U.X (AK.tys ak)) := match ZeG ak vs with
  | some ws => Zjj U (AK.tys ak) ws
  | none => none
def Zuw (f : Nat) (vs : List (TV x.X)) : List (Nat × TCall x.X) → Option (PR (TV x.X))
  | [] => none
  | (f', c) :: r => bif Nat.beq f f' then (match Zvq x.U c.ak vs with
      | some a => (match ZuN x.U c.rts with
        | some h => some (.part (c.fn a) (ZzX x.U c.rts) h)
        | none => none)
      | none => Zuw f vs r) else Zuw f vs r
def ZxF {X : Nat → Type} (s : TSt X) (ch : Zb6) : List Operand → Option (List (TV X))
  | [] => some []
  | o :: r => match Zfd s ch o with
    | some v => match ZxF s ch r with
      | some vs => some (v :: vs)
      | none => none
    | none => none
def YdO (h : List (TObj x.X)) : TV x.X → Option (TV x.X × Nat)
  | .mp j => match h[j]? with
    | some (.map k v es) => some (.m k v es, 1)
    | _ => none
  | .osl j g e n => none
  | .ptr _ _ => none
  | .fn _ _ => none
  | .tup _ => none
  | v => some (v, 0)
def ZwF (h : List (TObj x.X)) : List (TV x.X) → Option (List (TV x.X) × Nat)
  | [] => some ([], 0)
  | v :: r => match YdO x h v with
    | some (y, k) => match ZwF h r with
      | some (ys, n) => some (y :: ys, max k n)
      | none => none
    | none => none
def ZdM {X : Nat → Type} : (ak : List AR) → List (TV X) → Option (List (TV X) × List Nat)
  | [], [] => some ([], [])
  | .fn f :: r, .fn f' [] :: vs => bif Nat.beq f f' then ZdM r vs else none
  | .ty t :: r, v :: vs => match ZdM r vs with
    | some (ws, js) => some (v :: ws, js)
    | none => none
  | .ref (.map _ _) :: r, .mp j :: vs => match ZdM r vs with
    | some (ws, js) => some (ws, j :: js)
    | none => none
  | .ref (.var _) :: r, .ptr j 0 :: vs => match ZdM r vs with
    | some (ws, js) => some (ws, j :: js)
    | none => none
  | _, _ => none
def Ztz (U : Uni) : (r : RK) → TObj U.X → Option (r.T U.X)
  | .map k v, o => match o with
    | .map k' v' es => match Zfg (X := fun n => List (U.X n × U.X v')) k' k es with
      | some e1 => Zfg (X := fun n => List (U.X k × U.X n)) v' v e1
      | none => none
    | _ => none
  | .var ts, o => match o with
    | .var cs => match Zgh U ts with
      | some _ => Zjj U ts cs
      | none => none
    | _ => none
def Zr5 (U : Uni) : (r : RK) → r.T U.X → TObj U.X
  | .map k v, es => .map k v es
  | .var ts, y => match Zgh U ts with
    | some f => .var (f y)
    | none => .var []
def ZfP (U : Uni) (h : List (TObj U.X)) : (rs : List RK) → List Nat → Option (PR' U.X rs)
  | [], [] => some ()
  | r :: rs, j :: js => match h[j]? with
    | some o => match Ztz U r o with
      | some y => match ZfP U h rs js with
        | some ys => some (y, ys)
        | none => none
      | none => none
    | none => none
  | _, _ => none
def ZfQ (U : Uni) (h : List (TObj U.X)) : (rs : List RK) → List Nat → PR' U.X rs → List (TObj U.X)
  | [], _, _ => h
  | r :: rs, j :: js, y => ZfQ U (h.set j (Zr5 U r y.1)) rs js y.2
  | _ :: _, [], _ => h
def Zm1 : List Nat → Bool
  | [] => true
  | j :: r => !has r j && Zm1 r
end
end Go.Tev
namespace Go.Tev
open Go.Abs
section
variable (x : Cx)
def ZpQ (t : Nat) (c : Bool) : TV x.X → TV x.X → Option (PR (TV x.X))
  | .b a, .b b => some (.part (some (cond c a b)) a .b)
  | .i k a, .i k' b => bif decide (k = k') then some (.part (some (cond c a b)) a (.i k)) else none
  | .s a, .s b => some (.part (some (cond c a b)) a .s)
  | .t ty a, .t ty' b => match Zfg ty' ty b with
    | some b' => some (.part (some (cond c a b')) a (.t ty))
    | none => none
  | .l e a, .l e' b => match Zih e' e b with
    | some b' => some (.part (some (cond c a b')) a (.l e))
    | none => none
  | .e0, .l e b => some (.part (some (cond c [] b)) b (.l e))
  | .l e a, .e0 => some (.part (some (cond c a [])) a (.l e))
  | .e0, .e0 => some (.tot .e0)
  | .nilm, .nilm => some (.tot .nilm)
  | .nilf, .nilf => some (.tot .nilf)
  | .ptr j o, .ptr j' o' => bif Nat.beq j j' && Nat.beq o o' then some (.tot (.ptr j o)) else none
  | .mp j, .mp j' => bif Nat.beq j j' then some (.tot (.mp j)) else none
  | .osl j g e n, .osl j' g' e' n' => bif Nat.beq j j' && Nat.beq g g' && Nat.beq e e' then some (.part (some (cond c n n')) n (.osl j g e)) else none
  | _, _ => none
def Zmm {X : Nat → Type} (fa : FA) (ch : Zb6) (s : TSt X) (dst : Option Tmp) (y : TX X) : Option (TSt X) := match dst with
  | none => some s
  | some t => bif Nat.blt t fa.nt then bif has fa.keep t then (match ch, y.flat with
      | [], .a v => some { s with env := Zdk s.env t (.val v) }
      | _, _ => none)
    else (match Zab s.tmp t with
      | none => some { s with tmp := ins s.tmp t ⟨ch, y⟩ }
      | some _ => none) else none
def ZwZ (s : TSt x.X) (ty : Nat) : Operand → Option ((e : Nat) × List (x.X e))
  | .tmp t => match Zab s.tmp t with
    | some ⟨[], .own e xs⟩ => some ⟨e, xs⟩
    | some ⟨[], .al k _ _⟩ => match Zab s.env k with
      | some (.own e xs) => some ⟨e, xs⟩
      | _ => none
    | some _ => none
    | none => match Zab s.env t with
      | some (.own e xs) => some ⟨e, xs⟩
      | _ => none
  | .const (.slice none 0 0) => match Ctx.elemT x.C ty with
    | some e => some ⟨e, []⟩
    | none => none
  | _ => none
def Zm3 {X : Nat → Type} (s : TSt X) : Operand → Bool
  | .tmp t => match Zab s.tmp t with
    | some ⟨[], .a _⟩ => true
    | some _ => false
    | none => match Zab s.env t with
      | some (.val _) => true
      | _ => false
  | .const v => match v with
    | .slice none 0 0 => false
    | _ => true
  | .func _ => true
  | _ => false
def Zoe {X : Nat → Type} (s : Nat) : List (Nat × TE X) → List (Nat × TE X)
  | [] => []
  | (t, ⟨g, .al k e xs⟩) :: r => (t, ⟨g, bif Nat.beq k s then .a (.l e xs) else .al k e xs⟩) :: Zoe s r
  | e :: r => e :: Zoe s r
def Zgf {X : Nat → Type} (fa : FA) (s : TSt X) (dst : Option Tmp) (e : Nat) (xs : List (X e)) : Option (TSt X) := match dst with
  | none => none
  | some t => bif Nat.blt t fa.nt then bif has fa.keep t then some { s with env := Zdk s.env t (.own e xs), tmp := Zoe t s.tmp }
    else (match Zab s.tmp t with
      | none => some { s with tmp := ins s.tmp t ⟨[], .own e xs⟩ }
      | some _ => none) else none
def ZeX {X : Nat → Type} (s : TSt X) (t : Nat) : TSt X := match Zab s.env t with
  | some (.own e xs) => { s with env := Zdk s.env t (.val (.l e xs)) }
  | _ => s
def Zj6 {X : Nat → Type} (s : TSt X) : Operand → TSt X
  | .tmp t => match Zab s.tmp t with
    | some ⟨[], .own e xs⟩ => { s with tmp := ins s.tmp t ⟨[], .a (.l e xs)⟩ }
    | some ⟨[], .al k _ _⟩ => ZeX s k
    | some _ => s
    | none => ZeX s t
  | _ => s
def ZfA (s : TSt x.X) (ch : Zb6) : List (Nat × Operand) → Option (List (Nat × List (TV x.X)))
  | [] => some []
  | (i, o) :: r => match Zfd s ch o with
    | some v => bif isD v then match x.vcells v with
      | some cs => match ZfA s ch r with
        | some l => some ((i, cs) :: l)
        | none => none
      | none => none else none
    | none => none
def Zvj {X : Nat → Type} (f : Nat → Option (Nat × Nat)) (cells : List (TV X)) : List (Nat × List (TV X)) → Option (List (TV X))
  | [] => some cells
  | (i, cs) :: r => match f i with
    | some (off, size) => bif Nat.beq cs.length size then match Za1 cells off cs with
        | some c => Zvj f c r
        | none => none
      else none
    | none => none
def Zp9 (e : Nat) : Nat → List (Nat × Operand) → TSt x.X → Zb6 → Option (List (x.X e))
  | _, [], _, _ => some []
  | k, (i, o) :: r, s, ch => bif Nat.beq i k then match Zfd s ch o with
      | some v => match x.U.prj e v with
        | some y => match Zp9 e (k + 1) r s ch with
          | some ys => some (y :: ys)
          | none => none
        | none => none
      | none => none
    else none
def Zmr (U : Uni) (e sz : Nat) : Bool := match U.csz e with
  | some n => Nat.beq n sz
  | none => false
def ZfZ (t n : Nat) (s : TSt x.X) (ch : Zb6) (ps : List (Nat × Operand)) : Option ((e : Nat) × List (x.X e)) := match Ctx.elemT x.C t, x.C.elemSize t with
  | some e, some sz => match Zp9 x e 0 ps s ch with
    | some ys => bif Zmr x.U e sz && Nat.beq ys.length n && Nat.ble (n * sz) (2 ^ 24) && Nat.blt 0 (n * sz) && x.C.hasZero t then some ⟨e, ys⟩ else none
    | none => none
  | _, _ => none
def loadT (t : Nat) (s : TSt x.X) : TX x.X → Option (PR (Option (TX x.X)))
  | .sp k off => match Zab s.env k with
    | some (.box cs) => some (.tot ((x.ld t (cs.drop off)).map .a))
    | _ => none
  | .fp cs => some (.tot ((x.ld t cs).map .a))
  | .ap j g e i off => match s.heap[j]? with
    | some (.arr g' _ e' xs) => bif Nat.beq g' g then match Zih e' e xs, x.U.cells e with
      | some ys, some f => some (.part (ys[i]?) (x.U.dflt e) (fun y => (x.ld t ((f y).drop off)).map .a))
      | _, _ => none else none
    | _ => none
  | .a (.ptr j off) => match s.heap[j]? with
    | some (.var cs) => some (.tot ((x.ld t (cs.drop off)).map .a))
    | _ => none
  | _ => none
def prV {X : Nat → Type} : Option (PR (TV X)) → Option (PR (Option (TX X)))
  | some r => some (r.map fun v => some (.a v))
  | none => none
def prO {X : Nat → Type} : Option (TX X) → Option (PR (Option (TX X)))
  | some v => some (.tot (some v))
  | none => none
def prA {X : Nat → Type} : Option (TV X) → Option (PR (Option (TX X)))
  | some v => some (.tot (some (.a v)))
  | none => none
def Yeg (w : Bool) (c : Operand) (ch : Zb6) : Zb6 := match c with
  | .tmp t => (t, w) :: ch
  | _ => ch
def ZzW {X : Nat → Type} (s : TSt X) (c : Operand) : Bool := match c with
  | .tmp t => (Zab s.tmp t).isSome
  | _ => true
def Ya3 {X : Nat → Type} : TV X → Option (Nat × List (TV X))
  | .fn f caps => some (f, caps)
  | _ => none
def Zsc (s : TSt x.X) (ch : Zb6) (b : Builtin) (args : List Operand) (types : List Nat) : Option (PR (TV x.X)) := match b with
  | .len => (match args, types with
    | [o], [t] => (match Zfd s ch o with
      | some v => Yfz x s.heap t v
      | none => none)
    | _, _ => none)
  | .max => (match ZxF s ch args with
    | some vs => Ybc vs
    | none => none)
  | .min => (match ZxF s ch args with
    | some vs => Yb7 vs
    | none => none)
  | _ => none
def Zws (x : Cx) (k : Nat) (rts : List Nat) : Bool := match k with
  | 0 => true
  | 1 => rts.all x.U.noMap
  | _ => false
def Zg4 (f k : Nat) (vs : List (TV x.X)) : List (Nat × TCall x.X) → Option (PR (TV x.X))
  | [] => none
  | (f', c) :: r => bif Nat.beq f f' then (match Zvq x.U c.ak vs with
      | some a => (match ZuN x.U c.rts with
        | some h => bif c.dir && Zws x k c.rts then some (.part (c.fn a) (ZzX x.U c.rts) h) else none
        | none => none)
      | none => Zg4 f k vs r) else Zg4 f k vs r
def Zkn (fa : FA) (s : TSt x.X) (ch : Zb6) (o : Oper) : Option (PR (Option (TX x.X))) := match o.op with
  | .move v => bif Zbn fa o.dst then none else match ZxE s ch v with
    | some y => prO (x.coerceX o.type y)
    | none => none
  | .assign v => bif Zbn fa o.dst then none else match ZxE s ch v with
    | some y => prO (x.coerceX o.type y)
    | none => none
  | .pick c a b => bif ZzW s c then match Zfd s ch c, Zfd s (Yeg true c ch) a, Zfd s (Yeg false c ch) b with
    | some (.b cb), some va, some vb => prV (ZpQ x o.type cb va vb)
    | _, _, _ => none else none
  | .build t ps => match x.U.zcells t, x.C.places t, x.C.isAgg t with
    | some z, some f, some true => match ZfA x s ch ps.toList with
      | some l => match Zvj f z l with
        | some cs => match x.U.pack t cs with
          | some y => some (.tot (some (.a (.t t y))))
          | none => none
        | none => none
      | none => none
    | _, _, _ => none
  | .buildSlice t n ps => bif Zbn fa o.dst then none else match ZfZ x t n s ch ps.toList with
    | some ⟨e, ys⟩ => some (.tot (some (.a (.l e ys))))
    | none => match Ctx.elemT x.C t, x.C.elemSize t, n, ps.toList with
      | some e, some _, 0, [] => some (.tot (some (.own e [])))
      | _, _, _, _ => none
  | .load t a => match ZuQ s ch a with
    | some p => loadT x t s p
    | none => none
  | .nilCheck v => match ZuQ s ch v with
    | some y => prO (ZiH y)
    | none => none
  | .binOp op t a b _ => match Zfd s ch a, Zfd s ch b with
    | some u, some v => prV (Ye7 x op t u v)
    | _, _ => none
  | .unOp op _ a => match Zfd s ch a with
    | some u => prV (unT op u)
    | none => none
  | .convert s' t a => match Zfd s ch a with
    | some u => prV (YaS x s.heap s' t u)
    | none => none
  | .makeFunc (.func f) first captured => match first.toList, ZxF s ch captured.toList with
    | [], some vs => some (.tot (some (.a (.fn f vs))))
    | _, _ => none
  | .slice t a lo hi none => match Zfd s ch a, Ybd s ch lo, Ybd s ch hi with
    | some v, some l, some h => prV (Zr2 x t l h v)
    | _, _, _ => none
  | .fieldAddr t a f => match ZuQ s ch a with
    | some p => prO (Zjt x t f p)
    | none => none
  | .field t a f => match Zfd s ch a with
    | some v => prA (Ztr x t f v)
    | none => none
  | .indexAddr t a i => match Zfd s ch a, Zfd s ch i with
    | some v, some (.i _ n) => ZjD x s.heap t v n
    | _, _ => none
  | .index t a i => match Zfd s ch a, Zfd s ch i with
    | some v, some (.i _ n) => prV (ZsU x t v n)
    | _, _ => none
  | .lookup t a k ok => match Zfd s ch a, Zfd s ch k with
    | some m, some k => prA (Zy4 x t s.heap m k ok)
    | _, _ => none
  | .extract a i => match Zfd s ch a with
    | some v => prA (Znt v i)
    | none => none
  | .call c => match c.callee with
    | .builtin b => prV (Zsc x s ch b c.args.toList c.argTypes.toList)
    | .value g => match Zfd s ch g, ZxF s ch c.args.toList with
      | some fv, some vs => match Ya3 fv with
        | some (f, caps) => bif Zaq fa.lend o.dst then (match ZwF x s.heap (vs ++ caps) with
            | some (ws, k) => prV (Zg4 x f k ws x.T)
            | none => none)
          else bif Zaq fa.frz o.dst then prV (Zuw x f (vs ++ caps) x.T) else none
        | none => none
      | _, _ => none
    | .invoke _ _ => none
  | _ => none
def ZiQ {X : Nat → Type} (s : Nat) : List (Nat × TE X) → Bool
  | [] => true
  | (_, ⟨_, .sp k _⟩) :: r => bif Nat.beq k s then false else ZiQ s r
  | _ :: r => ZiQ s r
def ZmH (fa : FA) (s : TSt x.X) (dst : Option Tmp) (cs : List (TV x.X)) : Option (TSt x.X) :=
  bif ZaG fa dst then Zmm fa [] { s with heap := s.heap ++ [.var cs] } dst (.a (.ptr s.heap.length 0))
  else match dst with
    | some t => bif has fa.keep t && ZiQ t s.tmp && Nat.blt t fa.nt && cs.all isD then some { s with env := Zdk s.env t (.box cs) } else none
    | none => none
def ZtJ (fa : FA) (s : TSt x.X) (dst : Option Tmp) (ty : Nat) (o : Operand) : Option (TSt x.X) := match ZwZ x s ty o with
  | some ⟨e, xs⟩ => Zgf fa (Zj6 s o) dst e xs
  | none => bif Zm3 s o then match ZuQ s [] o with
    | some y => match x.coerceX ty y with
      | some z => Zmm fa [] s dst z
      | none => none
    | none => none else none
def one {α : Type} : Option α → Option (PR (Option α))
  | some a => some (.tot (some a))
  | none => none
def storeT (t : Nat) (s : TSt x.X) (p : TX x.X) (v : TV x.X) : Option (PR (Option (TSt x.X))) := match x.C.size t, x.vcells v with
  | some n, some vs => bif Nat.beq n vs.length then match p with
    | .sp k off => match Zab s.env k with
      | some (.box cs) => bif vs.all isD then match Za1 cs off vs with
        | some cs' => some (.tot (some { s with env := Zdk s.env k (.box cs') }))
        | none => none else none
      | _ => none
    | .ap j g e i off => match s.heap[j]? with
      | some (.arr g' ap e' xs) => bif Nat.beq g' g then match Zih e' e xs with
        | some ys => match x.C.isAgg e with
          | some false => bif Nat.beq off 0 && Zmr x.U e 1 then match x.U.prj e v with
            | some y => some (.part (if i < ys.length then some (ys.set i y) else none) ys (fun zs => some { s with heap := s.heap.set j (.arr g ap e zs) }))
            | none => none else none
          | some true => match x.U.cells e with
            | some f => some (.part (ys[i]?) (x.U.dflt e) (fun y => match Za1 (f y) off vs with
              | some cs' => match x.U.pack e cs' with
                | some y' => some { s with heap := s.heap.set j (.arr g ap e (ys.set i y')) }
                | none => none
              | none => none))
            | none => none
          | none => none
        | none => none else none
      | _ => none
    | .a (.ptr j off) => match s.heap[j]? with
      | some (.var cs) => match Za1 cs off vs with
        | some cs' => some (.tot (some { s with heap := s.heap.set j (.var cs') }))
        | none => none
      | _ => none
    | _ => none else none
  | _, _ => none
def room (b n : Nat) : Option Unit := if n * b ≤ 2 ^ 47 ∧ n ≤ 2 ^ 47 then some () else none
def Zlz (fa : FA) (s : TSt x.X) (dst : Option Tmp) (t : Nat) (so xo : Operand) : Option (PR (Option (TSt x.X))) := match Ctx.elemT x.C t, x.C.elemSize t, x.C.elemBytes t with
  | some e, some sz, some b => bif x.C.elemOk t sz && Zmr x.U e sz then match Zfd s [] xo with
    | some nv => match (match nv with
        | .l e' ys => Zih e' e ys
        | .e0 => some []
        | _ => none) with
      | some new => match ZuQ s [] so with
        | some (.a (.osl j g eo n)) => match s.heap[j]? with
          | some (.arr g' true e' xs) => bif Nat.beq g g' && Nat.beq eo e then match Zih e' e xs with
            | some ys => some (.part (if n = ys.length then Option.bind (room b (ys.length + new.length)) (fun _ => some (ys ++ new)) else none) ys
                (fun zs => Zmm fa [] { s with heap := s.heap.set j (.arr (g + 1) true e zs) } dst (.a (.osl j (g + 1) e zs.length))))
            | none => none else none
          | _ => none
        | _ => match ZwZ x s t so with
          | some ⟨e', xs⟩ => match Zih e' e xs with
            | some ys => bif ZaG fa dst then (match ys, new with
                | [], y :: ys' => some (.part (room b (new.length)) () (fun _ => Zmm fa [] { (Zj6 s so) with heap := s.heap ++ [.arr 0 true e new] } dst (.a (.osl s.heap.length 0 e new.length))))
                | _, _ => none)
              else some (.part (Option.bind (room b (ys.length + new.length)) (fun _ => some (ys ++ new))) ys (fun zs => Zgf fa (Zj6 s so) dst e zs))
            | none => none
          | none => none
      | none => none
    | none => none else none
  | _, _, _ => none
def Znf (fa : FA) (s : TSt x.X) (dst : Option Tmp) (t : Nat) (m k : Operand) : Option (TSt x.X) := match Ctx.mapT x.C t, x.C.mapZero t, Zfd s [] m, Zfd s [] k with
  | some (kt, vt), some _, some (.mp j), some k => match x.U.prj kt k, s.heap[j]? with
    | some key, some (.map kt' vt' es) => match Zfg (X := fun n => List (x.X n × x.X vt')) kt' kt es with
      | some es1 => bif x.U.isKey kt && x.C.keyOk t (x.U.enc kt key) then Zmm fa [] { s with heap := s.heap.set j (.map kt vt' (Ydz (x.U.keq kt) key es1)) } dst (.a (.tup [])) else none
      | none => none
    | _, _ => none
  | _, _, _, _ => none
def ZoH (fa : FA) (s : TSt x.X) (dst : Option Tmp) (t : Nat) (m k v : Operand) : Option (TSt x.X) := match Ctx.mapT x.C t, x.C.mapZero t, Zfd s [] m, Zfd s [] k, Zfd s [] v with
  | some (kt, vt), some _, some (.mp j), some k, some v => match x.U.prj kt k, x.U.prj vt v, s.heap[j]? with
    | some key, some y, some (.map kt' vt' es) => match Zfg (X := fun n => List (x.X n × x.X vt')) kt' kt es with
      | some es1 => match Zfg (X := fun n => List (x.X kt × x.X n)) vt' vt es1 with
        | some es2 => bif x.U.isKey kt && x.C.keyOk t (x.U.enc kt key) then Zmm fa [] { s with heap := s.heap.set j (.map kt vt (Zgu (x.U.keq kt) key y es2)) } dst .un else none
        | none => none
      | none => none
    | _, _, _ => none
  | _, _, _, _, _ => none
def Zkv (fa : FA) (s : TSt x.X) (dst : Option Tmp) (t : Nat) (l c : Operand) : Option (PR (Option (TSt x.X))) := match Ctx.elemT x.C t, x.C.elemZero t, x.C.elemSize t, x.C.elemBytes t, Zfd s [] l, Zfd s [] c with
  | some e, some _, some sz, some b, some (.i _ n), some (.i _ m) => bif x.C.elemOk t sz && x.U.dok e then
      some (.part (if 0 ≤ n ∧ n = m then Option.bind (room b n.toNat) (fun _ => some (List.replicate n.toNat (x.U.dflt e))) else none) []
        (fun zs => Zmm fa [] { s with heap := s.heap ++ [.arr 0 true e zs] } dst (.a (.osl s.heap.length 0 e zs.length)))) else none
  | _, _, _, _, _, _ => none
def ZxP (fa : FA) (s : TSt x.X) (dst : Option Tmp) (c : TCallR x.X) (vs : List (TV x.X)) : Option (PR (Option (TSt x.X))) := match ZdM c.ak vs with
  | some (ws, js) => bif Zm1 js && !js.isEmpty then (match Zjj x.U (AR.tys c.ak) ws, ZfP x.U s.heap (AR.refs c.ak) js, ZuN x.U c.rts with
    | some a, some cs, some g => some (.part (c.fn a cs) (ZzX x.U c.rts, cs) (fun r => Zmm fa [] { s with heap := ZfQ x.U s.heap (AR.refs c.ak) js r.2 } dst (.a (g r.1))))
    | _, _, _ => none) else none
  | none => none
def Zw1 {X : Nat → Type} (s : TSt X) : Operand → Bool
  | .tmp u => match Zab s.tmp u with
    | some ⟨[], .own _ _⟩ => true
    | _ => false
  | _ => false
def ZgB (fa : FA) (s : TSt x.X) (o : Oper) : Option (PR (Option (TSt x.X))) := match o.op with
  | .move v => bif Zbn fa o.dst then one (ZtJ x fa s o.dst o.type v) else none
  | .assign v => bif Zbn fa o.dst then one (ZtJ x fa s o.dst o.type v) else none
  | .alloc t => match x.U.zcells t with
    | some z => one (ZmH x fa s o.dst z)
    | none => none
  | .box _ v => match Zfd s [] v with
    | some u => match x.vcells u with
      | some cs => one (ZmH x fa s o.dst cs)
      | none => none
    | none => none
  | .buildSlice t n ps => bif Zbn fa o.dst then match ZfZ x t n s [] ps.toList with
    | some ⟨e, ys⟩ => one (Zgf fa s o.dst e ys)
    | none => none else none
  | .store t a v => match ZuQ s [] a, Zfd s [] v with
    | some p, some u => match storeT x t s p u with
      | some r => some (r.map fun s' => match s' with
        | some s'' => Zmm fa [] s'' o.dst .un
        | none => none)
      | none => none
    | _, _ => none
  | .convert s' t a => match Zfd s [] a with
    | some (.s b) => bif x.C.isStr s' && x.C.isBytes t && x.C.elemOne t then match Ctx.elemT x.C t with
      | some e => match x.U.bytes e with
        | some (f, _) => one (Zmm fa [] { s with heap := s.heap ++ [.arr 0 false e (f b)] } o.dst (.a (.osl s.heap.length 0 e b.length)))
        | none => none
      | none => none else none
    | _ => none
  | .makeMap t none => bif x.C.isMap t then match Ctx.mapT x.C t with
    | some (k, v) => one (Zmm fa [] { s with heap := s.heap ++ [.map k v []] } o.dst (.a (.mp s.heap.length)))
    | none => none else none
  | .makeSlice t l c => bif Zaq fa.frz o.dst then none else Zkv x fa s o.dst t l c
  | .mapUpdate t m k v => one (ZoH x fa s o.dst t m k v)
  | .call c => match c.callee with
    | .builtin b => (match b with
      | .append => (match c.args.toList, c.argTypes.toList with
        | [so, xo], [t, t'] => bif Nat.beq t t' && (!Za5 fa o || Zw1 s so) then Zlz x fa s o.dst t so xo else none
        | _, _ => none)
      | .delete => (match c.args.toList, c.argTypes.toList with
        | [m, k], t :: _ => one (Znf x fa s o.dst t m k)
        | _, _ => none)
      | _ => none)
    | .value g => (match g with
      | .func f => (match Zab x.TR f, ZxF s [] c.args.toList with
        | some cr, some vs => bif Zaq fa.lend o.dst then none else ZxP x fa s o.dst cr vs
        | _, _ => none)
      | _ => none)
    | _ => none
  | _ => none
def Zrx {X : Nat → Type} (all : List Oper) (o : Oper) (s : TSt X) : Option (Zb6 × Option Bool) := match o.guard with
  | none => some ([], none)
  | some (j, want) => match (all[j]?).bind (·.dst) with
    | some t => match Zab s.tmp t with
      | some ⟨g, .a (.b b)⟩ => some ((t, want) :: g, some (bif want then b else !b))
      | _ => none
    | none => none
def ZxG : Option Bool → Option Bool → Option Bool
  | none, c => c
  | some g, none => some g
  | some g, some c => some (g && c)
def gof {X : Nat → Type} (s : TSt X) : Zb6 → Option Bool
  | [] => none
  | (t, w) :: r => match Zab s.tmp t with
    | some ⟨_, .a (.b b)⟩ => ZxG (gof s r) (some (bif w then b else !b))
    | _ => some false
def ZvZ (fa : FA) (o : Oper) : Bool := match o.op with
  | .move _ => Zbn fa o.dst
  | .assign _ => Zbn fa o.dst
  | .buildSlice _ _ _ => Zbn fa o.dst
  | .alloc _ => true
  | .box _ _ => true
  | .store _ _ _ => true
  | .makeMap _ _ => true
  | .makeSlice _ _ _ => !Zaq fa.frz o.dst
  | .mapUpdate _ _ _ _ => true
  | .convert _ t _ => false
  | .call { callee := .builtin .append, .. } => true
  | .call { callee := .builtin .delete, .. } => true
  | _ => false
def Yav (x : Cx) (o : Oper) : Bool := match o.op with
  | .convert _ t _ => x.C.isBytes t
  | .call { callee := .value (.func f), .. } => (Zab x.TR f).isSome
  | _ => false
def evR {R : Type} (fa : FA) (g : Option Bool) (draw : Bool) (all : List Oper) : List Oper → TSt x.X → (TSt x.X → Option R) → Option R
  | [], s, k => k s
  | o :: r, s, k => match Zrx all o s with
    | none => none
    | some (ch, _) => bif ZvZ fa o || (Yav x o && !draw) then (match ch, ZgB x fa s o with
        | [], some pr => pr.go g fun so => match so with
          | some s' => evR fa g draw all r s' k
          | none => none
        | _, _ => none)
      else match Zkn x fa s ch o with
        | some pr => pr.go (ZxG g (gof s ch)) fun yo => match yo with
          | some y => match Zmm fa ch s o.dst y with
            | some s' => evR fa g draw all r s' k
            | none => none
          | none => none
        | none => none
def ZmE : Code → Nat → Bool
  | .region _ ops _, t => ops.toList.any fun o => match o.dst with
    | some d => Nat.beq d t
    | none => false
  | .seq a b, t => ZmE a t || ZmE b t
  | .cond _ a b, t => ZmE a t || ZmE b t
  | .block _ c, t => ZmE c t
  | .loop c, t => ZmE c t
  | _, _ => false
def ZdU {R : Type} (c : Bool) : List (TV x.X) → List (TV x.X) → (List (TV x.X) → Option R) → Option R
  | [], [], k => k []
  | a :: r, b :: q, k => match ZpQ x 0 c a b with
    | some pr => pr.go none fun v => ZdU c r q fun l => k (v :: l)
    | none => none
  | _, _, _ => none
def ZcU {R : Type} (c : Bool) (asg : Nat → Bool) (e0 eA eB : List (Nat × TSV x.X)) : List Nat → (List (Nat × TSV x.X) → Option R) → Option R
  | [], k => k []
  | t :: r, k => match Zab e0 t with
    | some (.val v) => bif asg t then (match Zab eA t, Zab eB t with
        | some (.val a), some (.val b) => (match ZpQ x 0 c a b with
          | some pr => pr.go none fun v => ZcU c asg e0 eA eB r fun l => k ((t, .val v) :: l)
          | none => ZcU c asg e0 eA eB r k)
        | _, _ => ZcU c asg e0 eA eB r k)
      else ZcU c asg e0 eA eB r fun l => k ((t, .val v) :: l)
    | _ => match Zab eA t, Zab eB t with
      | some (.own e xs), some (.own e' ys) => (match Zih e' e ys with
        | some ys' => Option.bind (some (cond c xs ys')) fun zs => ZcU c asg e0 eA eB r fun l => k ((t, .own e zs) :: l)
        | none => ZcU c asg e0 eA eB r k)
      | some (.box cs), some (.box ds) => ZdU x c cs ds fun es => ZcU c asg e0 eA eB r fun l => k ((t, .box es) :: l)
      | _, _ => ZcU c asg e0 eA eB r k
def ZcK {R : Type} (c : Bool) : List (TObj x.X) → List (TObj x.X) → (List (TObj x.X) → Option R) → Option R
  | [], [], k => k []
  | .arr g ap e xs :: r, .arr g' ap' e' ys :: q, k => bif Nat.beq g g' && (ap == ap') then (match Zih e' e ys with
      | some ys' => Option.bind (some (cond c xs ys')) fun zs => ZcK c r q fun l => k (.arr g ap e zs :: l)
      | none => none) else none
  | .var cs :: r, .var ds :: q, k => ZdU x c cs ds fun es => ZcK c r q fun l => k (.var es :: l)
  | .map kt vt es :: r, .map kt' vt' fs :: q, k => (match Zfg (X := fun n => List (x.X n × x.X vt')) kt' kt fs with
      | some f1 => (match Zfg (X := fun n => List (x.X kt × x.X n)) vt' vt f1 with
        | some f2 => Option.bind (some (cond c es f2)) fun zs => ZcK c r q fun l => k (.map kt vt zs :: l)
        | none => none)
      | none => none)
  | _, _, _ => none
def Zgn (x : Cx) : Code → Bool
  | .region _ ops _ => ops.toList.any fun o => match o.op with
    | .store _ _ _ => true
    | .mapUpdate _ _ _ _ => true
    | .alloc _ => true
    | .box _ _ => true
    | .makeMap _ _ => true
    | .makeSlice _ _ _ => true
    | .convert _ _ _ => true
    | .call { callee := .builtin .append, .. } => true
    | .call { callee := .builtin .delete, .. } => true
    | .call { callee := .value (.func f), .. } => (Zab x.TR f).isSome
    | _ => false
  | .seq a b => Zgn x a || Zgn x b
  | .cond _ a b => Zgn x a || Zgn x b
  | .block _ c => Zgn x c
  | .loop c => Zgn x c
  | _ => false
def merge {R : Type} (c : Bool) (a b : Code) (s sA sB : TSt x.X) (k : TSt x.X → Option R) : Option R :=
  ZcU x c (fun t => ZmE a t || ZmE b t) s.env sA.env sB.env (s.env.map Prod.fst) fun env =>
    bif Zgn x a || Zgn x b then ZcK x c sA.heap sB.heap fun h => k ⟨env, [], h⟩ else k ⟨env, [], s.heap⟩
def ZiS : Code → Bool
  | .skip => true
  | .label _ => true
  | .region _ _ _ => true
  | .seq a b => ZiS a && ZiS b
  | .cond _ a b => ZiS a && ZiS b
  | .block _ c => ZiS c
  | _ => false
def Zkf {X : Nat → Type} : List (Nat × TSV X) → List (Nat × TSV X) → List (Nat × TSV X)
  | _, [] => []
  | e0, (k, v) :: r => match Zab e0 k with
    | some _ => (k, v) :: Zkf e0 r
    | none => Zkf e0 r
def evS {R : Type} (fa : FA) (g : Option Bool) : Code → TSt x.X → (TSt x.X → Option R) → Option R
  | .skip, s, k => k s
  | .label _, s, k => k s
  | .region _ ops d, s, k => evR x fa g d ops.toList ops.toList s fun s' => k { s' with tmp := [] }
  | .seq a b, s, k => evS fa g a s fun s' => evS fa g b s' k
  | .cond c a b, s, k => match Zfd s [] c with
    | some (.b cb) => evS fa (ZxG g (some cb)) a s fun sA => evS fa (ZxG g (some (!cb))) b s fun sB => merge x cb a b s sA sB k
    | _ => none
  | .block _ c, s, k => evS fa g c s fun s' => k { s' with env := Zkf s.env s'.env }
  | _, _, _ => none
inductive TOut (X : Nat → Type) where
  | norm (s : TSt X)
  | exit (id : Nat) (s : TSt X)
  | ret (s : TSt X)
def Yfx {R : Type} (dir : Bool) (h : List (TObj x.X)) : TV x.X → (TV x.X → Option R) → Option R
  | .osl j g e n, k => bif dir then none else match h[j]? with
    | some (.arr g' _ e' xs) => bif Nat.beq g g' && Nat.beq e e' then Option.bind (if n ≤ xs.length then some (xs.take n) else none) fun ys => k (.l e' ys) else none
    | _ => none
  | .mp j, k => bif dir then none else match h[j]? with
    | some (.map kt vt es) => k (.m kt vt es)
    | _ => none
  | .ptr _ _, _ => none
  | .fn _ _, _ => none
  | .tup _, _ => none
  | v, k => k v
def Zv4 {R : Type} (dir : Bool) (s : TSt x.X) : List ResultVar → (List (TV x.X) → Option R) → Option R
  | [], k => k []
  | .tmp t :: r, k => match Zfd s [] (.tmp t) with
    | some v => Yfx x dir s.heap v fun w => Zv4 dir s r fun l => k (w :: l)
    | none => none
  | .cell t ty :: r, k => match ZuQ s [] (.tmp t) with
    | some (.sp sl off) => match Zab s.env sl with
      | some (.box cs) => match x.ld ty (cs.drop off) with
        | some v => Zv4 dir s r fun l => k (v :: l)
        | none => none
      | _ => none
    | _ => none
def endK (dir : Bool) (fn : Func) (rts : List Nat) : TOut x.X → Option (PX x.X rts)
  | .norm s => Zv4 x dir s fn.results.toList (fun l => Zjj x.U rts l)
  | .ret s => Zv4 x dir s fn.results.toList (fun l => Zjj x.U rts l)
  | .exit _ _ => none
def ZvB {X : Nat → Type} : Nat → List (TV X) → List (Nat × TSV X)
  | _, [] => []
  | k, v :: r => (k, .val v) :: ZvB (k + 1) r
def Zuc {X : Nat → Type} : List AK → List (TV X) → List (TV X)
  | [], _ => []
  | .fn f :: r, vs => .fn f [] :: Zuc r vs
  | .ty _ :: r, v :: vs => v :: Zuc r vs
  | .ty _ :: _, [] => []
def Ydl (U : Uni) (ak : List AK) (y : PX U.X (AK.tys ak)) : Option (List (TV U.X)) := match Zgh U (AK.tys ak) with
  | some f => some (Zuc ak (f y))
  | none => none
end
end Go.Tev
namespace Go.Tev
open Go.Abs
structure Tok where
  k : Int
  t : List UInt8
  n : Int
  u : List UInt8
  f : Bool
inductive Val where
  | mk (tok : Tok) (l : List Val)
def Val.tok : Val → Tok | .mk t _ => t
def Val.l : Val → List Val | .mk _ l => l
structure Cus where
  name : List UInt8
  val : List Val
structure Fnd where
  d : Int
  t : Int
  b : Bool
def zTok : Tok := Tok.mk ((0 : Int)) ([]) ((0 : Int)) ([]) (false)
def YcM : Val := Val.mk zTok ([])
def zCus : Cus := Cus.mk [] []
def Tok.eqb (a b : Tok) : Bool := a.k == b.k && a.t == b.t && a.n == b.n && a.u == b.u && a.f == b.f
def Fnd.eqb (a b : Fnd) : Bool := a.d == b.d && a.t == b.t && a.b == b.b
def Tok.enc (v : Tok) : DV := .agg [.int .u8 v.k, .str v.t, .int .i64 v.n, .str v.u, .bool v.f]
mutual
def Val.enc : Val → DV
  | .mk v l => .agg [.int .u8 v.k, .str v.t, .int .i64 v.n, .str v.u, .bool v.f, .slc (Zwi l)]
def Zwi : List Val → List DV
  | [] => []
  | v :: r => v.enc :: Zwi r
end
theorem ZsJ (l : List Val) : Zwi l = l.map Val.enc := by
  induction l with
  | nil => rfl
  | cons v l ih => simp [Zwi, ih]
def Cus.enc (v : Cus) : DV := .agg [.str v.name, .slc (v.val.map Val.enc)]
def Fnd.enc (v : Fnd) : DV := .agg [.int .i64 v.d, .int .i64 v.t, .bool v.b]
theorem ZcA {α : Type} (f : α → DV) (l : List α) (h : ∀ y ∈ l, (f y).noMap = true) : DV.noMapL (l.map f) = true := by
  induction l with
  | nil => rfl
  | cons y l ih => simp only [List.map_cons, DV.noMapL, Bool.and_eq_true]; exact ⟨h y (List.mem_cons_self), ih fun z hz => h z (List.mem_cons_of_mem _ hz)⟩
mutual
theorem Zth : ∀ v : Val, v.enc.noMap = true
  | .mk t l => by simp only [Val.enc, DV.noMap, DV.noMapL, Zr4 l, Bool.and_self]
theorem Zr4 : ∀ l : List Val, DV.noMapL (Zwi l) = true
  | [] => rfl
  | v :: r => by simp only [Zwi, DV.noMapL, Zth v, Zr4 r, Bool.and_self]
end
theorem YbL (l : List Val) : (DV.slc (l.map Val.enc)).noMap = true := ZcA _ _ fun y _ => Zth y
theorem Yag (c : Cus) : c.enc.noMap = true := by simp only [Cus.enc, DV.noMap, DV.noMapL, Bool.true_and, Bool.and_true]; exact ZcA _ _ fun y _ => Zth y
theorem Zva (l : List Cus) : (DV.slc (l.map Cus.enc)).noMap = true := ZcA _ _ fun y _ => Yag y
theorem Ycw (l : List Tok) : (DV.slc (l.map Tok.enc)).noMap = true := ZcA _ _ fun y _ => rfl
theorem Ycv (l : List (List UInt8)) : (DV.slc (l.map fun w => .str w)).noMap = true := ZcA _ _ fun y _ => rfl
theorem Zti (l : List Bool) : (DV.slc (l.map fun w => .bool w)).noMap = true := ZcA _ _ fun y _ => rfl
theorem Zw5 (l : List (List Bool)) : (DV.slc (l.map fun w => .slc (w.map fun w => .bool w))).noMap = true := ZcA _ _ fun y _ => Zti y
theorem Ydf (l : List Int) : (DV.slc (l.map fun w => .int .u8 w)).noMap = true := ZcA _ _ fun y _ => rfl
theorem ZfF (v : Val) : v.enc = .agg [.int .u8 v.tok.k, .str v.tok.t, .int .i64 v.tok.n, .str v.tok.u, .bool v.tok.f, .slc (v.l.map Val.enc)] := by
  cases v; simp only [Val.enc, ZsJ]; rfl
section
variable {X : Nat → Type}
def asI (k : IntKind) : TV X → Option Int
  | .i k' n => bif decide (k' = k) then some n else none
  | _ => none
def asB : TV X → Option Bool
  | .b v => some v
  | _ => none
def asS : TV X → Option (List UInt8)
  | .s v => some v
  | _ => none
def asL (e : Nat) : TV X → Option (List (X e))
  | .l e' xs => Zih e' e xs
  | .e0 => some []
  | _ => none
def asT (t : Nat) (pk : List (TV X) → Option (X t)) : TV X → Option (X t)
  | .t t' y => Zfg t' t y
  | .g cs => pk cs
  | _ => none
def asM (k v : Nat) : TV X → Option (List (X k × X v))
  | .m k' v' es => match Zfg (X := fun n => List (X n × X v')) k' k es with
    | some e1 => Zfg (X := fun n => List (X k × X n)) v' v e1
    | none => none
  | _ => none
end
end Go.Tev
namespace Go.Tev
open Go.Abs
mutual
def TV.dv (U : Uni) : TV U.X → Option DV
  | .b v => some (.bool v)
  | .i k n => some (.int k n)
  | .s v => some (.str v)
  | .t ty y => some (U.enc ty y)
  | .l e xs => some (.slc (xs.map (U.enc e)))
  | .m k v es => some (.fmap (es.map fun p => (U.enc k p.1, U.enc v p.2)))
  | .g cs => (dvL U cs).map .agg
  | .e0 => some (.slc [])
  | .nilm => some .nilm
  | .nilp => some .nilp
  | .nilf => some .nilf
  | .nili => some .nili
  | .fn f caps => (dvL U caps).map (.fn f)
  | .tup vs => (dvL U vs).map .tup
  | .ptr _ _ => none
  | .osl _ _ _ _ => none
  | .mp _ => none
def dvL (U : Uni) : List (TV U.X) → Option (List DV)
  | [] => some []
  | v :: r => match v.dv U with
    | some d => match dvL U r with
      | some ds => some (d :: ds)
      | none => none
    | none => none
end
structure Uni.Ok (C : Ctx) (U : Uni) : Prop where
  inj : ∀ t f y, U.inj t = some f → (f y).dv U = some (U.enc t y)
  prj : ∀ t v y, U.prj t v = some y → v.dv U = some (U.enc t y)
  pack : ∀ t cs y, U.pack t cs = some y → ∃ ds, dvL U cs = some ds ∧ U.enc t y = .agg ds
  cells : ∀ t f y, U.cells t = some f → dvL U (f y) = some (U.enc t y).cells
  csz : ∀ t n y, U.csz t = some n → (U.enc t y).cells.length = n
  ok : ∀ t y, (U.enc t y).cellOk = true
  noagg : ∀ t n y, C.isAgg t = some false → U.csz t = some n → ∀ cs, U.enc t y ≠ .agg cs
  agg : ∀ t f y, C.isAgg t = some true → U.cells t = some f → U.enc t y = .agg (U.enc t y).cells
  zcells : ∀ t cs, U.zcells t = some cs → ∃ z, C.zero t = some z ∧ dvL U cs = some z.cells ∧ z.cellOk = true ∧ (C.isAgg t = some true → z = .agg z.cells)
  dok : ∀ t, U.dok t = true → C.zero t = some (U.enc t (U.dflt t))
  keq : ∀ t a b, U.isKey t = true → ZdT (U.enc t a) (U.enc t b) = some (U.keq t a b)
  noMap : ∀ t y, U.noMap t = true → (U.enc t y).noMap = true
  eqT : ∀ t f, U.eqT t = some f → C.P.eqGuardType C.P.depth t = false ∧ ∀ a b, U.enc t a = .agg (U.enc t a).cells ∧ Zmw C 100 t (U.enc t a) (U.enc t b) = some (f a b)
  bytes : ∀ e f g, U.bytes e = some (f, g) → (∀ b, (f b).map (U.enc e) = b.map fun c => .int .u8 c.toNat) ∧ ∀ xs, Zej (xs.map (U.enc e)) = some (g xs)
section
variable {U : Uni}
structure Rf where
  id : Nat
  off : Nat
inductive VRel (U : Uni) (ρ : List Rf) : TV U.X → AV → Prop where
  | d (v d) (h : v.dv U = some d) : VRel U ρ v (.d d)
  | ptr (j : Nat) (i : Rf) (off : Nat) (h : ρ[j]? = some i) : VRel U ρ (.ptr j off) (.ptr i.id off)
  | osl (j : Nat) (i : Rf) (g e n : Nat) (h : ρ[j]? = some i) : VRel U ρ (.osl j g e n) (.osl i.id (g + i.off) n)
  | mp (j : Nat) (i : Rf) (h : ρ[j]? = some i) : VRel U ρ (.mp j) (.mp i.id)
  | fn (f : Nat) (caps : List (TV U.X)) (as : List AV) (hl : caps.length = as.length) (h : ∀ (k : Nat) v a, caps[k]? = some v → as[k]? = some a → VRel U ρ v a) : VRel U ρ (.fn f caps) (ZuO f as)
  | tup (vs : List (TV U.X)) (as : List AV) (hl : vs.length = as.length) (h : ∀ (k : Nat) v a, vs[k]? = some v → as[k]? = some a → VRel U ρ v a) : VRel U ρ (.tup vs) (ZbF as)
def VRels (U : Uni) (ρ : List Rf) (vs : List (TV U.X)) (as : List AV) : Prop := vs.length = as.length ∧ ∀ (k : Nat) v a, vs[k]? = some v → as[k]? = some a → VRel U ρ v a
inductive XRel (U : Uni) (ρ : List Rf) : TX U.X → XV → Prop where
  | a (v w) (h : VRel U ρ v w) : XRel U ρ (.a v) (.a w)
  | sp (k off : Nat) : XRel U ρ (.sp k off) (.sp k off)
  | fp (cs ds) (h : dvL U cs = some ds) : XRel U ρ (.fp cs) (.fp ds)
  | ap (j : Nat) (i : Rf) (g e n off : Nat) (h : ρ[j]? = some i) : XRel U ρ (.ap j g e n off) (.ap i.id (g + i.off) n off)
  | own (e : Nat) (xs : List (U.X e)) : XRel U ρ (.own e xs) (.own (xs.map (U.enc e)))
  | al (k e : Nat) (xs : List (U.X e)) : XRel U ρ (.al k e xs) (.al k (xs.map (U.enc e)))
  | un : XRel U ρ .un .un
inductive SRel (U : Uni) (ρ : List Rf) : TSV U.X → SV → Prop where
  | val (v w) (h : VRel U ρ v w) : SRel U ρ (.val v) (.val w)
  | own (e : Nat) (xs : List (U.X e)) : SRel U ρ (.own e xs) (.own (xs.map (U.enc e)))
  | box (cs ds) (h : dvL U cs = some ds) : SRel U ρ (.box cs) (.box ds)
inductive ORel (U : Uni) (ρ : List Rf) : Nat → TObj U.X → AObj → Prop where
  | arr (d g : Nat) (ap : Bool) (e : Nat) (xs : List (U.X e)) : ORel U ρ d (.arr g ap e xs) (.arr (g + d) ap (xs.map fun y => .d (U.enc e y)))
  | var (d : Nat) (cs as) (h : VRels U ρ cs as) : ORel U ρ d (.var cs) (.var as)
  | map (d k v : Nat) (es : List (U.X k × U.X v)) : ORel U ρ d (.map k v es) (.map (es.map fun p => (U.enc k p.1, .d (U.enc v p.2))))
structure Base where
  h : List AObj
  ids : List Nat
abbrev Base.nr (b : Base) : Nat := b.ids.length
structure HR (U : Uni) (ρ : List Rf) (h0 : Base) (H : List (TObj U.X)) (h : List AObj) : Prop where
  len : ρ.length = H.length
  nd : (ρ.map Rf.id).Nodup
  obj : ∀ (j : Nat) o, H[j]? = some o → ∃ i ao, ρ[j]? = some i ∧ h[i.id]? = some ao ∧ ORel U ρ i.off o ao
  frame : ∀ (i : Nat), i < h0.h.length → i ∉ ρ.map Rf.id → h[i]? = h0.h[i]?
  grow : h0.h.length ≤ h.length
  fresh : ∀ (j : Nat) (i : Rf), h0.nr ≤ j → ρ[j]? = some i → h0.h.length ≤ i.id
  pre : h0.ids <+: ρ.map Rf.id
def ER (U : Uni) (ρ : List Rf) (e : List (Nat × TSV U.X)) (a : List (Nat × SV)) : Prop := ∀ t v, Zab e t = some v → ∃ w, Zab a t = some w ∧ SRel U ρ v w
def holds {X : Nat → Type} (s : TSt X) (g : Zb6) : Prop := ∀ p ∈ g, ∃ c, Zab s.tmp p.1 = some ⟨c, .a (.b p.2)⟩
structure TR (U : Uni) (ρ : List Rf) (s : TSt U.X) (tmp : List (Nat × XV)) : Prop where
  no : ∀ t, Zab s.tmp t = none → Zab tmp t = none
  yes : ∀ t e, Zab s.tmp t = some e → ∃ y, Zab tmp t = some y ∧ (holds s e.g → XRel U ρ e.x y) ∧ (¬ holds s e.g → y = .un)
  wf : ∀ t e, Zab s.tmp t = some e → ∀ p ∈ e.g, (Zab s.tmp p.1).isSome = true
  nosp : ∀ k, ZiQ k s.tmp = true → Zd2 k tmp = true
structure Rel (U : Uni) (ρ : List Rf) (h0 : Base) (s : TSt U.X) (a : St) : Prop where
  env : ER U ρ s.env a.env
  tmp : TR U ρ s a.tmp
  heap : HR U ρ h0 s.heap a.heap
theorem VRel.mono {ρ σ : List Rf} (hs : ρ <+: σ) {v : TV U.X} {a : AV} (h : VRel U ρ v a) : VRel U σ v a := by
  have hp : ∀ {j : Nat} {i : Rf}, ρ[j]? = some i → σ[j]? = some i := fun {j i} h => by
    obtain ⟨r, rfl⟩ := hs
    rw [List.getElem?_append_left (List.getElem?_eq_some_iff.1 h).1, h]
  induction h with
  | d v d h => exact .d v d h
  | ptr j i off h => exact .ptr j i off (hp h)
  | osl j i g e n h => exact .osl j i g e n (hp h)
  | mp j i h => exact .mp j i (hp h)
  | fn f caps as hl h ih => exact .fn f caps as hl ih
  | tup vs as hl h ih => exact .tup vs as hl ih
theorem XRel.mono {ρ σ : List Rf} (hs : ρ <+: σ) {v : TX U.X} {a : XV} (h : XRel U ρ v a) : XRel U σ v a := by
  have hp : ∀ {j : Nat} {i : Rf}, ρ[j]? = some i → σ[j]? = some i := fun {j i} h => by
    obtain ⟨r, rfl⟩ := hs
    rw [List.getElem?_append_left (List.getElem?_eq_some_iff.1 h).1, h]
  cases h with
  | a v w h => exact .a v w (h.mono hs)
  | sp => exact .sp _ _
  | fp cs ds h => exact .fp cs ds h
  | ap j i g e n off h => exact .ap j i g e n off (hp h)
  | own => exact .own _ _
  | al => exact .al _ _ _
  | un => exact .un
theorem SRel.mono {ρ σ : List Rf} (hs : ρ <+: σ) {v : TSV U.X} {a : SV} (h : SRel U ρ v a) : SRel U σ v a := by
  cases h with
  | val v w h => exact .val v w (h.mono hs)
  | own => exact .own _ _
  | box cs ds h => exact .box cs ds h
theorem ORel.mono {ρ σ : List Rf} (hs : ρ <+: σ) {d : Nat} {v : TObj U.X} {a : AObj} (h : ORel U ρ d v a) : ORel U σ d v a := by
  cases h with
  | arr => exact .arr _ _ _ _ _
  | var cs as h => exact .var d cs as ⟨h.1, fun k v a h1 h2 => (h.2 k v a h1 h2).mono hs⟩
  | map => exact .map _ _ _ _
theorem ER.mono {ρ σ : List Rf} (hs : ρ <+: σ) {e : List (Nat × TSV U.X)} {a : List (Nat × SV)} (h : ER U ρ e a) : ER U σ e a := fun t v hv => by
  obtain ⟨w, h1, h2⟩ := h t v hv
  exact ⟨w, h1, h2.mono hs⟩
theorem TR.mono {ρ σ : List Rf} (hs : ρ <+: σ) {s : TSt U.X} {a : List (Nat × XV)} (h : TR U ρ s a) : TR U σ s a := ⟨h.no, fun t e he => by
  obtain ⟨y, h1, h2, h3⟩ := h.yes t e he
  exact ⟨y, h1, fun hh => (h2 hh).mono hs, h3⟩, h.wf, h.nosp⟩
theorem ZcS {v : TV U.X} {r : List (TV U.X)} {ds : List DV} (h : dvL U (v :: r) = some ds) : ∃ d ds', v.dv U = some d ∧ dvL U r = some ds' ∧ ds = d :: ds' := by
  simp only [dvL] at h
  cases h1 : v.dv U with
  | none => rw [h1] at h; cases h
  | some d =>
    rw [h1] at h
    cases h2 : dvL U r with
    | none => rw [h2] at h; cases h
    | some ds' =>
      rw [h2] at h
      simp only [Option.some.injEq] at h
      exact ⟨d, ds', rfl, rfl, h.symm⟩
theorem Zb0 {v : TV U.X} {r : List (TV U.X)} {d : DV} {ds : List DV} (h1 : v.dv U = some d) (h2 : dvL U r = some ds) : dvL U (v :: r) = some (d :: ds) := by
  simp only [dvL, h1, h2]
theorem ZgT {ds : List DV} (h : dvL U [] = some ds) : ds = [] := by
  simp only [dvL, Option.some.injEq] at h; exact h.symm
theorem Zb5 {vs : List (TV U.X)} : ∀ {ds : List DV}, dvL U vs = some ds → vs.length = ds.length := by
  induction vs with
  | nil => intro ds h; rw [ZgT h]; rfl
  | cons v vs ih =>
    intro ds h
    obtain ⟨d, ds', _, h2, rfl⟩ := ZcS h
    simp [ih h2]
theorem Zi5 {vs : List (TV U.X)} : ∀ {ds : List DV}, dvL U vs = some ds → ∀ (k : Nat) v, vs[k]? = some v → ∃ d, ds[k]? = some d ∧ v.dv U = some d := by
  induction vs with
  | nil => intro ds h k v hv; simp at hv
  | cons w vs ih =>
    intro ds h k v hv
    obtain ⟨d, ds', h1, h2, rfl⟩ := ZcS h
    cases k with
    | zero =>
      simp only [List.getElem?_cons_zero, Option.some.injEq] at hv
      subst hv
      exact ⟨d, rfl, h1⟩
    | succ k => simpa using ih h2 k v (by simpa using hv)
theorem Zm8 {a b : List (TV U.X)} {x y : List DV} (h1 : dvL U a = some x) (h2 : dvL U b = some y) : dvL U (a ++ b) = some (x ++ y) := by
  induction a generalizing x with
  | nil => rw [ZgT h1]; exact h2
  | cons v a ih =>
    obtain ⟨d, ds', h3, h4, rfl⟩ := ZcS h1
    exact Zb0 h3 (ih h4)
theorem Zs5 {a : List (TV U.X)} {x : List DV} (h : dvL U a = some x) (n : Nat) : dvL U (a.take n) = some (x.take n) := by
  induction a generalizing x n with
  | nil => rw [ZgT h]; simp [dvL]
  | cons v a ih =>
    obtain ⟨d, ds', h3, h4, rfl⟩ := ZcS h
    cases n with
    | zero => simp [dvL]
    | succ n => exact Zb0 h3 (ih h4 n)
theorem Zha {a : List (TV U.X)} {x : List DV} (h : dvL U a = some x) (n : Nat) : dvL U (a.drop n) = some (x.drop n) := by
  induction a generalizing x n with
  | nil => rw [ZgT h]; simp [dvL]
  | cons v a ih =>
    obtain ⟨d, ds', h3, h4, rfl⟩ := ZcS h
    cases n with
    | zero => exact Zb0 h3 h4
    | succ n => exact ih h4 n
theorem ZmT {cs vs cs' : List (TV U.X)} {off : Nat} {ds ws : List DV} (h1 : dvL U cs = some ds) (h2 : dvL U vs = some ws) (h : Za1 cs off vs = some cs') :
    ∃ ds', Za1 ds off ws = some ds' ∧ dvL U cs' = some ds' := by
  unfold Za1 at h ⊢
  rw [Zb5 h1, Zb5 h2] at h
  cases hb : Nat.ble (off + ws.length) ds.length with
  | false => rw [hb] at h; cases h
  | true =>
    rw [hb] at h
    simp only [cond_true, Option.some.injEq] at h
    subst h
    exact ⟨_, rfl, Zm8 (Zm8 (Zs5 h1 off) h2) (Zha h1 _)⟩
theorem VRels.of_dvL {ρ : List Rf} {vs : List (TV U.X)} {ds : List DV} (h : dvL U vs = some ds) : VRels U ρ vs (ds.map .d) := by
  refine ⟨by simp [Zb5 h], fun k v a hv ha => ?_⟩
  obtain ⟨d, h1, h2⟩ := Zi5 h k v hv
  rw [List.getElem?_map, h1] at ha
  simp only [Option.map_some, Option.some.injEq] at ha
  subst ha
  exact .d v d h2
theorem VRel.isD {ρ : List Rf} {v : TV U.X} {a : AV} {d : DV} (h : VRel U ρ v a) (hd : v.dv U = some d) : a = .d d := by
  induction h generalizing d with
  | d v d' h => rw [h] at hd; cases hd; rfl
  | ptr => simp [TV.dv] at hd
  | osl => simp [TV.dv] at hd
  | mp => simp [TV.dv] at hd
  | fn f caps as hl h ih =>
    simp only [TV.dv, Option.map_eq_some_iff] at hd
    obtain ⟨ds, h1, rfl⟩ := hd
    have : as = ds.map .d := by
      apply List.ext_getElem?
      intro k
      rcases Nat.lt_or_ge k caps.length with hk | hk
      · obtain ⟨d, h2, h3⟩ := Zi5 h1 k _ (List.getElem?_eq_getElem hk)
        have hk' : k < as.length := by omega
        have := ih k _ _ (List.getElem?_eq_getElem hk) (List.getElem?_eq_getElem hk') h3
        rw [List.getElem?_eq_getElem hk', this, List.getElem?_map, h2]; rfl
      · have := Zb5 h1
        rw [List.getElem?_eq_none (by omega), List.getElem?_eq_none (by simp; omega)]
    subst this
    unfold ZuO
    have : ZcF (ds.map .d) = some ds := by
      clear h1 hl h ih
      unfold ZcF
      induction ds with
      | nil => rfl
      | cons d ds ih => simp only [List.map_cons, mapO, AV.toD, ih]
    rw [this]
  | tup vs as hl h ih =>
    simp only [TV.dv, Option.map_eq_some_iff] at hd
    obtain ⟨ds, h1, rfl⟩ := hd
    have : as = ds.map .d := by
      apply List.ext_getElem?
      intro k
      rcases Nat.lt_or_ge k vs.length with hk | hk
      · obtain ⟨d, h2, h3⟩ := Zi5 h1 k _ (List.getElem?_eq_getElem hk)
        have hk' : k < as.length := by omega
        have := ih k _ _ (List.getElem?_eq_getElem hk) (List.getElem?_eq_getElem hk') h3
        rw [List.getElem?_eq_getElem hk', this, List.getElem?_map, h2]; rfl
      · have := Zb5 h1
        rw [List.getElem?_eq_none (by omega), List.getElem?_eq_none (by simp; omega)]
    subst this
    unfold ZbF
    have : ZcF (ds.map .d) = some ds := by
      clear h1 hl h ih
      unfold ZcF
      induction ds with
      | nil => rfl
      | cons d ds ih => simp only [List.map_cons, mapO, AV.toD, ih]
    rw [this]
theorem Zhl (ds : List DV) : ZcF (ds.map .d) = some ds := by
  unfold ZcF
  induction ds with
  | nil => rfl
  | cons d ds ih => simp only [List.map_cons, mapO, AV.toD, ih]
theorem HR.lt {ρ : List Rf} {h0 : Base} {H : List (TObj U.X)} {h : List AObj} (r : HR U ρ h0 H h) {i : Nat} (hi : i ∈ ρ.map Rf.id) : i < h.length := by
  obtain ⟨f, hf, rfl⟩ := List.mem_map.1 hi
  obtain ⟨j, hj, rfl⟩ := List.mem_iff_getElem.1 hf
  have hj' : j < H.length := by rw [← r.len]; exact hj
  obtain ⟨i, ao, h1, h2, _⟩ := r.obj j _ (List.getElem?_eq_getElem hj')
  rw [List.getElem?_eq_getElem hj] at h1
  cases h1
  exact (List.getElem?_eq_some_iff.1 h2).1
theorem HR.inj {ρ : List Rf} {h0 : Base} {H : List (TObj U.X)} {h : List AObj} (r : HR U ρ h0 H h) {j j' : Nat} {i i' : Rf} (h1 : ρ[j]? = some i) (h2 : ρ[j']? = some i') (h : i.id = i'.id) : j = j' := by
  obtain ⟨a1, a2⟩ := List.getElem?_eq_some_iff.1 h1
  obtain ⟨b1, b2⟩ := List.getElem?_eq_some_iff.1 h2
  refine (List.getElem_inj r.nd (i := j) (j := j') (h₀ := by simpa using a1) (h₁ := by simpa using b1)).1 ?_
  simp only [List.getElem_map, a2, b2, h]
theorem Zs3 {ρ : List Rf} {j : Nat} {i : Rf} (h : ρ[j]? = some i) : i.id ∈ ρ.map Rf.id := List.mem_map_of_mem (List.mem_of_getElem? h)
theorem HR.set {ρ : List Rf} {h0 : Base} {H : List (TObj U.X)} {h : List AObj} (r : HR U ρ h0 H h) {j : Nat} {i : Rf} {o : TObj U.X} {ao : AObj} (hj : ρ[j]? = some i) (ho : ORel U ρ i.off o ao) :
    HR U ρ h0 (H.set j o) (h.set i.id ao) := by
  have hi : i.id < h.length := r.lt (Zs3 hj)
  have hjl : j < ρ.length := (List.getElem?_eq_some_iff.1 hj).1
  refine ⟨by simp [r.len], r.nd, fun j' o' hj' => ?_, fun i' hi' hm => ?_, by simpa using r.grow, r.fresh, r.pre⟩
  · rw [List.getElem?_set] at hj'
    split at hj'
    · rename_i he
      subst he
      split at hj'
      · simp only [Option.some.injEq] at hj'
        subst hj'
        exact ⟨i, ao, hj, by rw [List.getElem?_set_self hi], ho⟩
      · cases hj'
    · rename_i hne
      obtain ⟨i', ao', h1, h2, h3⟩ := r.obj j' o' hj'
      refine ⟨i', ao', h1, ?_, h3⟩
      have : i.id ≠ i'.id := fun he => hne (r.inj hj h1 he)
      rw [List.getElem?_set_ne this, h2]
  · have : i.id ≠ i' := fun he => hm (he ▸ Zs3 hj)
    rw [List.getElem?_set_ne this]
    exact r.frame i' hi' hm
theorem HR.push {ρ : List Rf} {h0 : Base} {H : List (TObj U.X)} {h : List AObj} (r : HR U ρ h0 H h) {o : TObj U.X} {ao : AObj} (ho : ORel U (ρ ++ [Rf.mk h.length 0]) 0 o ao) :
    HR U (ρ ++ [Rf.mk h.length 0]) h0 (H ++ [o]) (h ++ [ao]) := by
  refine ⟨by simp [r.len], ?_, fun j o' hj => ?_, fun i hi hm => ?_, by simp; have := r.grow; omega, fun j i hj hi => ?_, r.pre.trans (by rw [List.map_append]; exact List.prefix_append _ _)⟩
  · rw [List.map_append, List.nodup_append]
    refine ⟨r.nd, by simp, fun a ha b hb => ?_⟩
    simp only [List.map_cons, List.map_nil, List.mem_singleton] at hb
    subst hb
    exact Nat.ne_of_lt (r.lt ha)
  · rcases Nat.lt_or_ge j H.length with hlt | hge
    · rw [List.getElem?_append_left hlt] at hj
      obtain ⟨i, ao', h1, h2, h3⟩ := r.obj j o' hj
      refine ⟨i, ao', ?_, ?_, h3.mono (List.prefix_append _ _)⟩
      · rw [List.getElem?_append_left (by rw [r.len]; exact hlt), h1]
      · rw [List.getElem?_append_left (List.getElem?_eq_some_iff.1 h2).1, h2]
    · rw [List.getElem?_append_right hge] at hj
      have hj0 : j - H.length = 0 := by
        have := (List.getElem?_eq_some_iff.1 hj).1
        simp at this; omega
      rw [hj0] at hj
      simp only [List.getElem?_cons_zero, Option.some.injEq] at hj
      subst hj
      have hjl : j = H.length := by omega
      subst hjl
      refine ⟨⟨h.length, 0⟩, ao, ?_, by rw [List.getElem?_append_right (Nat.le_refl _)]; simp, ho⟩
      rw [List.getElem?_append_right (by rw [r.len]; exact Nat.le_refl _), r.len]; simp
  · have hi' : i < h.length := Nat.lt_of_lt_of_le hi r.grow
    rw [List.getElem?_append_left hi']
    exact r.frame i hi fun hh => hm (by rw [List.map_append]; exact List.mem_append_left _ hh)
  · rcases Nat.lt_or_ge j ρ.length with hlt | hge
    · rw [List.getElem?_append_left hlt] at hi
      exact r.fresh j i hj hi
    · rw [List.getElem?_append_right hge] at hi
      have := (List.getElem?_eq_some_iff.1 hi).2
      simp only [List.getElem_singleton] at this
      rw [← this]
      exact r.grow
end
end Go.Tev
namespace Go.Tev
open Go.Abs
section
variable {U : Uni}
theorem memB_iff {p : Nat × Bool} {ch : Zb6} : YdM p ch = true ↔ p ∈ ch := by
  induction ch with
  | nil => simp [YdM]
  | cons q r ih =>
    simp only [YdM]
    cases h : (Nat.beq p.1 q.1 && (p.2 == q.2)) with
    | true =>
      simp only [Bool.and_eq_true, beq_iff_eq, Nat.beq_eq] at h
      simp only [cond_true, true_iff]
      rw [show p = q from Prod.ext h.1 h.2]
      exact List.mem_cons_self
    | false =>
      simp only [cond_false, ih, List.mem_cons]
      constructor
      · exact .inr
      · rintro (rfl | h')
        · simp at h
        · exact h'
theorem ZzY {g ch : Zb6} (h : YaH g ch = true) : ∀ p ∈ g, p ∈ ch := by
  induction g with
  | nil => intro p hp; simp at hp
  | cons q r ih =>
    simp only [YaH, Bool.and_eq_true] at h
    intro p hp
    rcases List.mem_cons.1 hp with rfl | hp
    · exact memB_iff.1 h.1
    · exact ih h.2 p hp
theorem ZvG {X : Nat → Type} {s : TSt X} {g ch : Zb6} (h : YaH g ch = true) (hh : holds s ch) : holds s g := fun p hp => hh p (ZzY h p hp)
theorem XRel.flat {ρ : List Rf} {x : TX U.X} {y : XV} (h : XRel U ρ x y) : XRel U ρ x.flat y.flat := by
  cases h with
  | a v w h => exact .a v w h
  | sp => exact .sp _ _
  | fp cs ds h => exact .fp cs ds h
  | ap j i g e n off h => exact .ap j i g e n off h
  | own e xs => exact .a _ _ (.d _ _ rfl)
  | al k e xs => exact .a _ _ (.d _ _ rfl)
  | un => exact .un
theorem XRel.copy {ρ : List Rf} {x : TX U.X} {y : XV} (h : XRel U ρ x y) : XRel U ρ x.copy y.copy := by
  cases h with
  | a v w h => exact .a v w h
  | sp => exact .sp _ _
  | fp cs ds h => exact .fp cs ds h
  | ap j i g e n off h => exact .ap j i g e n off h
  | own e xs => exact .a _ _ (.d _ _ rfl)
  | al k e xs => exact .al _ _ _
  | un => exact .un
theorem XRel.isA {ρ : List Rf} {v : TV U.X} {y : XV} (h : XRel U ρ (.a v) y) : ∃ w, y = .a w ∧ VRel U ρ v w := by
  cases h with
  | a v w h => exact ⟨w, rfl, h⟩
theorem Zvo {d : DV} {v : TV U.X} (h : Zyd d = some v) : v.dv U = some d := by
  cases d <;> simp only [Zyd, Option.some.injEq] at h <;> (try (cases h; done)) <;> (try (subst h; rfl))
  rename_i es
  cases es with
  | nil => simp only [Zyd, Option.some.injEq] at h; subst h; rfl
  | cons => simp [Zyd] at h
theorem Ztb : ∀ {ds : List DV} {vs : List (TV U.X)}, mapO Zyd ds = some vs → dvL U vs = some ds
  | [], vs, h => by simp only [mapO, Option.some.injEq] at h; subst h; rfl
  | d :: ds, vs, h => by
    simp only [mapO] at h
    cases h1 : (Zyd d : Option (TV U.X)) with
    | none => rw [h1] at h; cases h
    | some v =>
      rw [h1] at h
      cases h2 : (mapO Zyd ds : Option (List (TV U.X))) with
      | none => rw [h2] at h; cases h
      | some ws =>
        rw [h2] at h
        simp only [Option.some.injEq] at h
        subst h
        exact Zb0 (Zvo h1) (Ztb h2)
theorem Yde {d : DV} {v : TV U.X} (h : tdv d = some v) : v.dv U = some d := by
  cases d with
  | agg cs =>
    simp only [tdv, Option.map_eq_some_iff] at h
    obtain ⟨vs, h1, rfl⟩ := h
    simp only [TV.dv, Ztb h1, Option.map_some]
  | _ => exact Zvo h
variable {ρ : List Rf} {h0 : Base} {s : TSt U.X} {a : St}
theorem Zq8 (r : Rel U ρ h0 s a) {ch : Zb6} (hh : holds s ch) {o : Operand} {y : TX U.X} (h : ZxE s ch o = some y) : ∃ z, opx a o = some z ∧ XRel U ρ y z := by
  cases o with
  | tmp t =>
    simp only [ZxE] at h
    cases ht : Zab s.tmp t with
    | some e =>
      rw [ht] at h
      simp only at h
      cases hs : YaH e.g ch with
      | false => rw [hs] at h; cases h
      | true =>
        rw [hs] at h
        simp only [cond_true, Option.some.injEq] at h
        subst h
        obtain ⟨z, h1, h2, _⟩ := r.tmp.yes t e ht
        exact ⟨z.copy, by simp only [opx, h1], (h2 (ZvG hs hh)).copy⟩
    | none =>
      rw [ht] at h
      have hn := r.tmp.no t ht
      cases he : Zab s.env t with
      | none => rw [he] at h; cases h
      | some v =>
        rw [he] at h
        obtain ⟨w, h1, h2⟩ := r.env t v he
        cases h2 with
        | val v w h2 =>
          simp only [Option.some.injEq] at h
          subst h
          exact ⟨.a w, by simp only [opx, hn, h1], .a _ _ h2⟩
        | own e xs =>
          simp only [Option.some.injEq] at h
          subst h
          exact ⟨_, by simp only [opx, hn, h1], .al _ _ _⟩
        | box cs ds h2 =>
          simp only [Option.some.injEq] at h
          subst h
          exact ⟨_, by simp only [opx, hn, h1], .sp _ _⟩
  | const v =>
    simp only [ZxE] at h
    cases hc : ZeT v with
    | none => rw [hc] at h; cases h
    | some d =>
      rw [hc] at h
      simp only at h
      cases hd : (tdv d : Option (TV U.X)) with
      | none => rw [hd] at h; cases h
      | some w =>
        rw [hd] at h
        simp only [Option.some.injEq] at h
        subst h
        exact ⟨_, by simp only [opx, hc], .a _ _ (.d _ _ (Yde hd))⟩
  | func f =>
    simp only [ZxE, Option.some.injEq] at h
    subst h
    exact ⟨_, rfl, .a _ _ (.d _ _ rfl)⟩
  | global g => simp [ZxE] at h
theorem ZgV (r : Rel U ρ h0 s a) {ch : Zb6} (hh : holds s ch) {o : Operand} {y : TX U.X} (h : ZuQ s ch o = some y) : ∃ z, opd a o = some z ∧ XRel U ρ y z := by
  unfold ZuQ at h
  cases h1 : ZxE s ch o with
  | none => rw [h1] at h; cases h
  | some x =>
    rw [h1] at h
    simp only [Option.some.injEq] at h
    subst h
    obtain ⟨z, h2, h3⟩ := Zq8 r hh h1
    exact ⟨z.flat, by simp only [opd, h2], h3.flat⟩
theorem Zcq (r : Rel U ρ h0 s a) {ch : Zb6} (hh : holds s ch) {o : Operand} {v : TV U.X} (h : Zfd s ch o = some v) : ∃ w, opA a o = some w ∧ VRel U ρ v w := by
  unfold Zfd at h
  cases h1 : ZuQ s ch o with
  | none => rw [h1] at h; cases h
  | some x =>
    rw [h1] at h
    cases x <;> simp only at h <;> (try (cases h; done))
    simp only [Option.some.injEq] at h
    subst h
    obtain ⟨z, h2, h3⟩ := ZgV r hh h1
    obtain ⟨w, rfl, h4⟩ := h3.isA
    exact ⟨w, by simp only [opA, h2], h4⟩
theorem Zcw (r : Rel U ρ h0 s a) {ch : Zb6} (hh : holds s ch) {o : Operand} {v : TV U.X} {d : DV} (h : Zfd s ch o = some v) (hd : v.dv U = some d) : opA a o = some (.d d) ∧ opD a o = some d ∧ opd a o = some (.a (.d d)) := by
  obtain ⟨w, h1, h2⟩ := Zcq r hh h
  have := h2.isD hd
  subst this
  have h3 : opd a o = some (.a (.d d)) := by
    unfold opA at h1
    split at h1
    · rename_i v' h4
      simp only [Option.some.injEq] at h1
      rw [h4, h1]
    · cases h1
  exact ⟨h1, by simp only [opD, h3], h3⟩
theorem Zi4 (r : Rel U ρ h0 s a) {ch : Zb6} (hh : holds s ch) : ∀ {os : List Operand} {vs : List (TV U.X)}, ZxF s ch os = some vs → ∃ ws, ZaL a os = some ws ∧ VRels U ρ vs ws
  | [], vs, h => by
    simp only [ZxF, Option.some.injEq] at h
    subst h
    exact ⟨[], rfl, rfl, fun k v a h => by simp at h⟩
  | o :: os, vs, h => by
    simp only [ZxF] at h
    cases h1 : Zfd s ch o with
    | none => rw [h1] at h; cases h
    | some v =>
      rw [h1] at h
      simp only at h
      cases h2 : ZxF s ch os with
      | none => rw [h2] at h; cases h
      | some vs' =>
        rw [h2] at h
        simp only [Option.some.injEq] at h
        subst h
        obtain ⟨w, h3, h4⟩ := Zcq r hh h1
        obtain ⟨ws, h5, h6, h7⟩ := Zi4 r hh h2
        refine ⟨w :: ws, by simp only [ZaL, h3, h5], by simp [h6], fun k v' a' hk ha => ?_⟩
        cases k with
        | zero => simp only [List.getElem?_cons_zero, Option.some.injEq] at hk ha; subst hk; subst ha; exact h4
        | succ k => exact h7 k v' a' (by simpa using hk) (by simpa using ha)
theorem VRels.dv {vs : List (TV U.X)} {ws : List AV} (h : VRels U ρ vs ws) : ∀ {ds : List DV}, dvL U vs = some ds → ws = ds.map .d := by
  intro ds hd
  apply List.ext_getElem?
  intro k
  rcases Nat.lt_or_ge k vs.length with hk | hk
  · obtain ⟨d, h2, h3⟩ := Zi5 hd k _ (List.getElem?_eq_getElem hk)
    have hk' : k < ws.length := by rw [← h.1]; exact hk
    have := (h.2 k _ _ (List.getElem?_eq_getElem hk) (List.getElem?_eq_getElem hk')).isD h3
    rw [List.getElem?_eq_getElem hk', this, List.getElem?_map, h2]; rfl
  · have := Zb5 hd
    have := h.1
    rw [List.getElem?_eq_none (by omega), List.getElem?_eq_none (by simp; omega)]
theorem VRels.take {vs : List (TV U.X)} {ws : List AV} (h : VRels U ρ vs ws) (n : Nat) : VRels U ρ (vs.take n) (ws.take n) := by
  refine ⟨by simp [h.1], fun k v a hv ha => ?_⟩
  rw [List.getElem?_take] at hv ha
  split at hv
  · rename_i hk; rw [if_pos hk] at ha; exact h.2 k v a hv ha
  · cases hv
theorem VRels.drop {vs : List (TV U.X)} {ws : List AV} (h : VRels U ρ vs ws) (n : Nat) : VRels U ρ (vs.drop n) (ws.drop n) := by
  refine ⟨by simp [h.1], fun k v a hv ha => ?_⟩
  rw [List.getElem?_drop] at hv ha
  exact h.2 _ v a hv ha
theorem VRels.append {vs vs' : List (TV U.X)} {ws ws' : List AV} (h : VRels U ρ vs ws) (h' : VRels U ρ vs' ws') : VRels U ρ (vs ++ vs') (ws ++ ws') := by
  refine ⟨by simp [h.1, h'.1], fun k v a hv ha => ?_⟩
  rcases Nat.lt_or_ge k vs.length with hk | hk
  · rw [List.getElem?_append_left hk] at hv
    rw [List.getElem?_append_left (by rw [← h.1]; exact hk)] at ha
    exact h.2 k v a hv ha
  · rw [List.getElem?_append_right hk] at hv
    rw [List.getElem?_append_right (by rw [← h.1]; exact hk), ← h.1] at ha
    exact h'.2 _ v a hv ha
variable {x : Cx}
theorem ZqD (ok : x.U.Ok x.C) {t : Nat} {v w : TV x.X} {d : DV} (hd : v.dv x.U = some d) (h : x.coerce t v = some w) : w.dv x.U = some d := by
  unfold Cx.coerce at h
  split at h
  · split at h <;> (simp only [Option.some.injEq] at h; subst h)
    · simp only [TV.dv] at hd ⊢; simpa using hd
    · exact hd
  · split at h
    · rename_i cs y hp
      simp only [Option.some.injEq] at h
      subst h
      obtain ⟨ds, h1, h2⟩ := ok.pack _ _ _ hp
      simp only [TV.dv, h1, Option.map_some, Option.some.injEq] at hd ⊢
      rw [h2, hd]
    · cases h
  · simp only [Option.some.injEq] at h; subst h; exact hd
theorem ZqK (ok : x.U.Ok x.C) {ρ : List Rf} {t : Nat} {v w : TV x.X} {u : AV} (hv : VRel x.U ρ v u) (h : x.coerce t v = some w) : VRel x.U ρ w u := by
  cases hd : v.dv x.U with
  | some d => rw [hv.isD hd]; exact .d _ _ (ZqD ok hd h)
  | none =>
    unfold Cx.coerce at h
    split at h
    · simp [TV.dv] at hd
    · cases hv with
      | d v d h2 => rw [h2] at hd; cases hd
    · simp only [Option.some.injEq] at h; subst h; exact hv
theorem ZjG (ok : x.U.Ok x.C) {ρ : List Rf} {t : Nat} {y z : TX x.X} {u : XV} (hv : XRel x.U ρ y u) (h : x.coerceX t y = some z) : XRel x.U ρ z u := by
  unfold Cx.coerceX at h
  split at h
  · split at h
    · rename_i v w hw
      simp only [Option.some.injEq] at h
      subst h
      obtain ⟨u', rfl, h1⟩ := hv.isA
      exact .a _ _ (ZqK ok h1 hw)
    · cases h
  · simp only [Option.some.injEq] at h; subst h; exact hv
theorem ZvF (ok : x.U.Ok x.C) {t : Nat} {cs : List (TV x.X)} {y : x.X t} {ds : List DV} (h : x.U.pack t cs = some y) (hd : dvL x.U cs = some ds) : x.U.enc t y = .agg ds := by
  obtain ⟨ds', h1, h2⟩ := ok.pack _ _ _ h
  rw [hd] at h1
  cases h1
  exact h2
theorem ZyH (ok : x.U.Ok x.C) {t : Nat} {cs : List (TV x.X)} {ds : List DV} {v : TV x.X} (hd : dvL x.U cs = some ds) (h : x.ld t cs = some v) : ∃ d, ZaF x.C t ds = some d ∧ v.dv x.U = some d := by
  unfold Cx.ld at h
  unfold ZaF
  split at h
  · rename_i hag
    rw [hag]
    split at h
    · rename_i n hn
      rw [hn]
      rw [Zb5 hd] at h
      simp only
      cases hb : Nat.ble n ds.length with
      | false => rw [hb] at h; cases h
      | true =>
        rw [hb] at h
        simp only [cond_true] at h ⊢
        split at h
        · rename_i y hp
          simp only [Option.some.injEq] at h
          subst h
          exact ⟨_, rfl, by simp only [TV.dv, ZvF ok hp (Zs5 hd n)]⟩
        · cases h
    · cases h
  · rename_i hag
    rw [hag]
    split at h
    · rename_i v' r
      obtain ⟨d, ds', h1, h2, rfl⟩ := ZcS hd
      exact ⟨d, rfl, ZqD ok h1 h⟩
    · cases h
  · cases h
theorem Yax (ok : x.U.Ok x.C) {ρ : List Rf} {t : Nat} {cs : List (TV x.X)} {as : List AV} {v : TV x.X} (hd : VRels x.U ρ cs as) (h : x.ld t cs = some v) : ∃ w, Zal x.C t as = some w ∧ VRel x.U ρ v w := by
  unfold Cx.ld at h
  unfold Zal
  split at h
  · rename_i hag
    rw [hag]
    split at h
    · rename_i n hn
      rw [hn]
      rw [hd.1] at h
      simp only
      cases hb : Nat.ble n as.length with
      | false => rw [hb] at h; cases h
      | true =>
        rw [hb] at h
        simp only [cond_true] at h ⊢
        split at h
        · rename_i y hp
          simp only [Option.some.injEq] at h
          subst h
          obtain ⟨ds, h1, h2⟩ := ok.pack _ _ _ hp
          rw [(hd.take n).dv h1, Zhl]
          exact ⟨_, rfl, .d _ _ (by simp only [TV.dv, h2])⟩
        · cases h
    · cases h
  · rename_i hag
    rw [hag]
    split at h
    · rename_i v' r
      cases as with
      | nil => have := hd.1; simp at this
      | cons w as => exact ⟨w, rfl, ZqK ok (hd.2 0 _ _ rfl rfl) h⟩
    · cases h
  · cases h
end
end Go.Tev
namespace Go.Tev
open Go.Abs
def PR.Is {α : Type} (act : Prop) : PR α → α → Prop
  | .tot b, a => a = b
  | .part p d f, a => ∃ b, (act → p = some b) ∧ a = f b
theorem PR.Is_map {α β : Type} {act : Prop} {r : PR α} {h : α → β} {b : β} : PR.Is act (r.map h) b ↔ ∃ a, PR.Is act r a ∧ b = h a := by
  cases r with
  | tot a => simp [PR.map, PR.Is]
  | part p d f =>
    simp only [PR.map, PR.Is]
    constructor
    · rintro ⟨c, h1, rfl⟩; exact ⟨_, ⟨c, h1, rfl⟩, rfl⟩
    · rintro ⟨_, ⟨c, h1, rfl⟩, rfl⟩; exact ⟨c, h1, rfl⟩
theorem PR.go_some {α R : Type} {g : Option Bool} {r : PR α} {k : α → Option R} {z : R} (h : PR.go g r k = some z) : ∃ a, PR.Is (g ≠ some false) r a ∧ k a = some z := by
  cases r with
  | tot a => exact ⟨a, rfl, h⟩
  | part p d f =>
    cases g with
    | none =>
      simp only [PR.go] at h
      cases p with
      | none => cases h
      | some b => exact ⟨f b, ⟨b, fun _ => rfl, rfl⟩, h⟩
    | some c =>
      simp only [PR.go] at h
      cases c with
      | false => exact ⟨f d, ⟨d, fun h => absurd rfl h, rfl⟩, h⟩
      | true =>
        simp only [cond_true] at h
        cases p with
        | none => cases h
        | some b => exact ⟨f b, ⟨b, fun _ => rfl, rfl⟩, h⟩
theorem PR.Is.imp {α : Type} {P Q : Prop} (hpq : Q → P) {r : PR α} {a : α} (h : PR.Is P r a) : PR.Is Q r a := by
  cases r with
  | tot => exact h
  | part p d f => obtain ⟨b, h1, h2⟩ := h; exact ⟨b, fun hq => h1 (hpq hq), h2⟩
theorem Zli {α : Type 1} {b : Bool} {q : Option α} {y : α} (h : (bif b then q else none) = some y) : b = true ∧ q = some y := by
  cases b with
  | false => cases h
  | true => exact ⟨rfl, h⟩
section
variable {x : Cx} {ρ : List Rf} {h0 : Base} {s : TSt x.X} {a : St}
theorem ZbY {X : Nat → Type} {t' t : Nat} {y : X t'} {z : X t} (h : Zfg t' t y = some z) : ∃ e : t' = t, e ▸ y = z := by
  unfold Zfg at h
  split at h
  · rename_i e; exact ⟨e, by simpa using h⟩
  · cases h
theorem ZzD {op : BinOp} {k : IntKind} {m n : Int} {pr : PR (TV x.X)} {w : TV x.X} (h : YbO op k m n = some pr) (hi : PR.Is True pr w) : ∃ d, ZfC op k m n = some d ∧ w.dv x.U = some d := by
  cases op <;> simp only [YbO, Option.some.injEq] at h <;> (try (cases h; done)) <;> subst h <;> simp only [PR.Is, YdY] at hi <;>
    (try (subst hi; exact ⟨_, rfl, rfl⟩)) <;> (obtain ⟨b, h1, rfl⟩ := hi; have h1 := h1 trivial; unfold ZfC; split at h1 <;> (try (cases h1; done)) <;> rename_i hb <;> (simp only [Option.some.injEq] at h1; subst h1; simp only [if_neg hb]; exact ⟨_, rfl, rfl⟩))
theorem Yc5 (ok : x.U.Ok x.C) {op : BinOp} {t : Nat} {u v w : TV x.X} {uw vw : AV} {pr : PR (TV x.X)} (h1 : VRel x.U ρ u uw) (h2 : VRel x.U ρ v vw) (h : Ye7 x op t u v = some pr) (hi : PR.Is True pr w) :
    ∃ d, Zem x.C op t uw vw = some d ∧ w.dv x.U = some d := by
  unfold Ye7 at h
  split at h
  · rw [h1.isD rfl, h2.isD rfl]
    rename_i k m k' n
    simp only [Zem]
    split at h
    · simp only [Option.some.injEq] at h; subst h
      obtain ⟨b, h3, rfl⟩ := hi
      have h3 := h3 trivial
      simp only [Zep]
      split at h3
      · cases h3
      · rename_i hb; simp only [Option.some.injEq] at h3; subst h3; simp only [if_neg hb]; exact ⟨_, rfl, rfl⟩
    · simp only [Option.some.injEq] at h; subst h
      obtain ⟨b, h3, rfl⟩ := hi
      have h3 := h3 trivial
      simp only [Zep]
      split at h3
      · cases h3
      · rename_i hb; simp only [Option.some.injEq] at h3; subst h3; simp only [if_neg hb]; exact ⟨_, rfl, rfl⟩
    · rename_i n1 n2
      cases hk : decide (k = k') with
      | false => rw [hk] at h; cases h
      | true =>
        rw [hk] at h
        simp only [cond_true] at h
        have hk := of_decide_eq_true hk
        subst hk
        have : Zep x.C op t (.int k m) (.int k n) = ZfC op k m n := by
          unfold Zep
          cases op <;> simp <;> first | exact absurd rfl n1 | exact absurd rfl n2
        rw [this]
        exact ZzD h hi
  · rename_i p q
    rw [h1.isD rfl, h2.isD rfl]
    simp only [Zem]
    cases op <;> simp only [Option.some.injEq] at h <;> (try (cases h; done)) <;> subst h <;> (try (simp only [PR.Is] at hi; subst hi; exact ⟨_, rfl, rfl⟩))
    obtain ⟨b, h3, rfl⟩ := hi
    have h3 := h3 trivial
    split at h3
    · rename_i hb
      simp only [Option.some.injEq] at h3; subst h3
      have : Nat.ble (p.length + q.length) (2 ^ 40) = true := by rw [Nat.ble_eq]; exact hb
      simp only [Zep, this, cond_true]
      exact ⟨_, rfl, rfl⟩
    · cases h3
  · rw [h1.isD rfl, h2.isD rfl]
    simp only [Zem, Zep]
    split at h
    · rename_i hb; rw [hb]; simp only [Option.some.injEq] at h; subst h; simp only [PR.Is] at hi; subst hi; exact ⟨_, rfl, rfl⟩
    · rename_i hb; rw [hb]; simp only [Option.some.injEq] at h; subst h; simp only [PR.Is] at hi; subst hi; exact ⟨_, rfl, rfl⟩
    · cases h
  · rename_i ty p ty' q
    split at h
    · rename_i q' f hq hf
      obtain ⟨he, hq⟩ := ZbY hq
      subst he
      cases hq
      obtain ⟨hb, hx⟩ := Zli h
      clear h
      have h := hx
      clear hx
      rw [Nat.beq_eq] at hb
      subst hb
      obtain ⟨g1, g2⟩ := ok.eqT _ _ hf
      obtain ⟨e1, e2⟩ := g2 p q
      obtain ⟨e3, _⟩ := g2 q p
      rw [h1.isD rfl, h2.isD rfl]
      rw [e1, e3] at e2
      rw [e1, e3]
      simp only [Zem, Zep, g1, cond_false, e2]
      split at h
      · simp only [Option.some.injEq] at h; subst h; simp only [PR.Is] at hi; subst hi; exact ⟨_, rfl, rfl⟩
      · simp only [Option.some.injEq] at h; subst h; simp only [PR.Is] at hi; subst hi; exact ⟨_, rfl, rfl⟩
      · cases h
    · cases h
  · rw [h1.isD rfl, h2.isD rfl]
    simp only [Zem, Zep]
    split at h
    · rename_i hb; rw [hb]; simp only [Option.some.injEq] at h; subst h; simp only [PR.Is] at hi; subst hi; exact ⟨_, rfl, rfl⟩
    · rename_i hb; rw [hb]; simp only [Option.some.injEq] at h; subst h; simp only [PR.Is] at hi; subst hi; exact ⟨_, rfl, rfl⟩
    · cases h
  · rw [h2.isD rfl]
    cases h1 with
    | d v d hd => simp [TV.dv] at hd
    | mp j i hj =>
      simp only [Zem]
      split at h
      · rename_i hb; rw [hb]; simp only [Option.some.injEq] at h; subst h; simp only [PR.Is] at hi; subst hi; exact ⟨_, rfl, rfl⟩
      · rename_i hb; rw [hb]; simp only [Option.some.injEq] at h; subst h; simp only [PR.Is] at hi; subst hi; exact ⟨_, rfl, rfl⟩
      · cases h
  · cases h
theorem Ye1 {op : UnOp} {u w : TV x.X} {uw : AV} {pr : PR (TV x.X)} (h1 : VRel x.U ρ u uw) (h : unT op u = some pr) (hi : PR.Is True pr w) : ∃ e d, uw = .d e ∧ dUn op e = some d ∧ w.dv x.U = some d := by
  unfold unT at h
  split at h
  · split at h
    · simp only [Option.some.injEq] at h; subst h; simp only [PR.Is] at hi; subst hi
      exact ⟨_, _, h1.isD rfl, rfl, rfl⟩
    · cases h
  · split at h
    · simp only [Option.some.injEq] at h; subst h; simp only [PR.Is] at hi; subst hi
      exact ⟨_, _, h1.isD rfl, rfl, rfl⟩
    · cases h
  · cases h
theorem Zgk (hr : HR x.U ρ h0 s.heap a.heap) {j : Nat} {i : Rf} {o : TObj x.X} (hj : s.heap[j]? = some o) (hi : ρ[j]? = some i) : ∃ ao, a.heap[i.id]? = some ao ∧ ORel x.U ρ i.off o ao := by
  obtain ⟨i', ao, h1, h2, h3⟩ := hr.obj j o hj
  rw [hi] at h1
  cases h1
  exact ⟨ao, h2, h3⟩
theorem YdT (r : Rel x.U ρ h0 s a) {t : Nat} {u w : TV x.X} {uw : AV} {pr : PR (TV x.X)} (h1 : VRel x.U ρ u uw) (h : Yfz x s.heap t u = some pr) (hi : PR.Is True pr w) : ∃ d, Zb1 x.C a.heap t uw = some d ∧ w.dv x.U = some d := by
  unfold Yfz at h
  split at h
  · rw [h1.isD rfl]
    simp only [Zb1]
    rename_i s'
    cases hb : x.C.isStr t with
    | false => rw [hb] at h; cases h
    | true => rw [hb] at h; simp only [cond_true, Option.some.injEq] at h; subst h; simp only [PR.Is] at hi; subst hi; exact ⟨_, rfl, rfl⟩
  · rw [h1.isD rfl]
    simp only [Zb1]
    split at h
    · rename_i hb; rw [hb]; simp only [Option.some.injEq] at h; subst h; simp only [PR.Is] at hi; subst hi; exact ⟨_, rfl, by simp [TV.dv]⟩
    · cases h
  · rw [h1.isD rfl]
    simp only [Zb1]
    split at h
    · rename_i hb; rw [hb]; simp only [Option.some.injEq] at h; subst h; simp only [PR.Is] at hi; subst hi; exact ⟨_, rfl, by simp [TV.dv]⟩
    · cases h
  · cases h1 with
    | d v d hd => simp [TV.dv] at hd
    | osl j i g e n hj =>
      simp only [Zb1]
      split at h
      · rename_i hb; rw [hb]; simp only [Option.some.injEq] at h; subst h; simp only [PR.Is] at hi; subst hi; exact ⟨_, rfl, rfl⟩
      · cases h
  · cases h1 with
    | d v d hd => simp [TV.dv] at hd
    | mp j i hj =>
      split at h
      · rename_i hb
        obtain ⟨ao, h3, h4⟩ := Zgk r.heap hb hj
        cases h4
        simp only [Zb1, h3]
        cases hb : x.C.isMap t with
        | false => rw [hb] at h; cases h
        | true => rw [hb] at h; simp only [cond_true, Option.some.injEq] at h; subst h; simp only [PR.Is] at hi; subst hi; exact ⟨_, rfl, by simp [TV.dv]⟩
      · cases h
  · cases h
theorem Ybh {us : List (TV x.X)} {ws : List AV} {w : TV x.X} {pr : PR (TV x.X)} (h1 : VRels x.U ρ us ws) (h : Ybc us = some pr) (hi : PR.Is True pr w) : ∃ ds d, ws = ds.map .d ∧ Yd5 ds = some d ∧ w.dv x.U = some d := by
  unfold Ybc at h
  split at h
  · simp only [Option.some.injEq] at h; subst h; simp only [PR.Is] at hi; subst hi
    exact ⟨_, _, h1.dv rfl, rfl, rfl⟩
  · cases h
theorem YbB {us : List (TV x.X)} {ws : List AV} {w : TV x.X} {pr : PR (TV x.X)} (h1 : VRels x.U ρ us ws) (h : Yb7 us = some pr) (hi : PR.Is True pr w) : ∃ ds d, ws = ds.map .d ∧ Yd1 ds = some d ∧ w.dv x.U = some d := by
  unfold Yb7 at h
  split at h
  · simp only [Option.some.injEq] at h; subst h; simp only [PR.Is] at hi; subst hi
    exact ⟨_, _, h1.dv rfl, rfl, rfl⟩
  · cases h
theorem Zc7 {X : Nat → Type} {t' t : Nat} {y : List (X t')} {z : List (X t)} (h : Zih t' t y = some z) : ∃ e : t' = t, e ▸ y = z := by
  unfold Zih at h
  split at h
  · rename_i e; exact ⟨e, by simpa using h⟩
  · cases h
theorem ZsZ : ∀ (l : List DV), ZjV (l.map .d) = Zej l
  | [] => rfl
  | d :: l => by
    cases d <;> simp only [List.map_cons, ZjV, Zej]
    rename_i k n
    cases k <;> simp only [ZjV, Zej, ZsZ l]
theorem YaO (ok : x.U.Ok x.C) (r : Rel x.U ρ h0 s a) {s' t : Nat} {u w : TV x.X} {uw : AV} {pr : PR (TV x.X)} (h1 : VRel x.U ρ u uw) (h : YaS x s.heap s' t u = some pr) (hi : PR.Is True pr w) :
    ∃ d, Zai x.C a.heap s' t uw = some d ∧ w.dv x.U = some d := by
  unfold YaS at h
  split at h
  · rw [h1.isD rfl]
    simp only [Zai]
    split at h
    · rename_i e1 e2; rw [e1, e2]; simp only [Option.some.injEq] at h; subst h; simp only [PR.Is] at hi; subst hi; exact ⟨_, rfl, rfl⟩
    · cases h
  · rw [h1.isD rfl]
    simp only [Zai]
    cases hb : (x.C.isStr s' && x.C.isStr t) with
    | false => rw [hb] at h; cases h
    | true => rw [hb] at h; simp only [cond_true, Option.some.injEq] at h; subst h; simp only [PR.Is] at hi; subst hi; exact ⟨_, rfl, rfl⟩
  · rename_i j g e n
    cases h1 with
    | d v d hd => simp [TV.dv] at hd
    | osl _ i _ _ _ hj =>
      cases hb : (x.C.isBytes s' && x.C.isStr t) with
      | false => rw [hb] at h; cases h
      | true =>
        rw [hb] at h
        simp only [cond_true] at h
        split at h
        · rename_i g' ap e' xs fb f hh hby
          obtain ⟨ao, h3, h4⟩ := Zgk r.heap hh hj
          cases h4
          split at h
          · rename_i ys hc
            obtain ⟨he, hc⟩ := Zc7 hc
            subst he
            simp only at hc
            subst hc
            cases hg : Nat.beq g g' with
            | false => rw [hg] at h; cases h
            | true =>
              rw [hg] at h
              simp only [cond_true, Option.some.injEq] at h
              subst h
              obtain ⟨b, h5, rfl⟩ := hi
              have h5 := h5 trivial
              split at h5
              · rename_i hn
                simp only [Option.some.injEq] at h5
                subst h5
                have := Nat.eq_of_beq_eq_true hg
                subst this
                have hbl : Nat.ble n (xs.map fun y => AV.d (x.U.enc e' y)).length = true := by rw [Nat.ble_eq]; simpa using hn
                simp only [Zai, hb, cond_true, Zel, h3, Nat.beq_refl, cond_true, hbl]
                have := (ok.bytes _ _ _ hby).2 (xs.take n)
                rw [← List.map_take, show (List.map (fun y => AV.d (x.U.enc e' y)) (xs.take n)) = ((xs.take n).map (x.U.enc e')).map AV.d by simp [List.map_map, Function.comp_def], ZsZ, this]
                exact ⟨_, rfl, rfl⟩
              · cases h5
          · cases h
        · cases h
  · rw [h1.isD rfl]
    cases hb : (x.C.isBytes s' && x.C.isStr t) with
    | false => rw [hb] at h; cases h
    | true =>
      rw [hb] at h
      simp only [cond_true] at h
      split at h
      · rename_i hby
        simp only [Option.some.injEq] at h; subst h; simp only [PR.Is] at hi; subst hi
        simp only [Zai, hb, cond_true, (ok.bytes _ _ _ hby).2]
        exact ⟨_, rfl, rfl⟩
      · cases h
  · cases h
end
end Go.Tev
namespace Go.Tev
open Go.Abs
section
variable {x : Cx} {ρ : List Rf} {h0 : Base} {s : TSt x.X} {a : St}
theorem ZnT {i : Int} {n : Nat} (h1 : 0 ≤ i) (h2 : i.toNat < n) : idx i n = some i.toNat := by
  unfold idx
  rw [if_pos ⟨h1, by omega⟩]
theorem Zqp {α : Type} {xs : List α} {i : Int} {y : α} (h : ZfX xs i = some y) : 0 ≤ i ∧ xs[i.toNat]? = some y ∧ i.toNat < xs.length := by
  unfold ZfX at h
  split at h
  · rename_i h1; exact ⟨h1, h, (List.getElem?_eq_some_iff.1 h).1⟩
  · cases h
theorem Zsu (r : Rel x.U ρ h0 s a) {ch : Zb6} (hh : holds s ch) {o : Option Operand} {l : Option (TV x.X)} {d m : Int} (h1 : Ybd s ch o = some l) (h2 : YbC d l = some m) :
    ∃ dl, optD a o = some dl ∧ ((dl = none ∧ m = d) ∨ ∃ k, dl = some (.int k m)) := by
  cases o with
  | none =>
    simp only [Ybd, Option.some.injEq] at h1
    subst h1
    simp only [YbC, Option.some.injEq] at h2
    exact ⟨none, rfl, .inl ⟨rfl, h2.symm⟩⟩
  | some o =>
    simp only [Ybd] at h1
    cases h3 : Zfd s ch o with
    | none => rw [h3] at h1; cases h1
    | some v =>
      rw [h3] at h1
      simp only [Option.some.injEq] at h1
      subst h1
      cases v <;> simp only [YbC] at h2 <;> (try (cases h2; done))
      simp only [Option.some.injEq] at h2
      subst h2
      rename_i k n
      obtain ⟨_, h4, _⟩ := Zcw r hh h3 (d := .int k n) rfl
      exact ⟨some (.int k n), by simp only [optD, h4], .inr ⟨k, rfl⟩⟩
theorem Zkq {n : Nat} {dl : Option DV} {d : Nat} {m : Int} (h : (dl = none ∧ m = d) ∨ ∃ k, dl = some (.int k m)) (h1 : 0 ≤ m) (h2 : m ≤ n) : ZbO n d dl = some m.toNat := by
  rcases h with ⟨rfl, rfl⟩ | ⟨k, rfl⟩
  · simp [ZbO]
  · simp only [ZbO, if_pos (And.intro h1 h2)]
theorem ZpU {α : Type} {xs ys : List α} {lo hi : Int} (h : ZsI xs lo hi = some ys) : 0 ≤ lo ∧ lo ≤ hi ∧ hi ≤ xs.length ∧ ys = (xs.take hi.toNat).drop lo.toNat := by
  unfold ZsI at h
  split at h
  · rename_i h1; simp only [Option.some.injEq] at h; exact ⟨h1.1, h1.2.1, h1.2.2, h.symm⟩
  · cases h
theorem Zis (ok : x.U.Ok x.C) {e n : Nat} (hc : x.U.csz e = some n) (xs : List (x.X e)) : Zao n (xs.map (x.U.enc e)) = true := by
  induction xs with
  | nil => rfl
  | cons y xs ih => simp only [List.map_cons, Zao, ih, Bool.and_true, Nat.beq_eq]; exact ok.csz _ _ _ hc
theorem Zjk {n : Nat} : ∀ {l : List DV} (m : Nat), Zao n l = true → Zao n (l.take m) = true
  | [], m, _ => by simp [Zao]
  | v :: l, 0, _ => rfl
  | v :: l, m + 1, h => by
    simp only [Zao, Bool.and_eq_true] at h
    simp only [List.take_succ_cons, Zao, Bool.and_eq_true]
    exact ⟨h.1, Zjk m h.2⟩
theorem Zy7 (ok : x.U.Ok x.C) (r : Rel x.U ρ h0 s a) {ch : Zb6} (hh : holds s ch) {t : Nat} {lo hi : Option Operand} {l h : Option (TV x.X)} {u w : TV x.X} {pr : PR (TV x.X)} {e : DV} (hu : u.dv x.U = some e)
    (h1 : Ybd s ch lo = some l) (h2 : Ybd s ch hi = some h) (h3 : Zr2 x t l h u = some pr) (hi' : PR.Is True pr w) :
    ∃ dl dh d, optD a lo = some dl ∧ optD a hi = some dh ∧ ZaO x.C t e dl dh = some d ∧ w.dv x.U = some d := by
  unfold Zr2 at h3
  split at h3
  · rename_i b
    cases hu
    cases hb : x.C.isStr t with
    | false => rw [hb] at h3; cases h3
    | true =>
      rw [hb] at h3
      simp only [cond_true] at h3
      split at h3
      · rename_i m n hm hn
        simp only [Option.some.injEq] at h3
        subst h3
        obtain ⟨y, h4, rfl⟩ := hi'
        obtain ⟨g1, g2, g3, rfl⟩ := ZpU (h4 trivial)
        obtain ⟨dl, k1, k2⟩ := Zsu r hh h1 hm
        obtain ⟨dh, k3, k4⟩ := Zsu r hh h2 hn
        refine ⟨dl, dh, _, k1, k3, ?_, rfl⟩
        simp only [ZaO, hb, cond_true, Zkq (d := b.length) (by simpa using k4) (by omega) g3, Zkq (n := n.toNat) (d := 0) (by simpa using k2) g1 (by omega)]
      · cases h3
  · rename_i e' xs
    cases hu
    split at h3
    · rename_i e2 m n he hm hn
      cases hb : Nat.beq e' e2 with
      | false => rw [hb] at h3; cases h3
      | true =>
        rw [hb] at h3
        have := Nat.eq_of_beq_eq_true hb
        subst this
        simp only [cond_true] at h3
        split at h3
        · rename_i sz hsz
          simp only [Option.some.injEq] at h3
          subst h3
          obtain ⟨y, h4, rfl⟩ := hi'
          obtain ⟨g1, g2, g3, rfl⟩ := ZpU (h4 trivial)
          obtain ⟨dl, k1, k2⟩ := Zsu r hh h1 hm
          obtain ⟨dh, k3, k4⟩ := Zsu r hh h2 hn
          refine ⟨dl, dh, _, k1, k3, ?_, rfl⟩
          cases hes : x.C.elemSize t with
          | none => rw [hes] at hsz; simp at hsz
          | some sz' =>
            have hcs : x.U.csz e' = some sz' := by
              rw [hes] at hsz
              simp only at hsz
              split at hsz
              · rename_i n' hn'
                cases hbb : Nat.beq n' sz' with
                | false => rw [hbb] at hsz; cases hsz
                | true => rw [hn', Nat.eq_of_beq_eq_true hbb]
              · cases hsz
            simp only [ZaO, hes, Zkq (n := (xs.map (x.U.enc e')).length) (d := (xs.map (x.U.enc e')).length) (by simpa using k4) (by omega) (by simpa using g3),
              Zkq (n := n.toNat) (d := 0) (by simpa using k2) g1 (by omega), Zjk 1 (Zis ok hcs xs), cond_true, List.map_drop, List.map_take]
        · cases h3
    · cases h3
  · cases h3
theorem Zyx {y z : TX x.X} {u : XV} (h1 : XRel x.U ρ y u) (h : ZiH y = some z) : ∃ w, Zoa u = some w ∧ XRel x.U ρ z w := by
  cases h1 with
  | a v w hv =>
    cases v <;> simp only [ZiH] at h <;> (try (cases h; done))
    simp only [Option.some.injEq] at h; subst h
    cases hv with
    | d v d hd => simp [TV.dv] at hd
    | ptr j i off hj => exact ⟨_, rfl, .a _ _ (.ptr _ _ _ hj)⟩
  | sp => simp only [ZiH, Option.some.injEq] at h; subst h; exact ⟨_, rfl, .sp _ _⟩
  | fp cs ds hd => simp only [ZiH, Option.some.injEq] at h; subst h; exact ⟨_, rfl, .fp _ _ hd⟩
  | ap j i g e n off hj => simp only [ZiH, Option.some.injEq] at h; subst h; exact ⟨_, rfl, .ap _ _ _ _ _ _ hj⟩
  | own => simp [ZiH] at h
  | al => simp [ZiH] at h
  | un => simp [ZiH] at h
theorem ZoS {t f : Nat} {y z : TX x.X} {u : XV} (h1 : XRel x.U ρ y u) (h : Zjt x t f y = some z) : ∃ w, Zah x.C t f u = some w ∧ XRel x.U ρ z w := by
  unfold Zjt at h
  unfold Zah
  split at h
  · cases h
  · rename_i fd hfd
    rw [hfd]
    simp only
    cases hs : x.C.hasSize fd.type with
    | false => rw [hs] at h; cases h
    | true =>
      rw [hs] at h
      simp only [cond_true] at h ⊢
      cases h1 with
      | a v w hv =>
        cases v <;> simp only at h <;> (try (cases h; done))
        simp only [Option.some.injEq] at h; subst h
        cases hv with
        | d v d hd => simp [TV.dv] at hd
        | ptr j i off hj => exact ⟨_, rfl, .a _ _ (.ptr _ _ _ hj)⟩
      | sp => simp only [Option.some.injEq] at h; subst h; exact ⟨_, rfl, .sp _ _⟩
      | fp cs ds hd =>
        simp only at h ⊢
        rw [Zb5 hd] at h
        cases hb : Nat.ble fd.offset ds.length with
        | false => rw [hb] at h; cases h
        | true =>
          rw [hb] at h
          simp only [cond_true, Option.some.injEq] at h ⊢
          subst h
          exact ⟨_, rfl, .fp _ _ (Zha hd _)⟩
      | ap j i g e n off hj => simp only [Option.some.injEq] at h; subst h; exact ⟨_, rfl, .ap _ _ _ _ _ _ hj⟩
      | own => simp at h
      | al => simp at h
      | un => simp at h
theorem ZzH (ok : x.U.Ok x.C) {t f : Nat} {v w : TV x.X} {d : DV} (hd : v.dv x.U = some d) (h : Ztr x t f v = some w) : ∃ e, ZaS x.C t f d = some e ∧ w.dv x.U = some e := by
  unfold Ztr at h
  unfold ZaS
  split at h
  · cases h
  · rename_i fd hfd
    rw [hfd]
    simp only
    split at h
    · rename_i ty y
      split at h
      · rename_i g hg
        cases hag : x.C.isAgg ty with
        | none => rw [hag] at h; cases h
        | some b =>
          cases b with
          | false => rw [hag] at h; cases h
          | true =>
            rw [hag] at h
            simp only at h
            cases hd
            have h1 := ok.agg _ g y hag hg
            obtain ⟨e, h2, h3⟩ := ZyH ok (Zha (ok.cells _ _ y hg) fd.offset) h
            rw [h1]
            exact ⟨e, h2, h3⟩
      · cases h
    · rename_i cs
      simp only [TV.dv, Option.map_eq_some_iff] at hd
      obtain ⟨ds, h1, rfl⟩ := hd
      obtain ⟨e, h2, h3⟩ := ZyH ok (Zha h1 fd.offset) h
      exact ⟨e, h2, h3⟩
    · cases h
theorem Zqf (ok : x.U.Ok x.C) (r : Rel x.U ρ h0 s a) {t : Nat} {v : TV x.X} {vw : AV} {i : Int} {y : TX x.X} {pr : PR (Option (TX x.X))} (hv : VRel x.U ρ v vw)
    (h : ZjD x s.heap t v i = some pr) (hi : PR.Is True pr (some y)) : ∃ w, Zag x.C t a vw i = some w ∧ XRel x.U ρ y w := by
  unfold ZjD at h
  split at h
  · rename_i e' sz he hsz
    split at h
    · rename_i e xs
      split at h
      · rename_i f sz' hf hcs
        cases hb : (Nat.beq e e' && Nat.beq sz sz') with
        | false => rw [hb] at h; cases h
        | true =>
          rw [hb] at h
          simp only [cond_true, Option.some.injEq] at h
          subst h
          simp only [Bool.and_eq_true, Nat.beq_eq] at hb
          obtain ⟨rfl, rfl⟩ := hb
          obtain ⟨z, h1, h2⟩ := hi
          simp only [Option.some.injEq] at h2
          subst h2
          obtain ⟨g1, g2, g3⟩ := Zqp (h1 trivial)
          rw [hv.isD rfl]
          have hl : Nat.beq (x.U.enc e z).cells.length sz = true := by rw [Nat.beq_eq]; exact ok.csz _ _ _ hcs
          simp only [Zag, hsz, List.length_map, ZnT g1 g3, List.getElem?_map, g2, Option.map_some, hl, cond_true]
          exact ⟨_, rfl, .fp _ _ (ok.cells _ _ _ hf)⟩
      · cases h
    · rename_i j g e n
      split at h
      · rename_i g' ap e2 xs hh
        split at h
        · rename_i sz' hcs
          cases hb : (Nat.beq e e' && Nat.beq e e2 && Nat.beq g g' && Nat.beq sz sz') with
          | false => rw [hb] at h; cases h
          | true =>
            rw [hb] at h
            simp only [cond_true, Option.some.injEq] at h
            subst h
            simp only [Bool.and_eq_true, Nat.beq_eq] at hb
            obtain ⟨⟨⟨rfl, rfl⟩, rfl⟩, rfl⟩ := hb
            obtain ⟨k, h1, h2⟩ := hi
            simp only [Option.some.injEq] at h2
            subst h2
            have h1 := h1 trivial
            split at h1
            · rename_i hcond
              simp only [Option.some.injEq] at h1
              subst h1
              cases hv with
              | d v d hd => simp [TV.dv] at hd
              | osl _ i' _ _ _ hj =>
                obtain ⟨ao, h3, h4⟩ := Zgk r.heap hh hj
                cases h4
                have hbb : ∀ m, Nat.beq m m = true := fun m => by simp
                have hk : i.toNat < xs.length := by omega
                have hl : Nat.beq (AV.d (x.U.enc e xs[i.toNat])).cells.length sz = true := by
                  rw [Nat.beq_eq, show (AV.d (x.U.enc e xs[i.toNat])).cells.length = (x.U.enc e xs[i.toNat]).cells.length by
                    cases x.U.enc e xs[i.toNat] <;> simp [AV.cells, DV.cells]]
                  exact ok.csz _ _ _ hcs
                simp only [Zag, hsz, Zel, h3, hbb, cond_true, ZnT hcond.1 (show i.toNat < n by omega), List.getElem?_map, List.getElem?_eq_getElem hk, Option.map_some, hl]
                exact ⟨_, rfl, .ap _ _ _ _ _ _ hj⟩
            · cases h1
        · cases h
      · cases h
    · cases h
  · cases h
theorem Zy3 {t : Nat} {v w : TV x.X} {d : DV} {i : Int} {pr : PR (TV x.X)} (hd : v.dv x.U = some d) (h : ZsU x t v i = some pr) (hi : PR.Is True pr w) : ∃ e, ZaV x.C t d i = some e ∧ w.dv x.U = some e := by
  unfold ZsU at h
  split at h
  · cases hd
    cases hb : x.C.isStr t with
    | false => rw [hb] at h; cases h
    | true =>
      rw [hb] at h
      simp only [cond_true, Option.some.injEq] at h
      subst h
      obtain ⟨c, h1, rfl⟩ := hi
      obtain ⟨g1, g2, g3⟩ := Zqp (h1 trivial)
      simp only [ZaV, hb, cond_true, ZnT g1 g3, g2]
      exact ⟨_, rfl, rfl⟩
  · cases h
theorem ZtR {v w : TV x.X} {u : AV} {i : Nat} (hv : VRel x.U ρ v u) (h : Znt v i = some w) : ∃ y, Zam u i = some y ∧ VRel x.U ρ w y := by
  cases v <;> simp only [Znt] at h <;> (try (cases h; done))
  rename_i vs
  cases hv with
  | d v d hd =>
    simp only [TV.dv, Option.map_eq_some_iff] at hd
    obtain ⟨ds, h1, rfl⟩ := hd
    obtain ⟨e, h2, h3⟩ := Zi5 h1 i w h
    exact ⟨.d e, by simp only [Zam, h2, Option.map_some], .d _ _ h3⟩
  | tup vs as hl hh =>
    have hi : i < vs.length := (List.getElem?_eq_some_iff.1 h).1
    have hi' : i < as.length := by omega
    have h1 := hh i _ _ h (List.getElem?_eq_getElem hi')
    unfold ZbF
    cases had : ZcF as with
    | some ds =>
      have : as = ds.map .d := by
        clear hh h1 hi hi' hl
        unfold ZcF at had
        induction as generalizing ds with
        | nil => simp only [mapO, Option.some.injEq] at had; subst had; rfl
        | cons b as ih =>
          simp only [mapO] at had
          cases b <;> simp only [AV.toD] at had <;> (try (cases had; done))
          split at had
          · rename_i ys hys
            simp only [Option.some.injEq] at had
            subst had
            rw [ih ys hys]; rfl
          · cases had
      subst this
      have hi2 : i < ds.length := by simpa using hi'
      refine ⟨.d ds[i], by simp only [Zam, List.getElem?_eq_getElem hi2, Option.map_some], ?_⟩
      simpa using h1
    | none =>
      exact ⟨as[i], by simp only [Zam, List.getElem?_eq_getElem hi'], h1⟩
end
end Go.Tev
namespace Go.Tev
open Go.Abs
def ZaC (U : Uni) (call : Zaa) (f : FuncId) (c : TCall U.X) : Prop := ∀ vs a r ds h, Zvq U c.ak vs = some a → dvL U vs = some ds → c.fn a = some r → ZuN U c.rts = some h →
  ∃ d, (h r).dv U = some d ∧ Zcz call (!c.dir) f ds = some d
theorem ZgO {call : Zaa} {b : Bool} {f : FuncId} {ds : List DV} {d : DV} (h : Zcz call b f ds = some d) : Zcz call true f ds = some d := by
  cases b with
  | true => exact h
  | false =>
    unfold Zcz at h ⊢
    split at h
    · exact h
    · cases h
    · cases h
section
variable {x : Cx} {ρ : List Rf} {h0 : Base} {s : TSt x.X} {a : St}
theorem Zsn (ok : x.U.Ok x.C) {kt vt : Nat} {γ : Type} (hk : x.U.isKey kt = true) (key : x.X kt) (f : x.X vt → γ) (es : List (x.X kt × x.X vt)) :
    Zgb (x.U.enc kt key) (es.map fun p => (x.U.enc kt p.1, f p.2)) = some ((Zbu (x.U.keq kt) key es).map f) := by
  induction es with
  | nil => rfl
  | cons p es ih =>
    obtain ⟨k', v⟩ := p
    simp only [List.map_cons, Zgb, ok.keq kt key k' hk, Zbu]
    cases x.U.keq kt key k' with
    | true => rfl
    | false => simpa using ih
theorem mapZ {C : Abs.Ctx} {t kt vt : Nat} {z : DV} (h1 : Ctx.mapT C t = some (kt, vt)) (h2 : C.mapZero t = some z) : C.zero vt = some z := by
  unfold Ctx.mapT at h1
  unfold Abs.Ctx.mapZero at h2
  unfold Abs.Ctx.zero
  split at h1
  · rename_i k v he
    rw [he] at h2
    simp only [Option.some.injEq, Prod.mk.injEq] at h1
    obtain ⟨rfl, rfl⟩ := h1
    simp only at h2
    cases hi : C.P.info? v with
    | none => rw [hi] at h2; split at h2 <;> simp at h2
    | some i => rw [hi] at h2; split at h2 <;> simp at h2 <;> simp [h2]
  · cases h1
theorem YdW (d e : DV) : ZbF [.d d, .d e] = .d (.tup [d, e]) := rfl
theorem Zye (ok : x.U.Ok x.C) {vt : Nat} {inj : x.X vt → TV x.X} (hi : x.U.inj vt = some inj) {z : DV} (hz : x.C.zero vt = some z) (hd : x.U.dok vt = true) (r : Option (x.X vt)) (b : Bool) :
    VRel x.U ρ (bif b then .tup [inj (Zki (x.U.dflt vt) r), .b r.isSome] else inj (Zki (x.U.dflt vt) r))
      (match r.map fun y => AV.d (x.U.enc vt y) with
       | some v => bif b then ZbF [v, .d (.bool true)] else v
       | none => .d (bif b then .tup [z, .bool false] else z)) := by
  have h1 := fun y => ok.inj vt inj y hi
  have h2 := ok.dok vt hd
  rw [hz] at h2
  simp only [Option.some.injEq] at h2
  cases r with
  | none =>
    cases b
    · exact .d _ _ (by simp only [cond_false, Zki, h1, h2])
    · exact .d _ _ (by simp only [cond_true, Zki, TV.dv, dvL, h1, h2]; rfl)
  | some y =>
    cases b
    · exact .d _ _ (by simp only [cond_false, Zki, h1])
    · simp only [Option.map_some, cond_true, YdW]
      exact .d _ _ (by simp only [Zki, TV.dv, dvL, h1]; rfl)
theorem look_ok (ok : x.U.Ok x.C) (r : Rel x.U ρ h0 s a) {t : Nat} {v k w : TV x.X} {vw : AV} {d : DV} {b : Bool} (hv : VRel x.U ρ v vw) (hk : k.dv x.U = some d) (h : Zy4 x t s.heap v k b = some w) :
    ∃ y, ZbP x.C t a.heap vw d b = some y ∧ VRel x.U ρ w y := by
  unfold Zy4 at h
  split at h
  · rename_i kt vt z hm hz
    split at h
    · rename_i key inj hp hinj
      cases hb : (x.U.isKey kt && x.U.dok vt && x.C.keyOk t (x.U.enc kt key)) with
      | false => rw [hb] at h; cases h
      | true =>
        rw [hb] at h
        simp only [cond_true] at h
        simp only [Bool.and_eq_true] at hb
        obtain ⟨⟨hik, hdok⟩, hko⟩ := hb
        have hdk := ok.prj _ _ _ hp
        rw [hk] at hdk
        simp only [Option.some.injEq] at hdk
        subst hdk
        have hz' := mapZ hm hz
        unfold ZbP
        rw [hz]
        simp only [hko, cond_true]
        split at h
        · rename_i r1 hr
          simp only [Option.some.injEq] at h
          subst h
          have hres := Zye (ρ := ρ) ok hinj hz' hdok r1 b
          split at hr
          · simp only [Option.some.injEq] at hr
            subst hr
            rw [hv.isD rfl]
            exact ⟨_, rfl, hres⟩
          · rename_i kt' vt' es
            split at hr
            · rename_i es1 h1
              obtain ⟨he, h1⟩ := ZbY h1
              subst he
              simp only at h1
              subst h1
              split at hr
              · rename_i es2 h2
                obtain ⟨he, h2⟩ := ZbY h2
                subst he
                simp only at h2
                subst h2
                simp only [Option.some.injEq] at hr
                subst hr
                rw [hv.isD rfl]
                simp only [Zsn ok hik key (x.U.enc vt') es, Option.map_some]
                refine ⟨_, ?_, hres⟩
                cases Zbu (x.U.keq kt') key es <;> rfl
              · cases hr
            · cases hr
          · rename_i j
            split at hr
            · rename_i kt' vt' es hh
              split at hr
              · rename_i es1 h1
                obtain ⟨he, h1⟩ := ZbY h1
                subst he
                simp only at h1
                subst h1
                split at hr
                · rename_i es2 h2
                  obtain ⟨he, h2⟩ := ZbY h2
                  subst he
                  simp only at h2
                  subst h2
                  simp only [Option.some.injEq] at hr
                  subst hr
                  cases hv with
                  | d v d hd => simp [TV.dv] at hd
                  | mp _ i hj =>
                    obtain ⟨ao, h3, h4⟩ := Zgk r.heap hh hj
                    cases h4
                    simp only [h3, Zsn ok hik key (fun y => AV.d (x.U.enc vt' y)) es]
                    refine ⟨_, ?_, hres⟩
                    cases Zbu (x.U.keq kt') key es <;> rfl
                · cases hr
              · cases hr
            · cases hr
          · cases hr
        · cases h
    · cases h
  · cases h
theorem Zhw (ok : x.U.Ok x.C) {t : Nat} {c : Bool} {u v w : TV x.X} {uw vw : AV} {pr : PR (TV x.X)} (h1 : c = true → VRel x.U ρ u uw) (h2 : c = false → VRel x.U ρ v vw) (h : ZpQ x t c u v = some pr) (hi : PR.Is True pr w) :
    VRel x.U ρ w (bif c then uw else vw) := by
  have key : (c = true → ∀ z, VRel x.U ρ u z → VRel x.U ρ w z) ∧ (c = false → ∀ z, VRel x.U ρ v z → VRel x.U ρ w z) := by
    have same : ∀ {p q : TV x.X}, p.dv x.U = q.dv x.U → (q.dv x.U).isSome = true → ∀ z, VRel x.U ρ q z → VRel x.U ρ p z := by
      intro p q hpq hs z hz
      obtain ⟨d, hd⟩ := Option.isSome_iff_exists.1 hs
      rw [hz.isD hd]
      exact .d _ _ (by rw [hpq, hd])
    have refs : ∀ {j g e n g' e' n' : Nat}, g = g' → n = n' → ∀ z, VRel x.U ρ (.osl j g e n) z → VRel x.U ρ (.osl j g' e' n') z := by
      intro j g e n g' e' n' h1 h2 z hz
      subst h1 h2
      cases hz with
      | d v d hd => simp [TV.dv] at hd
      | osl _ i _ _ _ hj => exact .osl _ _ _ _ _ hj
    unfold ZpQ at h
    split at h <;> (try (cases h; done))
    · simp only [Option.some.injEq] at h; subst h; obtain ⟨b, hb, rfl⟩ := hi; have := hb trivial; simp only [Option.some.injEq] at this; subst this
      constructor <;> (rintro rfl; exact same rfl rfl)
    · rename_i k p k' q
      cases hk : decide (k = k') with
      | false => rw [hk] at h; cases h
      | true =>
        rw [hk] at h; have hk := of_decide_eq_true hk; subst hk
        simp only [cond_true, Option.some.injEq] at h; subst h; obtain ⟨b, hb, rfl⟩ := hi; have := hb trivial; simp only [Option.some.injEq] at this; subst this
        constructor <;> (rintro rfl; exact same rfl rfl)
    · simp only [Option.some.injEq] at h; subst h; obtain ⟨b, hb, rfl⟩ := hi; have := hb trivial; simp only [Option.some.injEq] at this; subst this
      constructor <;> (rintro rfl; exact same rfl rfl)
    · split at h
      · rename_i y hy
        obtain ⟨he, hy⟩ := ZbY hy
        subst he
        simp only at hy
        subst hy
        simp only [Option.some.injEq] at h; subst h; obtain ⟨b, hb, rfl⟩ := hi; have := hb trivial; simp only [Option.some.injEq] at this; subst this
        constructor <;> (rintro rfl; exact same rfl rfl)
      · cases h
    · split at h
      · rename_i y hy
        obtain ⟨he, hy⟩ := Zc7 hy
        subst he
        simp only at hy
        subst hy
        simp only [Option.some.injEq] at h; subst h; obtain ⟨b, hb, rfl⟩ := hi; have := hb trivial; simp only [Option.some.injEq] at this; subst this
        constructor <;> (rintro rfl; exact same rfl rfl)
      · cases h
    · simp only [Option.some.injEq] at h; subst h; obtain ⟨b, hb, rfl⟩ := hi; have := hb trivial; simp only [Option.some.injEq] at this; subst this
      constructor <;> (rintro rfl; exact same rfl rfl)
    · simp only [Option.some.injEq] at h; subst h; obtain ⟨b, hb, rfl⟩ := hi; have := hb trivial; simp only [Option.some.injEq] at this; subst this
      constructor <;> (rintro rfl; exact same rfl rfl)
    · simp only [Option.some.injEq] at h; subst h; simp only [PR.Is] at hi; subst hi; exact ⟨fun _ z h => h, fun _ z h => h⟩
    · simp only [Option.some.injEq] at h; subst h; simp only [PR.Is] at hi; subst hi; exact ⟨fun _ z h => h, fun _ z h => h⟩
    · simp only [Option.some.injEq] at h; subst h; simp only [PR.Is] at hi; subst hi; exact ⟨fun _ z h => h, fun _ z h => h⟩
    · rename_i j o j' o'
      cases hb : (Nat.beq j j' && Nat.beq o o') with
      | false => rw [hb] at h; cases h
      | true =>
        rw [hb] at h
        simp only [Bool.and_eq_true, Nat.beq_eq] at hb
        obtain ⟨rfl, rfl⟩ := hb
        simp only [cond_true, Option.some.injEq] at h; subst h; simp only [PR.Is] at hi; subst hi; exact ⟨fun _ z h => h, fun _ z h => h⟩
    · rename_i j j'
      cases hb : Nat.beq j j' with
      | false => rw [hb] at h; cases h
      | true =>
        rw [hb] at h
        rw [Nat.beq_eq] at hb
        subst hb
        simp only [cond_true, Option.some.injEq] at h; subst h; simp only [PR.Is] at hi; subst hi; exact ⟨fun _ z h => h, fun _ z h => h⟩
    · rename_i j g e n j' g' e' n'
      cases hb : (Nat.beq j j' && Nat.beq g g' && Nat.beq e e') with
      | false => rw [hb] at h; cases h
      | true =>
        rw [hb] at h
        simp only [Bool.and_eq_true, Nat.beq_eq] at hb
        obtain ⟨⟨rfl, rfl⟩, rfl⟩ := hb
        simp only [cond_true, Option.some.injEq] at h; subst h; obtain ⟨b, hb, rfl⟩ := hi; have := hb trivial; simp only [Option.some.injEq] at this; subst this
        constructor <;> (rintro rfl; exact refs rfl rfl)
  cases c with
  | true => exact key.1 rfl _ (h1 rfl)
  | false => exact key.2 rfl _ (h2 rfl)
theorem Zxi : ∀ {cs : List (TV x.X)}, cs.all Zw0 = true → ∃ ds, dvL x.U cs = some ds
  | [], _ => ⟨[], rfl⟩
  | c :: cs, h => by
    simp only [List.all_cons, Bool.and_eq_true] at h
    obtain ⟨ds, hd⟩ := Zxi h.2
    have : ∃ d, c.dv x.U = some d := by
      have h1 := h.1
      cases c <;> simp only [Zw0] at h1 <;> (try (cases h1; done)) <;> exact ⟨_, rfl⟩
    obtain ⟨d, h1⟩ := this
    exact ⟨d :: ds, Zb0 h1 hd⟩
theorem Yal (ok : x.U.Ok x.C) {v : TV x.X} (h : isD v = true) : ∃ d, v.dv x.U = some d ∧ d.cellOk = true := by
  cases v <;> simp only [isD] at h <;> (try (cases h; done)) <;> (try (exact ⟨_, rfl, rfl⟩))
  · exact ⟨_, rfl, ok.ok _ _⟩
  · obtain ⟨ds, hd⟩ := Zxi h
    exact ⟨.agg ds, by simp only [TV.dv, hd, Option.map_some], rfl⟩
  · rename_i f caps
    cases caps with
    | nil => exact ⟨_, rfl, rfl⟩
    | cons => simp [isD] at h
theorem ZlM (ok : x.U.Ok x.C) {v : TV x.X} {cs : List (TV x.X)} {d : DV} (hd : v.dv x.U = some d) (h : x.vcells v = some cs) : dvL x.U cs = some d.cells := by
  unfold Cx.vcells at h
  split at h
  · rename_i ty y
    split at h
    · rename_i f hf
      simp only [Option.some.injEq] at h
      subst h
      cases hd
      exact ok.cells _ _ _ hf
    · cases h
  · rename_i cs'
    simp only [Option.some.injEq] at h
    subst h
    simp only [TV.dv, Option.map_eq_some_iff] at hd
    obtain ⟨ds, h1, rfl⟩ := hd
    exact h1
  · cases h
  · simp only [Option.some.injEq] at h
    subst h
    rename_i n1 n2 n3
    have : d.cells = [d] := by
      cases v <;> simp only [TV.dv] at hd <;> (try (cases hd; done)) <;> (try (simp only [Option.some.injEq] at hd; subst hd; rfl)) <;> (try (exact absurd rfl (n1 _ _))) <;> (try (exact absurd rfl (n2 _))) <;> (try (exact absurd rfl (n3 _)))
      simp only [Option.map_eq_some_iff] at hd
      obtain ⟨ds, h1, rfl⟩ := hd
      rfl
    rw [this]
    exact Zb0 hd rfl
theorem Zgd (d : DV) : (AV.d d).cells = d.cells.map .d := by cases d <;> rfl
theorem Ycs (ok : x.U.Ok x.C) (r : Rel x.U ρ h0 s a) {t : Nat} {p y : TX x.X} {pw : XV} {pr : PR (Option (TX x.X))} (hp : XRel x.U ρ p pw) (h : loadT x t s p = some pr) (hi : PR.Is True pr (some y)) :
    ∃ w, ZaX x.C t a pw = some w ∧ XRel x.U ρ y (.a w) := by
  have fin : ∀ {cs : List (TV x.X)} {ds : List DV}, dvL x.U cs = some ds → ∀ off, (x.ld t (cs.drop off)).map TX.a = some y → ∃ d, ZaF x.C t (ds.drop off) = some d ∧ XRel x.U ρ y (.a (.d d)) := by
    intro cs ds hd off hl
    simp only [Option.map_eq_some_iff] at hl
    obtain ⟨v, h1, rfl⟩ := hl
    obtain ⟨d, h2, h3⟩ := ZyH ok (Zha hd off) h1
    exact ⟨d, h2, .a _ _ (.d _ _ h3)⟩
  cases hp with
  | a v w hv =>
    cases v <;> simp only [loadT] at h <;> (try (cases h; done))
    cases hv with
    | d v d hd => simp [TV.dv] at hd
    | ptr _ i _ hj =>
      split at h
      · rename_i cs hh
        simp only [Option.some.injEq] at h
        subst h
        simp only [PR.Is] at hi
        obtain ⟨ao, h3, h4⟩ := Zgk r.heap hh hj
        cases h4 with
        | var cs as hvr =>
          have hi := hi.symm
          simp only [Option.map_eq_some_iff] at hi
          obtain ⟨v, h1, rfl⟩ := hi
          obtain ⟨w, h5, h6⟩ := Yax ok (hvr.drop _) h1
          exact ⟨w, by simp only [ZaX, h3, h5], .a _ _ h6⟩
      · cases h
  | sp k off =>
    simp only [loadT] at h
    split at h
    · rename_i cs hb
      simp only [Option.some.injEq] at h
      subst h
      simp only [PR.Is] at hi
      obtain ⟨w, h1, h2⟩ := r.env _ _ hb
      cases h2 with
      | box cs ds hd =>
        obtain ⟨d, h3, h4⟩ := fin hd off hi.symm
        exact ⟨.d d, by simp only [ZaX, h1, h3, Option.map_some], h4⟩
    · cases h
  | fp cs ds hd =>
    simp only [loadT, Option.some.injEq] at h
    subst h
    simp only [PR.Is] at hi
    obtain ⟨d, h3, h4⟩ := fin hd 0 (by simpa using hi.symm)
    exact ⟨.d d, by simp only [ZaX, List.drop_zero] at h3 ⊢; simp only [h3, Option.map_some], h4⟩
  | ap j i g e n off hj =>
    simp only [loadT] at h
    split at h
    · rename_i g' ap e' xs hh
      cases hg : Nat.beq g' g with
      | false => rw [hg] at h; cases h
      | true =>
        rw [hg] at h
        simp only [cond_true] at h
        split at h
        · rename_i ys f hc hf
          obtain ⟨he, hc⟩ := Zc7 hc
          subst he
          simp only at hc
          subst hc
          simp only [Option.some.injEq] at h
          subst h
          obtain ⟨z, h1, h2⟩ := hi
          have h1 := h1 trivial
          have h2 := h2.symm
          simp only [Option.map_eq_some_iff] at h2
          obtain ⟨v, h5, rfl⟩ := h2
          obtain ⟨ao, h3, h4⟩ := Zgk r.heap hh hj
          cases h4
          obtain ⟨w, h6, h7⟩ := Yax (ρ := ρ) ok ((VRels.of_dvL (ok.cells _ _ z hf)).drop off) h5
          have hge := Nat.eq_of_beq_eq_true hg
          subst hge
          exact ⟨w, by simp only [ZaX, Zel, h3, Nat.beq_refl, cond_true, List.getElem?_map, h1, Option.map_some, Zgd, h6], .a _ _ h7⟩
        · cases h
    · cases h
  | own => simp [loadT] at h
  | al => simp [loadT] at h
  | un => simp [loadT] at h
end
end Go.Tev
namespace Go.Tev
open Go.Abs
section
variable {x : Cx} {ρ : List Rf} {h0 : Base} {s : TSt x.X} {a : St}
theorem Zsj (ok : x.U.Ok x.C) (r : Rel x.U ρ h0 s a) {ch : Zb6} (hh : holds s ch) {f : Nat → Option (Nat × Nat)} : ∀ {ps : List (Nat × Operand)} {l : List (Nat × List (TV x.X))} {cells cs : List (TV x.X)} {ds : List DV},
    ZfA x s ch ps = some l → Zvj f cells l = some cs → dvL x.U cells = some ds → ∃ vs ds', ZaE a ps = some vs ∧ Zca f ds vs = some ds' ∧ dvL x.U cs = some ds'
  | [], l, cells, cs, ds, h1, h2, h3 => by
    simp only [ZfA, Option.some.injEq] at h1
    subst h1
    simp only [Zvj, Option.some.injEq] at h2
    subst h2
    exact ⟨[], ds, rfl, rfl, h3⟩
  | (i, o) :: ps, l, cells, cs, ds, h1, h2, h3 => by
    simp only [ZfA] at h1
    split at h1
    · rename_i v hv
      cases hd : isD v with
      | false => rw [hd] at h1; cases h1
      | true =>
        rw [hd] at h1
        simp only [cond_true] at h1
        split at h1
        · rename_i vs hvs
          split at h1
          · rename_i l' hl
            simp only [Option.some.injEq] at h1
            subst h1
            obtain ⟨d, hd1, hd2⟩ := Yal ok hd
            have hc := ZlM ok hd1 hvs
            simp only [Zvj] at h2
            split at h2
            · rename_i off size hf
              cases hb : Nat.beq vs.length size with
              | false => rw [hb] at h2; cases h2
              | true =>
                rw [hb] at h2
                simp only [cond_true] at h2
                split at h2
                · rename_i c hsp
                  obtain ⟨ds1, h4, h5⟩ := ZmT h3 hc hsp
                  obtain ⟨ws, ds', h6, h7, h8⟩ := Zsj ok r hh hl h2 h5
                  obtain ⟨_, h9, _⟩ := Zcw r hh hv hd1
                  refine ⟨(i, d) :: ws, ds', by simp only [ZaE, h9, h6], ?_, h8⟩
                  rw [Zb5 hc] at hb
                  simp only [Zca, hf, hb, hd2, Bool.and_self, cond_true, h4, h7]
                · cases h2
            · cases h2
          · cases h1
        · cases h1
    · cases h1
theorem Zr9 (ok : x.U.Ok x.C) (r : Rel x.U ρ h0 s a) {ch : Zb6} (hh : holds s ch) {e sz : Nat} (hc : x.U.csz e = some sz) : ∀ {ps : List (Nat × Operand)} {k : Nat} {ys : List (x.X e)},
    Zp9 x e k ps s ch = some ys → ∃ vs, ZaE a ps = some vs ∧ ZaP sz k vs = some (ys.map (x.U.enc e))
  | [], k, ys, h => by
    simp only [Zp9, Option.some.injEq] at h
    subst h
    exact ⟨[], rfl, rfl⟩
  | (i, o) :: ps, k, ys, h => by
    simp only [Zp9] at h
    cases hb : Nat.beq i k with
    | false => rw [hb] at h; cases h
    | true =>
      rw [hb] at h
      simp only [cond_true] at h
      split at h
      · rename_i v hv
        split at h
        · rename_i y hy
          split at h
          · rename_i ys' hys
            simp only [Option.some.injEq] at h
            subst h
            have hd := ok.prj _ _ _ hy
            obtain ⟨_, h1, _⟩ := Zcw r hh hv hd
            obtain ⟨vs, h2, h3⟩ := Zr9 ok r hh hc hys
            have hl : Nat.beq (x.U.enc e y).cells.length sz = true := by rw [Nat.beq_eq]; exact ok.csz _ _ _ hc
            exact ⟨(i, x.U.enc e y) :: vs, by simp only [ZaE, h1, h2], by simp only [ZaP, hb, hl, ok.ok, Bool.and_self, cond_true, h3, List.map_cons]⟩
          · cases h
        · cases h
      · cases h
theorem Zos {U : Uni} {e sz : Nat} (h : Zmr U e sz = true) : U.csz e = some sz := by
  unfold Zmr at h
  split at h
  · rename_i n hn; rw [hn, Nat.eq_of_beq_eq_true h]
  · cases h
theorem Ziv (ok : x.U.Ok x.C) (r : Rel x.U ρ h0 s a) {ch : Zb6} (hh : holds s ch) {t n : Nat} {ps : List (Nat × Operand)} {e : Nat} {ys : List (x.X e)} (h : ZfZ x t n s ch ps = some ⟨e, ys⟩) :
    Zae x.C t n a ps = some (ys.map (x.U.enc e)) := by
  unfold ZfZ at h
  split at h
  · rename_i e' sz he hsz
    split at h
    · rename_i zs hz
      cases hb : (Zmr x.U e' sz && Nat.beq zs.length n && Nat.ble (n * sz) (2 ^ 24) && Nat.blt 0 (n * sz) && x.C.hasZero t) with
      | false => rw [hb] at h; cases h
      | true =>
        rw [hb] at h
        simp only [cond_true, Option.some.injEq, Sigma.mk.injEq] at h
        obtain ⟨rfl, h⟩ := h
        simp only [heq_eq_eq] at h
        subst h
        simp only [Bool.and_eq_true] at hb
        obtain ⟨⟨⟨⟨b1, b2⟩, b3⟩, b4⟩, b5⟩ := hb
        obtain ⟨vs, h2, h3⟩ := Zr9 ok r hh (Zos b1) hz
        simp only [Zae, hsz, h2, h3, List.length_map, b2, b3, b4, b5, Bool.and_self, cond_true]
    · cases h
  · cases h
theorem Zlb (U : Uni) (v : TV U.X) (vs : List (TV U.X)) : Zjj U [] (v :: vs) = none := rfl
theorem Znk (U : Uni) (t : Nat) (v : TV U.X) : Zjj U [t] [v] = U.prj t v := rfl
theorem ZlQ (U : Uni) (t : Nat) : Zjj U [t] [] = none := rfl
theorem ZlL (U : Uni) (t : Nat) (v w : TV U.X) (vs : List (TV U.X)) : Zjj U [t] (v :: w :: vs) = none := rfl
theorem Zl4 (U : Uni) (t u : Nat) (r : List Nat) : Zjj U (t :: u :: r) [] = none := rfl
theorem Znv (U : Uni) (t u : Nat) (r : List Nat) (v : TV U.X) (vs : List (TV U.X)) : Zjj U (t :: u :: r) (v :: vs) = match U.prj t v with
    | some y => match Zjj U (u :: r) vs with
      | some ys => some (y, ys)
      | none => none
    | none => none := rfl
theorem Zfe {U : Uni} {v : TV U.X} {d : DV} (h : v.dv U = some d) : dvL U [v] = some [d] := by simp only [dvL, h]
theorem Zjq (ok : x.U.Ok x.C) (ts : List Nat) : ∀ (vs : List (TV x.X)) (y : PX x.X ts), Zjj x.U ts vs = some y → ∃ ds, dvL x.U vs = some ds := by
  induction ts with
  | nil =>
    intro vs y h
    cases vs with
    | nil => exact ⟨[], by simp only [dvL]⟩
    | cons v vs => rw [Zlb] at h; cases h
  | cons t r ih =>
    intro vs y h
    cases r with
    | nil =>
      cases vs with
      | nil => rw [ZlQ] at h; cases h
      | cons v vs =>
        cases vs with
        | nil =>
          rw [Znk] at h
          exact ⟨_, Zfe (ok.prj t v y h)⟩
        | cons => rw [ZlL] at h; cases h
    | cons u r =>
      cases vs with
      | nil => rw [Zl4] at h; cases h
      | cons v vs =>
        rw [Znv] at h
        cases hz : x.U.prj t v with
        | none => rw [hz] at h; cases h
        | some z =>
          rw [hz] at h
          cases hzs : Zjj x.U (u :: r) vs with
          | none => rw [hzs] at h; cases h
          | some zs =>
            obtain ⟨ds, hd⟩ := ih vs zs hzs
            exact ⟨_, Zb0 (ok.prj t v z hz) hd⟩
theorem ZxH (ak : List AK) : ∀ (vs ws : List (TV x.X)), ZeG ak vs = some ws → (∃ ds, dvL x.U ws = some ds) → ∃ ds, dvL x.U vs = some ds := by
  induction ak with
  | nil =>
    intro vs ws h _
    cases vs with
    | nil => exact ⟨[], rfl⟩
    | cons => simp [ZeG] at h
  | cons k r ih =>
    intro vs ws h hd
    cases vs with
    | nil => cases k <;> simp [ZeG] at h
    | cons v vs =>
      cases k with
      | ty t =>
        simp only [ZeG] at h
        cases hw : ZeG r vs with
        | none => rw [hw] at h; cases h
        | some ws' =>
          rw [hw] at h
          simp only [Option.some.injEq] at h
          subst h
          obtain ⟨ds, hd⟩ := hd
          obtain ⟨d, ds', h1, h2, rfl⟩ := ZcS hd
          obtain ⟨es, h3⟩ := ih vs ws' hw ⟨ds', h2⟩
          exact ⟨_, Zb0 h1 h3⟩
      | fn f =>
        cases v with
        | fn f' caps =>
          cases caps with
          | cons => simp [ZeG] at h
          | nil =>
            simp only [ZeG] at h
            cases hb : Nat.beq f f' with
            | false => rw [hb] at h; cases h
            | true =>
              rw [hb] at h
              obtain ⟨es, h3⟩ := ih vs ws h hd
              exact ⟨_, Zb0 (d := .fn f' []) rfl h3⟩
        | _ => simp [ZeG] at h
theorem Zvl (ok : x.U.Ok x.C) {ak : List AK} {vs : List (TV x.X)} {y : PX x.X (AK.tys ak)} (h : Zvq x.U ak vs = some y) : ∃ ds, dvL x.U vs = some ds := by
  unfold Zvq at h
  split at h
  · rename_i ws hw
    exact ZxH _ _ _ hw (Zjq ok _ _ _ h)
  · cases h
theorem ZnF (ok : x.U.Ok x.C) {call : Zaa} {f : Nat} {vs : List (TV x.X)} {pr : PR (TV x.X)} {w : TV x.X} : ∀ {T : List (Nat × TCall x.X)}, (∀ p ∈ T, ZaC x.U call p.1 p.2) → Zuw x f vs T = some pr → PR.Is True pr w →
    ∃ ds d, dvL x.U vs = some ds ∧ w.dv x.U = some d ∧ Zcz call true f ds = some d
  | [], _, h, _ => by simp [Zuw] at h
  | (f', c) :: T, hT, h, hi => by
    simp only [Zuw] at h
    cases hb : Nat.beq f f' with
    | false => rw [hb] at h; exact ZnF ok (fun p hp => hT p (List.mem_cons_of_mem _ hp)) h hi
    | true =>
      rw [hb] at h
      rw [Nat.beq_eq] at hb
      subst hb
      simp only [cond_true] at h
      split at h
      · rename_i y hy
        split at h
        · rename_i g hg
          simp only [Option.some.injEq] at h
          subst h
          obtain ⟨z, h1, rfl⟩ := hi
          obtain ⟨ds, hd⟩ := Zvl ok hy
          obtain ⟨d, h2, h3⟩ := hT _ (List.mem_cons_self) vs y z ds g hy hd (h1 trivial) hg
          exact ⟨ds, d, hd, h2, ZgO h3⟩
        · cases h
      · exact ZnF ok (fun p hp => hT p (List.mem_cons_of_mem _ hp)) h hi
theorem ZtN (ok : x.U.Ok x.C) (ts : List Nat) : ∀ (g : PX x.X ts → List (TV x.X)) (y : PX x.X ts), Zgh x.U ts = some g → ts.all x.U.noMap = true → ∃ ds, dvL x.U (g y) = some ds ∧ DV.noMapL ds = true := by
  induction ts with
  | nil => intro g y h _; simp only [Zgh, Option.some.injEq] at h; subst h; exact ⟨[], rfl, rfl⟩
  | cons t r ih =>
    intro g y h hn
    rw [List.all_cons, Bool.and_eq_true] at hn
    cases r with
    | nil =>
      simp only [Zgh] at h
      cases hf : x.U.inj t with
      | none => rw [hf] at h; cases h
      | some f =>
        rw [hf] at h
        simp only [Option.some.injEq] at h
        subst h
        have h1 := ok.inj t f y hf
        exact ⟨_, Zb0 h1 rfl, by simp only [DV.noMapL]; rw [ok.noMap t y hn.1]; rfl⟩
    | cons u r =>
      simp only [Zgh] at h
      cases hf : x.U.inj t with
      | none => rw [hf] at h; cases h
      | some f =>
        rw [hf] at h
        cases hg : Zgh x.U (u :: r) with
        | none => rw [hg] at h; cases h
        | some g' =>
          rw [hg] at h
          simp only [Option.some.injEq] at h
          subst h
          obtain ⟨ds, h1, h2⟩ := ih g' y.2 hg hn.2
          exact ⟨_, Zb0 (ok.inj t f y.1 hf) h1, by simp only [DV.noMapL, h2]; rw [ok.noMap t y.1 hn.1]; rfl⟩
theorem Zuu (ok : x.U.Ok x.C) {ts : List Nat} {g : PX x.X ts → TV x.X} {y : PX x.X ts} {d : DV} (h : ZuN x.U ts = some g) (hn : ts.all x.U.noMap = true) (hd : (g y).dv x.U = some d) : d.noMap = true := by
  cases ts with
  | nil =>
    simp only [ZuN, Option.some.injEq] at h
    subst h
    cases hd
    rfl
  | cons t r =>
    cases r with
    | nil =>
      have h : x.U.inj t = some g := h
      have h1 := ok.inj t g y h
      rw [h1] at hd
      simp only [Option.some.injEq] at hd
      subst hd
      simp only [List.all_cons, List.all_nil, Bool.and_true] at hn
      exact ok.noMap t y hn
    | cons u r =>
      simp only [ZuN] at h
      cases hf : Zgh x.U (t :: u :: r) with
      | none => rw [hf] at h; cases h
      | some f =>
        rw [hf] at h
        simp only [Option.some.injEq] at h
        subst h
        obtain ⟨ds, h1, h2⟩ := ZtN ok _ f y hf hn
        simp only [TV.dv, h1, Option.map_some, Option.some.injEq] at hd
        subst hd
        exact h2
theorem Zh0 (ok : x.U.Ok x.C) {call : Zaa} {f k : Nat} {vs : List (TV x.X)} {pr : PR (TV x.X)} {w : TV x.X} : ∀ {T : List (Nat × TCall x.X)}, (∀ p ∈ T, ZaC x.U call p.1 p.2) → Zg4 x f k vs T = some pr → PR.Is True pr w →
    ∃ ds d, dvL x.U vs = some ds ∧ w.dv x.U = some d ∧ Zcz call false f ds = some d ∧ Zp0 k d = true
  | [], _, h, _ => by simp [Zg4] at h
  | (f', c) :: T, hT, h, hi => by
    simp only [Zg4] at h
    cases hb : Nat.beq f f' with
    | false => rw [hb] at h; exact Zh0 ok (fun p hp => hT p (List.mem_cons_of_mem _ hp)) h hi
    | true =>
      rw [hb] at h
      rw [Nat.beq_eq] at hb
      subst hb
      simp only [cond_true] at h
      split at h
      · rename_i y hy
        split at h
        · rename_i g hg
          cases hl : (c.dir && Zws x k c.rts) with
          | false => rw [hl] at h; cases h
          | true =>
            rw [hl] at h
            simp only [Bool.and_eq_true] at hl
            obtain ⟨hdir, hl⟩ := hl
            simp only [cond_true, Option.some.injEq] at h
            subst h
            obtain ⟨z, h1, rfl⟩ := hi
            obtain ⟨ds, hd⟩ := Zvl ok hy
            obtain ⟨d, h2, h3⟩ := hT _ (List.mem_cons_self) vs y z ds g hy hd (h1 trivial) hg
            refine ⟨ds, d, hd, h2, by simpa [hdir] using h3, ?_⟩
            match k, hl with
            | 0, _ => rfl
            | 1, hl => exact Zuu ok hg hl h2
            | k + 2, hl => simp [Zws] at hl
        · cases h
      · exact Zh0 ok (fun p hp => hT p (List.mem_cons_of_mem _ hp)) h hi
theorem Ybk {fv : TV x.X} {f : Nat} {caps : List (TV x.X)} {w : AV} (hv : VRel x.U ρ fv w) (h : Ya3 fv = some (f, caps)) : ∃ as, ZeB w = some (f, as) ∧ VRels x.U ρ caps as := by
  cases fv <;> simp only [Ya3] at h <;> (try (cases h; done))
  simp only [Option.some.injEq, Prod.mk.injEq] at h
  obtain ⟨rfl, rfl⟩ := h
  cases hv with
  | d v d hd =>
    simp only [TV.dv, Option.map_eq_some_iff] at hd
    obtain ⟨ds, h1, rfl⟩ := hd
    exact ⟨_, rfl, VRels.of_dvL h1⟩
  | fn _ _ as hl hh =>
    refine ⟨as, ?_, hl, hh⟩
    unfold ZuO
    cases had : ZcF as with
    | none => rfl
    | some ds =>
      have : as = ds.map .d := by
        clear hh hl
        unfold ZcF at had
        induction as generalizing ds with
        | nil => simp only [mapO, Option.some.injEq] at had; subst had; rfl
        | cons b as ih =>
          simp only [mapO] at had
          cases b <;> simp only [AV.toD] at had <;> (try (cases had; done))
          split at had
          · rename_i ys hys
            simp only [Option.some.injEq] at had
            subst had
            rw [ih ys hys]; rfl
          · cases had
      subst this
      rfl
theorem Zwr (r : Rel x.U ρ h0 s a) : ∀ {vs ws : List (TV x.X)} {as : List AV} {k : Nat} {ds : List DV}, VRels x.U ρ vs as → ZwF x s.heap vs = some (ws, k) → dvL x.U ws = some ds → ZdZ a.heap as = some (ds, k)
  | [], ws, as, k, ds, hv, h, hd => by
    simp only [ZwF, Option.some.injEq, Prod.mk.injEq] at h
    obtain ⟨rfl, rfl⟩ := h
    rw [ZgT hd]
    cases as with
    | nil => rfl
    | cons => have := hv.1; simp at this
  | v :: vs, ws, as, k, ds, hv, h, hd => by
    simp only [ZwF] at h
    split at h
    · rename_i y m hy
      split at h
      · rename_i ys n hys
        simp only [Option.some.injEq, Prod.mk.injEq] at h
        obtain ⟨rfl, rfl⟩ := h
        obtain ⟨d, ds', h1, h2, rfl⟩ := ZcS hd
        cases as with
        | nil => have := hv.1; simp at this
        | cons b as =>
          have hb := hv.2 0 v b rfl rfl
          have hr : VRels x.U ρ vs as := ⟨by simpa using hv.1, fun k v a h1 h2 => hv.2 (k + 1) v a (by simpa using h1) (by simpa using h2)⟩
          have ih := Zwr r hr hys h2
          have : ZqH a.heap b = some (d, m) := by
            unfold YdO at hy
            split at hy <;> (try (cases hy; done))
            · rename_i j
              split at hy
              · rename_i kt vt es hh
                simp only [Option.some.injEq, Prod.mk.injEq] at hy
                obtain ⟨rfl, rfl⟩ := hy
                cases hb with
                | d v d hd => simp [TV.dv] at hd
                | mp _ i hj =>
                  obtain ⟨ao, h3, h4⟩ := Zgk r.heap hh hj
                  cases h4
                  cases h1
                  have : mapO (fun e => e.2.toD.map fun v => (e.1, v)) (es.map fun p => (x.U.enc kt p.1, AV.d (x.U.enc vt p.2))) = some (es.map fun p => (x.U.enc kt p.1, x.U.enc vt p.2)) := by
                    clear h3 hh hd
                    induction es with
                    | nil => rfl
                    | cons p es ih => simp only [List.map_cons, mapO, AV.toD, Option.map_some] at ih ⊢; rw [ih]
                  simp only [ZqH, h3, this, Option.map_some]
              · cases hy
            · simp only [Option.some.injEq, Prod.mk.injEq] at hy
              obtain ⟨rfl, rfl⟩ := hy
              rw [hb.isD h1]
              rfl
          simp only [ZdZ, this, ih]
      · cases h
    · cases h
end
end Go.Tev
namespace Go.Tev
open Go.Abs
section
variable {x : Cx} {ρ : List Rf} {h0 : Base} {s : TSt x.X} {a : St}
theorem Zit {X : Nat → Type} {q : Option (PR (TV X))} {pr : PR (Option (TX X))} {y : TX X} (h : prV q = some pr) (hi : PR.Is True pr (some y)) : ∃ r v, q = some r ∧ PR.Is True r v ∧ y = .a v := by
  cases q with
  | none => cases h
  | some r =>
    simp only [prV, Option.some.injEq] at h
    subst h
    obtain ⟨v, h1, h2⟩ := PR.Is_map.1 hi
    simp only [Option.some.injEq] at h2
    exact ⟨r, v, rfl, h1, h2⟩
theorem ZsQ {X : Nat → Type} {q : Option (TX X)} {pr : PR (Option (TX X))} {y : TX X} (h : prO q = some pr) (hi : PR.Is True pr (some y)) : q = some y := by
  cases q with
  | none => cases h
  | some r =>
    simp only [prO, Option.some.injEq] at h
    subst h
    exact hi.symm
theorem Zvm {X : Nat → Type} {q : Option (TV X)} {pr : PR (Option (TX X))} {y : TX X} (h : prA q = some pr) (hi : PR.Is True pr (some y)) : ∃ v, q = some v ∧ y = .a v := by
  cases q with
  | none => cases h
  | some r =>
    simp only [prA, Option.some.injEq] at h
    subst h
    simp only [PR.Is, Option.some.injEq] at hi
    exact ⟨r, rfl, hi⟩
theorem Zs1 {o : Operand} {w : AV} (h : opA a o = some w) : opd a o = some (.a w) := by
  unfold opA at h
  split at h
  · rename_i v' h4
    simp only [Option.some.injEq] at h
    rw [h4, h]
  · cases h
theorem ZoA : ∀ {os : List Operand} {ds : List DV}, ZaL a os = some (ds.map .d) → mapO (opD a) os = some ds
  | [], ds, h => by
    simp only [ZaL, Option.some.injEq] at h
    cases ds with
    | nil => rfl
    | cons => simp at h
  | o :: os, ds, h => by
    simp only [ZaL] at h
    cases h1 : opA a o with
    | none => rw [h1] at h; cases h
    | some v =>
      rw [h1] at h
      simp only at h
      cases h2 : ZaL a os with
      | none => rw [h2] at h; cases h
      | some vs =>
        rw [h2] at h
        simp only [Option.some.injEq] at h
        cases ds with
        | nil => simp at h
        | cons d ds =>
          simp only [List.map_cons, List.cons.injEq] at h
          obtain ⟨rfl, rfl⟩ := h
          simp only [mapO, ZoA h2, opD, Zs1 h1]
theorem Zp3 {X : Nat → Type} {s : TSt X} {ch : Zb6} (hh : holds s ch) {c : Operand} {cb : Bool} (w : Bool) (h : Zfd s ch c = some (.b cb)) (hw : cb = w) (hk : ZzW s c = true) : holds s (Yeg w c ch) := by
  cases c with
  | tmp t =>
    intro p hp
    rcases List.mem_cons.1 hp with rfl | hp
    · simp only [ZzW] at hk ⊢
      cases ht : Zab s.tmp t with
      | none => rw [ht] at hk; cases hk
      | some e =>
        refine ⟨e.g, ?_⟩
        simp only [Zfd, ZuQ, ZxE, ht] at h
        cases hs : YaH e.g ch with
        | false => rw [hs] at h; simp at h
        | true =>
          rw [hs] at h
          simp only [cond_true] at h
          obtain ⟨g, y⟩ := e
          cases y <;> simp only [TX.copy, TX.flat, Option.some.injEq] at h <;> (try (cases h; done))
          subst h
          subst hw
          rfl
    · exact hh p hp
  | _ => exact hh
theorem Ybp (ok : x.U.Ok x.C) {call : Zaa} (hT : ∀ p ∈ x.T, ZaC x.U call p.1 p.2) (r : Rel x.U ρ h0 s a) {fa : FA} {ch : Zb6} (hh : holds s ch) {o : Oper} {pr : PR (Option (TX x.X))} {y : TX x.X}
    (h : Zkn x fa s ch o = some pr) (hi : PR.Is True pr (some y)) : ∃ z, ZaQ x.C call fa o a = some z ∧ XRel x.U ρ y z := by
  obtain ⟨dst, op, ty, pos, after, guard⟩ := o
  cases op with
  | move v =>
    simp only [Zkn] at h
    simp only [ZaQ]
    cases ht : Zbn fa dst with
    | true => rw [ht] at h; cases h
    | false =>
      rw [ht] at h
      simp only [cond_false] at h ⊢
      split at h
      · rename_i y' hy
        obtain ⟨z, h1, h2⟩ := Zq8 r hh hy
        exact ⟨z, h1, ZjG ok h2 (ZsQ h hi)⟩
      · cases h
  | assign v =>
    simp only [Zkn] at h
    simp only [ZaQ]
    cases ht : Zbn fa dst with
    | true => rw [ht] at h; cases h
    | false =>
      rw [ht] at h
      simp only [cond_false] at h ⊢
      split at h
      · rename_i y' hy
        obtain ⟨z, h1, h2⟩ := Zq8 r hh hy
        exact ⟨z, h1, ZjG ok h2 (ZsQ h hi)⟩
      · cases h
  | pick c p q =>
    simp only [Zkn] at h
    simp only [ZaQ]
    cases hin : ZzW s c with
    | false => rw [hin] at h; cases h
    | true =>
      rw [hin] at h
      simp only [cond_true] at h
      split at h
      · rename_i cb va vb hc hp hq
        obtain ⟨q1, v, h1, h2, rfl⟩ := Zit h hi
        obtain ⟨_, hcd, _⟩ := Zcw r hh hc (d := .bool cb) rfl
        rw [hcd]
        cases cb with
        | true =>
          obtain ⟨w, h3, h4⟩ := Zcq r (Zp3 hh true hc rfl hin) hp
          refine ⟨.a w, by simpa using Zs1 h3, .a _ _ ?_⟩
          exact Zhw ok (uw := w) (vw := w) (fun _ => h4) (fun h => by cases h) h1 h2
        | false =>
          obtain ⟨w, h3, h4⟩ := Zcq r (Zp3 hh false hc rfl hin) hq
          refine ⟨.a w, by simpa using Zs1 h3, .a _ _ ?_⟩
          exact Zhw ok (uw := w) (vw := w) (fun h => by cases h) (fun _ => h4) h1 h2
      · cases h
  | build t ps =>
    simp only [Zkn] at h
    simp only [ZaQ]
    split at h
    · rename_i z f hz hf hag
      split at h
      · rename_i l hl
        split at h
        · rename_i cs hcs
          split at h
          · rename_i w hw
            simp only [Option.some.injEq] at h
            subst h
            simp only [PR.Is, Option.some.injEq] at hi
            subst hi
            obtain ⟨z0, k1, k2, k3, k4⟩ := ok.zcells _ _ hz
            have k4 := k4 hag
            obtain ⟨vs, ds', k5, k6, k7⟩ := Zsj ok r hh hl hcs k2
            have k8 := ZvF ok hw k7
            refine ⟨.a (.d (.agg ds')), ?_, .a _ _ (.d _ _ (by simp only [TV.dv, k8]))⟩
            rw [k4] at k1
            simp only [ZaT, k1, hf, k5, k6, oD]
          · cases h
        · cases h
      · cases h
    · cases h
  | buildSlice t n ps =>
    simp only [Zkn] at h
    simp only [ZaQ]
    cases ht : Zbn fa dst with
    | true => rw [ht] at h; cases h
    | false =>
      rw [ht] at h
      simp only [cond_false] at h ⊢
      split at h
      · rename_i e ys hb
        simp only [Option.some.injEq] at h
        subst h
        simp only [PR.Is, Option.some.injEq] at hi
        subst hi
        rw [Ziv ok r hh hb]
        exact ⟨_, rfl, .a _ _ (.d _ _ rfl)⟩
      · split at h
        · have hps : ps.toList = [] := by assumption
          obtain ⟨sz, hz⟩ : ∃ sz, x.C.elemSize t = some sz := ⟨_, by assumption⟩
          simp only [Option.some.injEq] at h
          subst h
          simp only [PR.Is, Option.some.injEq] at hi
          subst hi
          have hb : ∀ l, Zae x.C t 0 a l = none := fun l => by
            unfold Zae
            rw [hz]
            simp only [Nat.zero_mul]
            repeat' (split <;> try rfl)
            simp [show Nat.blt 0 0 = false from rfl]
          simp only [hb, hz, hps]
          exact ⟨_, rfl, .own _ []⟩
        · cases h
  | load t p =>
    simp only [Zkn] at h
    simp only [ZaQ]
    split at h
    · rename_i q hq
      obtain ⟨z, h1, h2⟩ := ZgV r hh hq
      obtain ⟨w, h3, h4⟩ := Ycs ok r h2 h hi
      exact ⟨.a w, by simp only [h1, h3, oA], h4⟩
    · cases h
  | nilCheck v =>
    simp only [Zkn] at h
    simp only [ZaQ]
    split at h
    · rename_i q hq
      obtain ⟨z, h1, h2⟩ := ZgV r hh hq
      obtain ⟨w, h3, h4⟩ := Zyx h2 (ZsQ h hi)
      exact ⟨w, by simp only [h1, h3], h4⟩
    · cases h
  | binOp op t p q t' =>
    simp only [Zkn] at h
    simp only [ZaQ]
    split at h
    · rename_i u v hu hv
      obtain ⟨r1, w, h1, h2, rfl⟩ := Zit h hi
      obtain ⟨uw, h3, h4⟩ := Zcq r hh hu
      obtain ⟨vw, h5, h6⟩ := Zcq r hh hv
      obtain ⟨d, h7, h8⟩ := Yc5 ok h4 h6 h1 h2
      exact ⟨.a (.d d), by simp only [h3, h5, h7, oD], .a _ _ (.d _ _ h8)⟩
    · cases h
  | unOp op t p =>
    simp only [Zkn] at h
    simp only [ZaQ]
    split at h
    · rename_i u hu
      obtain ⟨r1, w, h1, h2, rfl⟩ := Zit h hi
      obtain ⟨uw, h3, h4⟩ := Zcq r hh hu
      obtain ⟨e, d, rfl, h7, h8⟩ := Ye1 h4 h1 h2
      have : opD a p = some e := by simp only [opD, Zs1 h3]
      exact ⟨.a (.d d), by simp only [this, h7, oD], .a _ _ (.d _ _ h8)⟩
    · cases h
  | convert s' t p =>
    simp only [Zkn] at h
    simp only [ZaQ]
    split at h
    · rename_i u hu
      obtain ⟨r1, w, h1, h2, rfl⟩ := Zit h hi
      obtain ⟨uw, h3, h4⟩ := Zcq r hh hu
      obtain ⟨d, h7, h8⟩ := YaO ok r h4 h1 h2
      exact ⟨.a (.d d), by simp only [h3, h7, oD], .a _ _ (.d _ _ h8)⟩
    · cases h
  | makeFunc fn first captured =>
    cases fn <;> simp only [Zkn] at h <;> (try (cases h; done))
    simp only [ZaQ]
    split at h
    · rename_i vs hf hv
      simp only [Option.some.injEq] at h
      subst h
      simp only [PR.Is, Option.some.injEq] at hi
      subst hi
      obtain ⟨ws, h1, h2⟩ := Zi4 r hh hv
      exact ⟨_, by simp only [hf, h1], .a _ _ (.fn _ _ _ h2.1 h2.2)⟩
    · cases h
  | slice t p lo hi' m =>
    cases m with
    | some m => simp [Zkn] at h
    | none =>
      simp only [Zkn] at h
      simp only [ZaQ]
      split at h
      · rename_i v l hg hv hl hhg
        obtain ⟨r1, w, h1, h2, rfl⟩ := Zit h hi
        have : ∃ e, v.dv x.U = some e := by
          unfold Zr2 at h1
          split at h1
          · exact ⟨_, rfl⟩
          · exact ⟨_, rfl⟩
          · cases h1
        obtain ⟨e, he⟩ := this
        obtain ⟨_, h3, _⟩ := Zcw r hh hv he
        obtain ⟨dl, dh, d, k1, k2, k3, k4⟩ := Zy7 ok r hh he hl hhg h1 h2
        exact ⟨.a (.d d), by simp only [h3, k1, k2, k3, oD], .a _ _ (.d _ _ k4)⟩
      · cases h
  | fieldAddr t p f =>
    simp only [Zkn] at h
    simp only [ZaQ]
    split at h
    · rename_i q hq
      obtain ⟨z, h1, h2⟩ := ZgV r hh hq
      obtain ⟨w, h3, h4⟩ := ZoS h2 (ZsQ h hi)
      exact ⟨w, by simp only [h1, h3], h4⟩
    · cases h
  | field t p f =>
    simp only [Zkn] at h
    simp only [ZaQ]
    split at h
    · rename_i v hv
      obtain ⟨w, h1, rfl⟩ := Zvm h hi
      have : ∃ e, v.dv x.U = some e := by
        unfold Ztr at h1
        split at h1
        · cases h1
        · split at h1
          · exact ⟨_, rfl⟩
          · rename_i fd _ cs
            cases hd : (TV.g cs : TV x.X).dv x.U with
            | some e => exact ⟨e, rfl⟩
            | none =>
              obtain ⟨u, hu, h5⟩ := Zcq r hh hv
              cases h5 with
              | d v d h6 => rw [hd] at h6; cases h6
          · cases h1
      obtain ⟨e, he⟩ := this
      obtain ⟨_, h3, _⟩ := Zcw r hh hv he
      obtain ⟨d, h4, h5⟩ := ZzH ok he h1
      exact ⟨.a (.d d), by simp only [h3, h4, oD], .a _ _ (.d _ _ h5)⟩
    · cases h
  | indexAddr t p i =>
    simp only [Zkn] at h
    simp only [ZaQ]
    split at h
    · rename_i v k n hv hn
      obtain ⟨vw, h1, h2⟩ := Zcq r hh hv
      obtain ⟨_, h3, _⟩ := Zcw r hh hn (d := .int k n) rfl
      obtain ⟨w, h4, h5⟩ := Zqf ok r h2 h hi
      exact ⟨w, by simp only [h1, h3, h4], h5⟩
    · cases h
  | index t p i =>
    simp only [Zkn] at h
    simp only [ZaQ]
    split at h
    · rename_i v k n hv hn
      obtain ⟨r1, w, h1, h2, rfl⟩ := Zit h hi
      have : ∃ e, v.dv x.U = some e := by
        unfold ZsU at h1
        split at h1
        · exact ⟨_, rfl⟩
        · cases h1
      obtain ⟨e, he⟩ := this
      obtain ⟨_, h3, _⟩ := Zcw r hh hn (d := .int k n) rfl
      obtain ⟨_, h4, _⟩ := Zcw r hh hv he
      obtain ⟨d, h5, h6⟩ := Zy3 he h1 h2
      exact ⟨.a (.d d), by simp only [h3, h4, h5, oD], .a _ _ (.d _ _ h6)⟩
    · cases h
  | lookup t p k b =>
    simp only [Zkn] at h
    simp only [ZaQ]
    split at h
    · rename_i m key hm hk
      obtain ⟨w, h1, rfl⟩ := Zvm h hi
      have : ∃ e, key.dv x.U = some e := by
        unfold Zy4 at h1
        split at h1
        · split at h1
          · rename_i hp _; exact ⟨_, ok.prj _ _ _ hp⟩
          · cases h1
        · cases h1
      obtain ⟨e, he⟩ := this
      obtain ⟨mw, h2, h3⟩ := Zcq r hh hm
      obtain ⟨_, h4, _⟩ := Zcw r hh hk he
      obtain ⟨z, h5, h6⟩ := look_ok ok r h3 he h1
      exact ⟨.a z, by simp only [h2, h4, h5, oA], .a _ _ h6⟩
    · cases h
  | extract p i =>
    simp only [Zkn] at h
    simp only [ZaQ]
    split at h
    · rename_i v hv
      obtain ⟨w, h1, rfl⟩ := Zvm h hi
      obtain ⟨vw, h2, h3⟩ := Zcq r hh hv
      obtain ⟨z, h4, h5⟩ := ZtR h3 h1
      exact ⟨.a z, by simp only [h2, h4, oA], .a _ _ h5⟩
    · cases h
  | call c =>
    obtain ⟨callee, args, types⟩ := c
    cases callee with
    | builtin b =>
      simp only [Zkn] at h
      simp only [ZaQ]
      obtain ⟨r1, w, h1, h2, rfl⟩ := Zit h hi
      unfold Zsc at h1
      split at h1
      · split at h1
        · rename_i o t ho ht
          split at h1
          · rename_i v hv
            obtain ⟨vw, h3, h4⟩ := Zcq r hh hv
            obtain ⟨d, h5, h6⟩ := YdT r h4 h1 h2
            exact ⟨.a (.d d), by simp only [Zak, ho, ht, h3, h5, oD], .a _ _ (.d _ _ h6)⟩
          · cases h1
        · cases h1
      · split at h1
        · rename_i vs hv
          obtain ⟨ws, h3, h4⟩ := Zi4 r hh hv
          obtain ⟨ds, d, rfl, h6, h7⟩ := Ybh h4 h1 h2
          exact ⟨.a (.d d), by simp only [Zak, ZoA h3, h6, oD], .a _ _ (.d _ _ h7)⟩
        · cases h1
      · split at h1
        · rename_i vs hv
          obtain ⟨ws, h3, h4⟩ := Zi4 r hh hv
          obtain ⟨ds, d, rfl, h6, h7⟩ := YbB h4 h1 h2
          exact ⟨.a (.d d), by simp only [Zak, ZoA h3, h6, oD], .a _ _ (.d _ _ h7)⟩
        · cases h1
      · cases h1
    | invoke => simp [Zkn] at h
    | value g =>
      simp only [Zkn] at h
      simp only [ZaQ]
      split at h
      · rename_i fv vs hg hv
        obtain ⟨fw, h1, h2⟩ := Zcq r hh hg
        obtain ⟨ws, h3, h4⟩ := Zi4 r hh hv
        split at h
        · rename_i f caps hf
          obtain ⟨as, h5, h6⟩ := Ybk h2 hf
          have h7 := h4.append h6
          simp only [h1, h3, h5]
          cases hl : Zaq fa.lend dst with
          | true =>
            rw [hl] at h
            simp only [cond_true] at h ⊢
            split at h
            · rename_i us k hk
              obtain ⟨r1, w, k1, k2, rfl⟩ := Zit h hi
              obtain ⟨ds, d, k3, k4, k5, k6⟩ := Zh0 ok hT k1 k2
              have k7 := Zwr r h7 hk k3
              rw [k7]
              simp only [k5, k6, cond_true]
              exact ⟨_, rfl, .a _ _ (.d _ _ k4)⟩
            · cases h
          | false =>
            rw [hl] at h
            simp only [cond_false] at h ⊢
            cases hz : Zaq fa.frz dst with
            | false => rw [hz] at h; cases h
            | true =>
              rw [hz] at h
              simp only [cond_true] at h
              obtain ⟨r1, w, k1, k2, rfl⟩ := Zit h hi
              obtain ⟨ds, d, k3, k4, k5⟩ := ZnF ok hT k1 k2
              rw [h7.dv k3, Zhl]
              simp only [k5, oD]
              exact ⟨_, rfl, .a _ _ (.d _ _ k4)⟩
        · cases h
      · cases h
  | _ => simp [Zkn] at h
end
end Go.Tev
