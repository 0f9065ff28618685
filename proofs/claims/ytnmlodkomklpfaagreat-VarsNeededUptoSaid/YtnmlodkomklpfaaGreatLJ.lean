/- A certified evaluator for the walked functions, and their contracts, for the laws of the variables. -/
import Derived.Test.YtnmlodkomklpfaaGreatLI
import Derived.Test.YtnmlodkomklpfaaGreatRows
import Derived.JoinedCond
import Derived.OpenShut
import Derived.ChangeArms
set_option linter.unusedVariables false
set_option linter.unusedSimpArgs false
namespace Go.Abs
open Go.RowKit
def ZbW : Own := fun _ => none
def ZgT (w : World) (b o : Nat) (ds : List DV) : Prop := ∀ (j : Nat) d, ds[j]? = some d → ∃ v, w.cell? ⟨b, o + j, none⟩ = some v ∧ v.oneCell' = true ∧ Rep w ZbW v d
theorem Zmn {w : World} {b o : Nat} {xs ys : List DV} (h1 : ZgT w b o xs) (h2 : ZgT w b (o + xs.length) ys) : ZgT w b o (xs ++ ys) := by
  intro j d hd
  rcases Nat.lt_or_ge j xs.length with h | h
  · rw [List.getElem?_append_left h] at hd
    exact h1 j d hd
  · rw [List.getElem?_append_right h] at hd
    have := h2 (j - xs.length) d hd
    rwa [show o + xs.length + (j - xs.length) = o + j by omega] at this
theorem Zkf {w : World} {b sz : Nat} : ∀ (es : List DV) (o : Nat), (∀ e ∈ es, e.cells.length = sz) → (∀ (i : Nat) e, es[i]? = some e → ZgT w b (o + i * sz) e.cells) → ZgT w b o (es.flatMap DV.cells) ∧ (es.flatMap DV.cells).length = es.length * sz
  | [], o, _, _ => ⟨fun j d h => by simp at h, by simp⟩
  | e :: es, o, hs, h => by
    have he := hs e List.mem_cons_self
    obtain ⟨h1, h2⟩ := Zkf es (o + sz) (fun x hx => hs x (List.mem_cons_of_mem _ hx)) (fun i x hx => by
      have := h (i + 1) x (by simpa using hx)
      rwa [show o + (i + 1) * sz = o + sz + i * sz by rw [Nat.add_mul]; omega] at this)
    refine ⟨?_, by simp only [List.flatMap_cons, List.length_append, he, h2, List.length_cons, Nat.add_mul]; omega⟩
    rw [List.flatMap_cons]
    refine Zmn ?_ (by rw [he]; exact h1)
    have := h 0 e rfl
    simpa using this
theorem YcE {w : World} {b o cap sz : Nat} {es : List DV} (hcap : es.length ≤ cap) (hs : ∀ e ∈ es, e.cells.length = sz) (h : ∀ (i : Nat) e, es[i]? = some e → ZgT w b (o + i * sz) e.cells) : Rep w ZbW (.slice (some ⟨b, o, none⟩) es.length cap) (.slc es) := by
  obtain ⟨h1, h2⟩ := Zkf es o hs h
  have hget : ∀ i, i < es.length * sz → ∃ v d, (es.flatMap DV.cells)[i]? = some d ∧ w.cell? ⟨b, o + i, none⟩ = some v ∧ v.oneCell' = true ∧ Rep w ZbW v d := by
    intro i hi
    obtain ⟨v, e1, e2, e3⟩ := h1 i _ (List.getElem?_eq_getElem (by rw [h2]; exact hi))
    exact ⟨v, _, List.getElem?_eq_getElem _, e1, e2, e3⟩
  refine .slc b o cap sz es (fun i => (w.cell? ⟨b, o + i, none⟩).getD .nilFunc) hcap hs (fun i hi => ?_) (fun i hi x f hx => by cases hx) (fun i hi => ?_) (fun i d hd => ?_)
  · obtain ⟨v, d, _, e1, _⟩ := hget i hi
    rw [e1]; rfl
  · obtain ⟨v, d, _, e1, e2, _⟩ := hget i hi
    rw [e1]; exact e2
  · have hi : i < es.length * sz := by rw [← h2]; exact (List.getElem?_eq_some_iff.1 hd).1
    obtain ⟨v, d', e0, e1, e2, e3⟩ := hget i hi
    rw [hd] at e0
    cases e0
    rw [e1]; exact e3
theorem ZuM {w : World} {base : Nat} {a : Addr} {n : Nat} {cs : List Value} (h : w.cells? base a n = some cs) : cs.length = n ∧ ∀ (j : Nat) v, cs[j]? = some v → w.cell? (a.add j) = some v := by
  unfold World.cells? at h
  split at h
  · have h1 := mapM_some_length h
    refine ⟨by simpa using h1, fun j v hj => ?_⟩
    have hlt : j < n := by rw [← show cs.length = n by simpa using h1]; exact (List.getElem?_eq_some_iff.1 hj).1
    have := mapM_some_get h j j (by simp [hlt])
    rw [this, hj]
  · cases h
theorem Zp6 {w : World} {a : Addr} {v : Value} (h : w.cell? a = some v) : a.spot = none := by
  unfold World.cell? at h
  split at h
  · split at h
    · cases h
    · rename_i hs
      cases e : a.spot with
      | none => rfl
      | some x => rw [e] at hs; exact absurd rfl hs
  · cases h
theorem ZyW {w : World} {a : Addr} {j : Nat} {v : Value} (h : w.cell? (a.add j) = some v) : w.cell? ⟨a.block, a.off + j, none⟩ = some v := by
  have : a.add j = ⟨a.block, a.off + j, none⟩ := by
    have h1 := Zp6 h
    unfold Addr.add at h1 ⊢
    split
    · rename_i h0
      rw [if_pos h0] at h1
      subst h0
      cases a
      simp only at h1
      subst h1
      simp
    · rfl
  rw [← this]; exact h
theorem Zm2 {H : Type} {enc : TypeId × Value → H} {P : Program} {w : World} {base : Nat} {sp : Nat → Bool} {held : Bool} {fuel : Nat} {t e : TypeId} {cs : List Value} {x : DataW H × List MemPlace} {Y : Type} (en : Y → DV) (sz : Nat) (good : Y → DataW H → Prop)
    (ht : P.underlying t = some (.slice e)) (hsz : P.cellsOf e = sz) (hsz0 : 0 < sz) (hen : ∀ y, (en y).cells.length = sz)
    (he : ∀ n, n < fuel → ∀ cs x, DataW.trod enc P w base sp held n e cs = some x → ∃ y, good y x.1 ∧ ∀ (j : Nat) d, (en y).cells[j]? = some d → ∃ v, cs[j]? = some v ∧ v.oneCell' = true ∧ Rep w ZbW v d)
    (h : DataW.trod enc P w base sp held fuel t cs = some x) :
    ∃ v ys, cs = [v] ∧ v.oneCell' = true ∧ Rep w ZbW v (.slc (ys.map en)) ∧ ((x.1 = .nil ∧ ys = []) ∨ ∃ ds rest, x.1 = .slice ds rest ∧ ds.length = ys.length ∧ ∀ (i : Nat) y d, ys[i]? = some y → ds[i]? = some d → good y d) := by
  rcases DataW.trod_slice ht h with ⟨rfl, rfl⟩ | ⟨a, len, cap, elems, rest, n, rfl, rfl, rfl, hb, hl, hm, hlen, hel, _, _⟩
  · exact ⟨_, [], rfl, rfl, .slc0 none 0, .inl ⟨rfl, rfl⟩⟩
  · have each : ∀ i, i < len → ∃ y d, elems[i]? = some d ∧ good y d.1 ∧ ZgT w a.block (a.off + i * sz) (en y).cells ∧ (i = 0 → a.spot = none) := by
      intro i hi
      have h1 := hel i hi
      rw [hsz] at h1
      have hi' : i < elems.length := by omega
      rw [List.getElem?_eq_getElem hi'] at h1
      cases hc : w.cells? base (a.add (i * sz)) sz with
      | none => rw [hc] at h1; cases h1
      | some cs =>
        rw [hc] at h1
        simp only [Option.bind_some] at h1
        obtain ⟨y, hg, hy⟩ := he n (Nat.lt_succ_self n) cs _ h1
        obtain ⟨_, hcell⟩ := ZuM hc
        have hat : ∀ (j : Nat) v, cs[j]? = some v → w.cell? ⟨a.block, a.off + i * sz + j, none⟩ = some v := by
          intro j v hj
          have := hcell j v hj
          rw [Go.Addr.add_add] at this
          have k1 := ZyW this
          rw [← Nat.add_assoc] at k1
          exact k1
        refine ⟨y, _, List.getElem?_eq_getElem hi', hg, fun j d hd => ?_, ?_⟩
        · obtain ⟨v, k1, k2, k3⟩ := hy j d hd
          exact ⟨v, hat j v k1, k2, k3⟩
        · intro hi0
          subst hi0
          have h0 : 0 < (en y).cells.length := by rw [hen]; exact hsz0
          obtain ⟨v, k1, k2, k3⟩ := hy 0 _ (List.getElem?_eq_getElem h0)
          have := hcell 0 v k1
          rw [Go.Addr.add_add] at this
          have := Zp6 this
          simpa [Addr.add] using this
    have all : ∀ k, k ≤ len → ∃ ys : List Y, ys.length = k ∧ ∀ (i : Nat) y, ys[i]? = some y → ∃ d, elems[i]? = some d ∧ good y d.1 ∧ ZgT w a.block (a.off + i * sz) (en y).cells := by
      intro k
      induction k with
      | zero => intro _; exact ⟨[], rfl, fun i y h => by simp at h⟩
      | succ k ih =>
        intro hk
        obtain ⟨ys, h1, h2⟩ := ih (by omega)
        obtain ⟨y, d, g1, g2, g3, _⟩ := each k (by omega)
        refine ⟨ys ++ [y], by simp [h1], fun i z hz => ?_⟩
        rcases Nat.lt_or_ge i ys.length with hi | hi
        · rw [List.getElem?_append_left hi] at hz
          exact h2 i z hz
        · rw [List.getElem?_append_right hi] at hz
          have : i = k := by
            have := (List.getElem?_eq_some_iff.1 hz).1
            simp at this; omega
          subst this
          rw [h1, Nat.sub_self] at hz
          simp only [List.getElem?_cons_zero, Option.some.injEq] at hz
          subst hz
          exact ⟨d, g1, g2, g3⟩
    obtain ⟨ys, hy1, hy2⟩ := all len (Nat.le_refl _)
    refine ⟨_, ys, rfl, rfl, ?_, .inr ⟨elems.map (·.1), rest.map (·.1), rfl, by simp [hy1, hlen], fun i y d h1 h2 => ?_⟩⟩
    · rcases Nat.eq_zero_or_pos len with hz | hz
      · subst hz
        have : ys = [] := List.eq_nil_of_length_eq_zero hy1
        subst this
        exact .slc0 _ cap
      · obtain ⟨_, _, _, _, _, hspot⟩ := each 0 hz
        have ea : ∀ a : Addr, a.spot = none → a = ⟨a.block, a.off, none⟩ := fun a h => by cases a; cases h; rfl
        have := ea a (hspot rfl)
        have hlen2 : (ys.map en).length = len := by simp [hy1]
        rw [this, ← hlen2]
        refine YcE (by omega) (sz := sz) (fun e he => ?_) (fun i e he => ?_)
        · obtain ⟨y, _, rfl⟩ := List.mem_map.1 he
          exact hen y
        · rw [List.getElem?_map] at he
          cases hy : ys[i]? with
          | none => rw [hy] at he; cases he
          | some y =>
            rw [hy] at he
            cases he
            obtain ⟨_, _, _, h3⟩ := hy2 i y hy
            exact h3
    · obtain ⟨d', g1, g2, _⟩ := hy2 i y h1
      rw [List.getElem?_map, g1] at h2
      cases h2
      exact g2
end Go.Abs
namespace Go.Tev.S1
open Go.Abs Go.Proofs Go.RowKit
abbrev Zmk {H : Type} (d : DataW H) : Nat := YtnmlodkomklpfaaGreat.Rows.uptoBulk d
abbrev ZjA {H : Type} (d : List (DataW H)) : Nat := YtnmlodkomklpfaaGreat.Rows.uptoBulkAll d
theorem Zm5 {H : Type} (a b : List (DataW H)) : Zmk (.slice a b) = ZjA a + ZjA b + 1 := by simp [Zmk, ZjA, YtnmlodkomklpfaaGreat.Rows.uptoBulk]
theorem Zo6 {H : Type} (a : List (DataW H)) : Zmk (.agg a) = ZjA a + 1 := by simp [Zmk, ZjA, YtnmlodkomklpfaaGreat.Rows.uptoBulk]
theorem Zll {H : Type} : ZjA ([] : List (DataW H)) = 0 := by simp [ZjA, YtnmlodkomklpfaaGreat.Rows.uptoBulkAll]
theorem Zfw {H : Type} (d : DataW H) (r : List (DataW H)) : ZjA (d :: r) = Zmk d + ZjA r := by simp [Zmk, ZjA, YtnmlodkomklpfaaGreat.Rows.uptoBulkAll]
theorem Zs8 {H : Type} (b : List UInt8) : Zmk (.lit (.string b) : DataW H) = b.length + 1 := by simp [Zmk, YtnmlodkomklpfaaGreat.Rows.uptoBulk]
theorem ZyU {H : Type} (d : DataW H) : 1 ≤ Zmk d := by
  cases d with
  | lit l => cases l <;> simp [Zmk, YtnmlodkomklpfaaGreat.Rows.uptoBulk]
  | _ => simp [Zmk, YtnmlodkomklpfaaGreat.Rows.uptoBulk]
section
variable {H : Type} {enc : TypeId × Value → H} {w : World} {base : Nat} {sp : Nat → Bool} {held : Bool}
theorem Zpt {cs : List Value} {k : Nat} {v : Value} (h : (cs.drop k).take 1 = [v]) : cs[k]? = some v := by
  have := congrArg (fun l => l[0]?) h
  simpa [List.getElem?_take, List.getElem?_drop] using this
theorem ZiR {α : Type} {xs : List α} {n i : Nat} (h : xs.length = n) (hi : i < n) : ∃ x, xs[i]? = some x := ⟨_, List.getElem?_eq_getElem (by omega)⟩
theorem Ydl {α : Type} {xs : List α} (h : xs.length = 2) {a b : α} (h0 : xs[0]? = some a) (h1 : xs[1]? = some b) : xs = [a, b] := by
  match xs, h with
  | [x, y], _ => simp at h0 h1; rw [h0, h1]
theorem YeJ {α : Type} {xs : List α} (h : xs.length = 5) {a b c d e : α} (h0 : xs[0]? = some a) (h1 : xs[1]? = some b) (h2 : xs[2]? = some c) (h3 : xs[3]? = some d) (h4 : xs[4]? = some e) : xs = [a, b, c, d, e] := by
  match xs, h with
  | [x, y, z, u, v], _ => simp at h0 h1 h2 h3 h4; rw [h0, h1, h2, h3, h4]
theorem co58 : Tryz.prog.cellsOf 49 = 5 := by kernel_rfl
theorem co60 : Tryz.prog.cellsOf 51 = 6 := by kernel_rfl
theorem co53 : Tryz.prog.cellsOf 39 = 2 := by kernel_rfl
theorem co33 : Tryz.prog.cellsOf 22 = 1 := by kernel_rfl
theorem co5 : Tryz.prog.cellsOf 5 = 1 := by kernel_rfl
theorem co9 : Tryz.prog.cellsOf 9 = 1 := by kernel_rfl
theorem co2 : Tryz.prog.cellsOf 2 = 1 := by kernel_rfl
theorem co4 : Tryz.prog.cellsOf 4 = 1 := by kernel_rfl
theorem u58 : Tryz.prog.underlying 49 = some (.struct #[⟨ "Kind", 5, 0, false, "", "", 0⟩, ⟨ "Text", 9, 1, false, "", "", 8⟩, ⟨ "Num", 2, 2, false, "", "", 24⟩, ⟨ "Unit", 9, 3, false, "", "", 32⟩, ⟨ "Flag", 4, 4, false, "", "", 48⟩]) := by kernel_rfl
theorem u60 : Tryz.prog.underlying 51 = some (.struct #[⟨ "Token", 49, 0, false, "", "", 0⟩, ⟨ "List", 22, 5, false, "", "", 56⟩]) := by kernel_rfl
theorem u53 : Tryz.prog.underlying 39 = some (.struct #[⟨ "Name", 9, 0, false, "", "", 0⟩, ⟨ "Value", 22, 1, false, "", "", 16⟩]) := by kernel_rfl
theorem Yam {fuel : Nat} {cs : List Value} {x : DataW H × List MemPlace} (h : DataW.trod enc Tryz.prog w base sp held fuel 49 cs = some x) : ∃ t : Tok, t.t.length + t.u.length + 1 ≤ Zmk x.1 ∧ ∀ (j : Nat) d, t.enc.cells[j]? = some d → ∃ v, cs[j]? = some v ∧ v.oneCell' = true ∧ Rep w ZbW v d := by
  obtain ⟨xs, n, rfl, rfl, hcs, hxs, hf⟩ := DataW.trod_struct u58 h
  have hxs : xs.length = 5 := hxs
  obtain ⟨x0, e0⟩ := ZiR hxs (show 0 < 5 by omega)
  obtain ⟨x1, e1⟩ := ZiR hxs (show 1 < 5 by omega)
  obtain ⟨x2, e2⟩ := ZiR hxs (show 2 < 5 by omega)
  obtain ⟨x3, e3⟩ := ZiR hxs (show 3 < 5 by omega)
  obtain ⟨x4, e4⟩ := ZiR hxs (show 4 < 5 by omega)
  have f0 : DataW.trod enc Tryz.prog w base sp held n 5 ((cs.drop 0).take (Tryz.prog.cellsOf 5)) = xs[0]? := hf 0 ⟨ "Kind", 5, 0, false, "", "", 0⟩ rfl
  have f1 : DataW.trod enc Tryz.prog w base sp held n 9 ((cs.drop 1).take (Tryz.prog.cellsOf 9)) = xs[1]? := hf 1 ⟨ "Text", 9, 1, false, "", "", 8⟩ rfl
  have f2 : DataW.trod enc Tryz.prog w base sp held n 2 ((cs.drop 2).take (Tryz.prog.cellsOf 2)) = xs[2]? := hf 2 ⟨ "Num", 2, 2, false, "", "", 24⟩ rfl
  have f3 : DataW.trod enc Tryz.prog w base sp held n 9 ((cs.drop 3).take (Tryz.prog.cellsOf 9)) = xs[3]? := hf 3 ⟨ "Unit", 9, 3, false, "", "", 32⟩ rfl
  have f4 : DataW.trod enc Tryz.prog w base sp held n 4 ((cs.drop 4).take (Tryz.prog.cellsOf 4)) = xs[4]? := hf 4 ⟨ "Flag", 4, 4, false, "", "", 48⟩ rfl
  rw [co5, e0] at f0
  rw [co9, e1] at f1
  rw [co2, e2] at f2
  rw [co9, e3] at f3
  rw [co4, e4] at f4
  obtain ⟨k, c0, rfl, _⟩ := DataW.trod_int Tryz.underlying5 f0
  obtain ⟨t, c1, rfl, _⟩ := DataW.trod_string Tryz.underlying9 f1
  obtain ⟨m, c2, rfl, _⟩ := DataW.trod_int Tryz.underlying2 f2
  obtain ⟨u, c3, rfl, _⟩ := DataW.trod_string Tryz.underlying9 f3
  obtain ⟨b, c4, rfl⟩ := DataW.trod_bool Tryz.underlying4 f4
  refine ⟨⟨k, t.data.toList, m, u.data.toList, b⟩, ?_, ?_⟩
  · rw [YeJ hxs e0 e1 e2 e3 e4, Zo6]
    simp only [List.map_cons, List.map_nil, Zfw, Zll, Zs8]
    omega
  · intro j d hd
    rcases j with _ | _ | _ | _ | _ | j
    · cases hd; exact ⟨_, Zpt c0, rfl, .int _ _⟩
    · cases hd; exact ⟨_, Zpt c1, rfl, .str _⟩
    · cases hd; exact ⟨_, Zpt c2, rfl, .int _ _⟩
    · cases hd; exact ⟨_, Zpt c3, rfl, .str _⟩
    · cases hd; exact ⟨_, Zpt c4, rfl, .bool _⟩
    · simp [Tok.enc, DV.cells] at hd
theorem ZtR : ∀ (l : List Val) (ds : List (DataW H)), ds.length = l.length → (∀ (i : Nat) y d, l[i]? = some y → ds[i]? = some d → y.tot ≤ Zmk d) → Zaq l ≤ ZjA ds
  | [], ds, _, _ => Nat.zero_le _
  | v :: l, [], h, _ => by simp at h
  | v :: l, d :: ds, h, hg => by
    have h1 := ZtR l ds (by simpa using h) (fun i y d h1 h2 => hg (i + 1) y d (by simpa using h1) (by simpa using h2))
    have h2 := hg 0 v d rfl rfl
    rw [Zfw]
    simp only [Zaq]
    omega
theorem Zw5 : ∀ (fuel : Nat) (cs : List Value) (x : DataW H × List MemPlace), DataW.trod enc Tryz.prog w base sp held fuel 22 cs = some x → ∃ v l, cs = [v] ∧ v.oneCell' = true ∧ Rep w ZbW v (.slc (l.map Val.enc)) ∧ Zaq l ≤ Zmk x.1 := by
  intro fuel
  induction fuel using Nat.strongRecOn with
  | ind fuel ih =>
    intro cs x h
    obtain ⟨v, l, h1, h2, h3, h4⟩ := Zm2 (Y := Val) Val.enc 6 (fun y d => y.tot ≤ Zmk d) Tryz.underlying22 co60 (by decide) (fun y => by cases y; rfl) (fun n hn cs x hx => by
      obtain ⟨xs, m, rfl, rfl, hcs, hxs, hf⟩ := DataW.trod_struct u60 hx
      have hxs : xs.length = 2 := hxs
      obtain ⟨x0, e0⟩ := ZiR hxs (show 0 < 2 by omega)
      obtain ⟨x1, e1⟩ := ZiR hxs (show 1 < 2 by omega)
      have f0 : DataW.trod enc Tryz.prog w base sp held m 49 ((cs.drop 0).take (Tryz.prog.cellsOf 49)) = xs[0]? := hf 0 ⟨ "Token", 49, 0, false, "", "", 0⟩ rfl
      have f1 : DataW.trod enc Tryz.prog w base sp held m 22 ((cs.drop 5).take (Tryz.prog.cellsOf 22)) = xs[1]? := hf 1 ⟨ "List", 22, 5, false, "", "", 56⟩ rfl
      rw [co58, e0] at f0
      rw [co33, e1] at f1
      obtain ⟨t, ht1, ht2⟩ := Yam f0
      obtain ⟨v, l, hv1, hv2, hv3, hv4⟩ := ih m (by omega) _ _ f1
      refine ⟨Val.mk t l, ?_, ?_⟩
      · rw [Ydl hxs e0 e1, Zo6]
        simp only [List.map_cons, List.map_nil, Zfw, Zll, Val.tot]
        omega
      · intro j d hd
        have hcl : (Val.mk t l).enc.cells = t.enc.cells ++ [.slc (l.map Val.enc)] := by
          rw [← ZnZ]; rfl
        rw [hcl] at hd
        have h5 : t.enc.cells.length = 5 := rfl
        rcases Nat.lt_or_ge j 5 with hj | hj
        · rw [List.getElem?_append_left (by omega)] at hd
          obtain ⟨u, k1, k2, k3⟩ := ht2 j d hd
          refine ⟨u, ?_, k2, k3⟩
          rw [List.getElem?_take, if_pos hj, List.getElem?_drop] at k1
          simpa using k1
        · rw [List.getElem?_append_right (by omega), h5] at hd
          have : j = 5 := by
            have := (List.getElem?_eq_some_iff.1 hd).1
            simp at this; omega
          subst this
          cases hd
          exact ⟨v, Zpt hv1, hv2, hv3⟩) h
    refine ⟨v, l, h1, h2, h3, ?_⟩
    rcases h4 with ⟨h4, rfl⟩ | ⟨ds, rest, h4, h5, h6⟩
    · exact Nat.zero_le _
    · rw [h4, Zm5]
      have := ZtR l ds h5 h6
      omega
theorem Zzp {fuel : Nat} {cs : List Value} {x : DataW H × List MemPlace} (h : DataW.trod enc Tryz.prog w base sp held fuel 23 cs = some x) :
    ∃ (v : Value) (c : List Cus), cs = [v] ∧ v.oneCell' = true ∧ Rep w ZbW v (.slc (c.map Cus.enc)) ∧ c.length ≤ Zmk x.1 ∧ ∀ y ∈ c, y.name.length + Zaq y.val ≤ Zmk x.1 := by
  obtain ⟨v, l, h1, h2, h3, h4⟩ := Zm2 (Y := Cus) Cus.enc 2 (fun y d => y.name.length + Zaq y.val + 1 ≤ Zmk d) Tryz.underlying23 co53 (by decide) (fun y => rfl) (fun n hn cs x hx => by
      obtain ⟨xs, m, rfl, rfl, hcs, hxs, hf⟩ := DataW.trod_struct u53 hx
      have hxs : xs.length = 2 := hxs
      obtain ⟨x0, e0⟩ := ZiR hxs (show 0 < 2 by omega)
      obtain ⟨x1, e1⟩ := ZiR hxs (show 1 < 2 by omega)
      have f0 : DataW.trod enc Tryz.prog w base sp held m 9 ((cs.drop 0).take (Tryz.prog.cellsOf 9)) = xs[0]? := hf 0 ⟨ "Name", 9, 0, false, "", "", 0⟩ rfl
      have f1 : DataW.trod enc Tryz.prog w base sp held m 22 ((cs.drop 1).take (Tryz.prog.cellsOf 22)) = xs[1]? := hf 1 ⟨ "Value", 22, 1, false, "", "", 16⟩ rfl
      rw [co9, e0] at f0
      rw [co33, e1] at f1
      obtain ⟨t, c0, rfl, _⟩ := DataW.trod_string Tryz.underlying9 f0
      obtain ⟨v, l, hv1, hv2, hv3, hv4⟩ := Zw5 _ _ _ f1
      refine ⟨⟨t.data.toList, l⟩, ?_, ?_⟩
      · rw [Ydl hxs e0 e1, Zo6]
        simp only [List.map_cons, List.map_nil, Zfw, Zll, Zs8]
        omega
      · intro j d hd
        rcases j with _ | _ | j
        · cases hd; exact ⟨_, Zpt c0, rfl, .str _⟩
        · cases hd; exact ⟨_, Zpt hv1, hv2, hv3⟩
        · simp [Cus.enc, DV.cells] at hd) h
  refine ⟨v, l, h1, h2, h3, ?_⟩
  rcases h4 with ⟨h4, rfl⟩ | ⟨ds, rest, h4, h5, h6⟩
  · exact ⟨Nat.zero_le _, fun y hy => by simp at hy⟩
  · have hb : ∀ ds : List (DataW H), ds.length ≤ ZjA ds ∧ ∀ d ∈ ds, Zmk d ≤ ZjA ds := by
      intro ds
      induction ds with
      | nil => exact ⟨Nat.zero_le _, fun d hd => by simp at hd⟩
      | cons d ds ih =>
        have := ZyU d
        obtain ⟨i1, i2⟩ := ih
        rw [Zfw]
        refine ⟨by simp; omega, fun e he => ?_⟩
        rcases List.mem_cons.1 he with rfl | he
        · omega
        · have := i2 e he; omega
    obtain ⟨b1, b2⟩ := hb ds
    rw [h4, Zm5]
    refine ⟨by omega, fun y hy => ?_⟩
    obtain ⟨i, hi, rfl⟩ := List.mem_iff_getElem.1 hy
    have hi' : i < ds.length := by omega
    have g1 := h6 i l[i] ds[i] (List.getElem?_eq_getElem hi) (List.getElem?_eq_getElem hi')
    have g2 := b2 ds[i] (List.getElem_mem hi')
    omega
end
end Go.Tev.S1
