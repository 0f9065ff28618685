/- A certified evaluator for the walked functions, and their contracts, for the laws of the variables. -/
import Derived.Test.YtnmlodkomklpfaaLJ
import Derived.Test.YtnmlodkomklpfaaRows
import Derived.JoinedCond
import Derived.OpenShut
import Derived.ChangeArms
import Derived.Test.YtnmlodkomklpfaaLH
set_option linter.unusedVariables false
set_option linter.unusedSimpArgs false
namespace Go.Abs
open Go.RowKit
def Zlj : Own := fun _ => none
def Zic (w : World) (b o : Nat) (ds : List DV) : Prop := ∀ (j : Nat) d, ds[j]? = some d → ∃ v, w.cell? ⟨b, o + j, none⟩ = some v ∧ v.oneCell' = true ∧ Rep w Zlj v d
theorem Zqq {w : World} {b o : Nat} {xs ys : List DV} (h1 : Zic w b o xs) (h2 : Zic w b (o + xs.length) ys) : Zic w b o (xs ++ ys) := by
  intro j d hd
  rcases Nat.lt_or_ge j xs.length with h | h
  · rw [List.getElem?_append_left h] at hd
    exact h1 j d hd
  · rw [List.getElem?_append_right h] at hd
    have := h2 (j - xs.length) d hd
    rwa [show o + xs.length + (j - xs.length) = o + j by omega] at this
theorem ZmW {w : World} {b sz : Nat} : ∀ (es : List DV) (o : Nat), (∀ e ∈ es, e.cells.length = sz) → (∀ (i : Nat) e, es[i]? = some e → Zic w b (o + i * sz) e.cells) → Zic w b o (es.flatMap DV.cells) ∧ (es.flatMap DV.cells).length = es.length * sz
  | [], o, _, _ => ⟨fun j d h => by simp at h, by simp⟩
  | e :: es, o, hs, h => by
    have he := hs e List.mem_cons_self
    obtain ⟨h1, h2⟩ := ZmW es (o + sz) (fun x hx => hs x (List.mem_cons_of_mem _ hx)) (fun i x hx => by
      have := h (i + 1) x (by simpa using hx)
      rwa [show o + (i + 1) * sz = o + sz + i * sz by rw [Nat.add_mul]; omega] at this)
    refine ⟨?_, by simp only [List.flatMap_cons, List.length_append, he, h2, List.length_cons, Nat.add_mul]; omega⟩
    rw [List.flatMap_cons]
    refine Zqq ?_ (by rw [he]; exact h1)
    have := h 0 e rfl
    simpa using this
theorem YgN {w : World} {b o cap sz : Nat} {es : List DV} (hcap : es.length ≤ cap) (hs : ∀ e ∈ es, e.cells.length = sz) (h : ∀ (i : Nat) e, es[i]? = some e → Zic w b (o + i * sz) e.cells) : Rep w Zlj (.slice (some ⟨b, o, none⟩) es.length cap) (.slc es) := by
  obtain ⟨h1, h2⟩ := ZmW es o hs h
  have hget : ∀ i, i < es.length * sz → ∃ v d, (es.flatMap DV.cells)[i]? = some d ∧ w.cell? ⟨b, o + i, none⟩ = some v ∧ v.oneCell' = true ∧ Rep w Zlj v d := by
    intro i hi
    obtain ⟨v, e1, e2, e3⟩ := h1 i _ (List.getElem?_eq_getElem (by rw [h2]; exact hi))
    exact ⟨v, _, List.getElem?_eq_getElem _, e1, e2, e3⟩
  refine .slc b o cap sz es (fun i => (w.cell? ⟨b, o + i, none⟩).getD .nilFunc) hcap hs (fun i hi => ?_) (fun i hi x f hx => by cases hx) (fun i hi => ?_) (fun i d hd => ?_)
  · obtain ⟨v, d, _, e1, _⟩ := hget i hi
    rw [e1]; rfl
  · obtain ⟨v, d, _, e1, e2, _⟩ := hget i hi
    rw [e1]; exact e2
  · have hi : i < es.length * sz := by rw [← h2]; exact (List.getElem?_eq_some_iff.1 hd).1
    obtain ⟨v, d', e0, e1, e2, e3⟩ := hget i hi
    rw [hd] at e0
    cases e0
    rw [e1]; exact e3
theorem Zzt {w : World} {base : Nat} {a : Addr} {n : Nat} {cs : List Value} (h : w.cells? base a n = some cs) : cs.length = n ∧ ∀ (j : Nat) v, cs[j]? = some v → w.cell? (a.add j) = some v := by
  unfold World.cells? at h
  split at h
  · have h1 := mapM_some_length h
    refine ⟨by simpa using h1, fun j v hj => ?_⟩
    have hlt : j < n := by rw [← show cs.length = n by simpa using h1]; exact (List.getElem?_eq_some_iff.1 hj).1
    have := mapM_some_get h j j (by simp [hlt])
    rw [this, hj]
  · cases h
theorem ZtI {w : World} {a : Addr} {v : Value} (h : w.cell? a = some v) : a.spot = none := by
  unfold World.cell? at h
  split at h
  · split at h
    · cases h
    · rename_i hs
      cases e : a.spot with
      | none => rfl
      | some x => rw [e] at hs; exact absurd rfl hs
  · cases h
theorem YdB {w : World} {a : Addr} {j : Nat} {v : Value} (h : w.cell? (a.add j) = some v) : w.cell? ⟨a.block, a.off + j, none⟩ = some v := by
  have : a.add j = ⟨a.block, a.off + j, none⟩ := by
    have h1 := ZtI h
    unfold Addr.add at h1 ⊢
    split
    · rename_i h0
      rw [if_pos h0] at h1
      subst h0
      cases a
      simp only at h1
      subst h1
      simp
    · rfl
  rw [← this]; exact h
theorem Zq7 {H : Type} {enc : TypeId × Value → H} {P : Program} {w : World} {base : Nat} {sp : Nat → Bool} {held : Bool} {fuel : Nat} {t e : TypeId} {cs : List Value} {x : DataW H × List MemPlace} {Y : Type} (en : Y → DV) (sz : Nat) (good : Y → DataW H → Prop)
    (ht : P.underlying t = some (.slice e)) (hsz : P.cellsOf e = sz) (hsz0 : 0 < sz) (hen : ∀ y, (en y).cells.length = sz)
    (he : ∀ n, n < fuel → ∀ cs x, DataW.trod enc P w base sp held n e cs = some x → ∃ y, good y x.1 ∧ ∀ (j : Nat) d, (en y).cells[j]? = some d → ∃ v, cs[j]? = some v ∧ v.oneCell' = true ∧ Rep w Zlj v d)
    (h : DataW.trod enc P w base sp held fuel t cs = some x) :
    ∃ v ys, cs = [v] ∧ v.oneCell' = true ∧ Rep w Zlj v (.slc (ys.map en)) ∧ ((x.1 = .nil ∧ ys = []) ∨ ∃ ds rest, x.1 = .slice ds rest ∧ ds.length = ys.length ∧ ∀ (i : Nat) y d, ys[i]? = some y → ds[i]? = some d → good y d) := by
  rcases DataW.trod_slice ht h with ⟨rfl, rfl⟩ | ⟨a, len, cap, elems, rest, n, rfl, rfl, rfl, hb, hl, hm, hlen, hel, _, _⟩
  · exact ⟨_, [], rfl, rfl, .slc0 none 0, .inl ⟨rfl, rfl⟩⟩
  · have each : ∀ i, i < len → ∃ y d, elems[i]? = some d ∧ good y d.1 ∧ Zic w a.block (a.off + i * sz) (en y).cells ∧ (i = 0 → a.spot = none) := by
      intro i hi
      have h1 := hel i hi
      rw [hsz] at h1
      have hi' : i < elems.length := by omega
      rw [List.getElem?_eq_getElem hi'] at h1
      cases hc : w.cells? base (a.add (i * sz)) sz with
      | none => rw [hc] at h1; cases h1
      | some cs =>
        rw [hc] at h1
        simp only [Option.bind_some] at h1
        obtain ⟨y, hg, hy⟩ := he n (Nat.lt_succ_self n) cs _ h1
        obtain ⟨_, hcell⟩ := Zzt hc
        have hat : ∀ (j : Nat) v, cs[j]? = some v → w.cell? ⟨a.block, a.off + i * sz + j, none⟩ = some v := by
          intro j v hj
          have := hcell j v hj
          rw [Go.Addr.add_add] at this
          have k1 := YdB this
          rw [← Nat.add_assoc] at k1
          exact k1
        refine ⟨y, _, List.getElem?_eq_getElem hi', hg, fun j d hd => ?_, ?_⟩
        · obtain ⟨v, k1, k2, k3⟩ := hy j d hd
          exact ⟨v, hat j v k1, k2, k3⟩
        · intro hi0
          subst hi0
          have h0 : 0 < (en y).cells.length := by rw [hen]; exact hsz0
          obtain ⟨v, k1, k2, k3⟩ := hy 0 _ (List.getElem?_eq_getElem h0)
          have := hcell 0 v k1
          rw [Go.Addr.add_add] at this
          have := ZtI this
          simpa [Addr.add] using this
    have all : ∀ k, k ≤ len → ∃ ys : List Y, ys.length = k ∧ ∀ (i : Nat) y, ys[i]? = some y → ∃ d, elems[i]? = some d ∧ good y d.1 ∧ Zic w a.block (a.off + i * sz) (en y).cells := by
      intro k
      induction k with
      | zero => intro _; exact ⟨[], rfl, fun i y h => by simp at h⟩
      | succ k ih =>
        intro hk
        obtain ⟨ys, h1, h2⟩ := ih (by omega)
        obtain ⟨y, d, g1, g2, g3, _⟩ := each k (by omega)
        refine ⟨ys ++ [y], by simp [h1], fun i z hz => ?_⟩
        rcases Nat.lt_or_ge i ys.length with hi | hi
        · rw [List.getElem?_append_left hi] at hz
          exact h2 i z hz
        · rw [List.getElem?_append_right hi] at hz
          have : i = k := by
            have := (List.getElem?_eq_some_iff.1 hz).1
            simp at this; omega
          subst this
          rw [h1, Nat.sub_self] at hz
          simp only [List.getElem?_cons_zero, Option.some.injEq] at hz
          subst hz
          exact ⟨d, g1, g2, g3⟩
    obtain ⟨ys, hy1, hy2⟩ := all len (Nat.le_refl _)
    refine ⟨_, ys, rfl, rfl, ?_, .inr ⟨elems.map (·.1), rest.map (·.1), rfl, by simp [hy1, hlen], fun i y d h1 h2 => ?_⟩⟩
    · rcases Nat.eq_zero_or_pos len with hz | hz
      · subst hz
        have : ys = [] := List.eq_nil_of_length_eq_zero hy1
        subst this
        exact .slc0 _ cap
      · obtain ⟨_, _, _, _, _, hspot⟩ := each 0 hz
        have ea : ∀ a : Addr, a.spot = none → a = ⟨a.block, a.off, none⟩ := fun a h => by cases a; cases h; rfl
        have := ea a (hspot rfl)
        have hlen2 : (ys.map en).length = len := by simp [hy1]
        rw [this, ← hlen2]
        refine YgN (by omega) (sz := sz) (fun e he => ?_) (fun i e he => ?_)
        · obtain ⟨y, _, rfl⟩ := List.mem_map.1 he
          exact hen y
        · rw [List.getElem?_map] at he
          cases hy : ys[i]? with
          | none => rw [hy] at he; cases he
          | some y =>
            rw [hy] at he
            cases he
            obtain ⟨_, _, _, h3⟩ := hy2 i y hy
            exact h3
    · obtain ⟨d', g1, g2, _⟩ := hy2 i y h1
      rw [List.getElem?_map, g1] at h2
      cases h2
      exact g2
end Go.Abs
namespace Go.Tev.S1
open Go.Abs Go.Proofs Go.RowKit
abbrev ZqQ {H : Type} (d : DataW H) : Nat := Ytnmlodkomklpfaa.Rows.uptoBulk d
abbrev ZlX {H : Type} (d : List (DataW H)) : Nat := Ytnmlodkomklpfaa.Rows.uptoBulkAll d
theorem Zq1 {H : Type} (a b : List (DataW H)) : ZqQ (.slice a b) = ZlX a + ZlX b + 1 := by simp [ZqQ, ZlX, Ytnmlodkomklpfaa.Rows.uptoBulk]
theorem Zrl {H : Type} (a : List (DataW H)) : ZqQ (.agg a) = ZlX a + 1 := by simp [ZqQ, ZlX, Ytnmlodkomklpfaa.Rows.uptoBulk]
theorem Zoa {H : Type} : ZlX ([] : List (DataW H)) = 0 := by simp [ZlX, Ytnmlodkomklpfaa.Rows.uptoBulkAll]
theorem ZgX {H : Type} (d : DataW H) (r : List (DataW H)) : ZlX (d :: r) = ZqQ d + ZlX r := by simp [ZqQ, ZlX, Ytnmlodkomklpfaa.Rows.uptoBulkAll]
theorem Zxl {H : Type} (b : List UInt8) : ZqQ (.lit (.string b) : DataW H) = b.length + 1 := by simp [ZqQ, Ytnmlodkomklpfaa.Rows.uptoBulk]
theorem YeG {H : Type} (d : DataW H) : 1 ≤ ZqQ d := by
  cases d with
  | lit l => cases l <;> simp [ZqQ, Ytnmlodkomklpfaa.Rows.uptoBulk]
  | _ => simp [ZqQ, Ytnmlodkomklpfaa.Rows.uptoBulk]
section
variable {H : Type} {enc : TypeId × Value → H} {w : World} {base : Nat} {sp : Nat → Bool} {held : Bool}
theorem Zud {cs : List Value} {k : Nat} {v : Value} (h : (cs.drop k).take 1 = [v]) : cs[k]? = some v := by
  have := congrArg (fun l => l[0]?) h
  simpa [List.getElem?_take, List.getElem?_drop] using this
theorem Zla {α : Type} {xs : List α} {n i : Nat} (h : xs.length = n) (hi : i < n) : ∃ x, xs[i]? = some x := ⟨_, List.getElem?_eq_getElem (by omega)⟩
theorem Yh4 {α : Type} {xs : List α} (h : xs.length = 2) {a b : α} (h0 : xs[0]? = some a) (h1 : xs[1]? = some b) : xs = [a, b] := by
  match xs, h with
  | [x, y], _ => simp at h0 h1; rw [h0, h1]
theorem Yi8 {α : Type} {xs : List α} (h : xs.length = 5) {a b c d e : α} (h0 : xs[0]? = some a) (h1 : xs[1]? = some b) (h2 : xs[2]? = some c) (h3 : xs[3]? = some d) (h4 : xs[4]? = some e) : xs = [a, b, c, d, e] := by
  match xs, h with
  | [x, y, z, u, v], _ => simp at h0 h1 h2 h3 h4; rw [h0, h1, h2, h3, h4]
theorem co58 : Try.prog.cellsOf 58 = 5 := by kernel_rfl
theorem co60 : Try.prog.cellsOf 60 = 6 := by kernel_rfl
theorem co53 : Try.prog.cellsOf 53 = 2 := by kernel_rfl
theorem co33 : Try.prog.cellsOf 33 = 1 := by kernel_rfl
theorem co5 : Try.prog.cellsOf 5 = 1 := by kernel_rfl
theorem co9 : Try.prog.cellsOf 9 = 1 := by kernel_rfl
theorem co2 : Try.prog.cellsOf 2 = 1 := by kernel_rfl
theorem co4 : Try.prog.cellsOf 4 = 1 := by kernel_rfl
theorem u58 : Try.prog.underlying 58 = some (.struct #[⟨ "Kind", 5, 0, false, "", "", 0⟩, ⟨ "Text", 9, 1, false, "", "", 8⟩, ⟨ "Num", 2, 2, false, "", "", 24⟩, ⟨ "Unit", 9, 3, false, "", "", 32⟩, ⟨ "Flag", 4, 4, false, "", "", 48⟩]) := by kernel_rfl
theorem u60 : Try.prog.underlying 60 = some (.struct #[⟨ "Token", 58, 0, false, "", "", 0⟩, ⟨ "List", 33, 5, false, "", "", 56⟩]) := by kernel_rfl
theorem u53 : Try.prog.underlying 53 = some (.struct #[⟨ "Name", 9, 0, false, "", "", 0⟩, ⟨ "Value", 33, 1, false, "", "", 16⟩]) := by kernel_rfl
theorem YdY {fuel : Nat} {cs : List Value} {x : DataW H × List MemPlace} (h : DataW.trod enc Try.prog w base sp held fuel 58 cs = some x) : ∃ t : Tok, t.t.length + t.u.length + 1 ≤ ZqQ x.1 ∧ ∀ (j : Nat) d, t.enc.cells[j]? = some d → ∃ v, cs[j]? = some v ∧ v.oneCell' = true ∧ Rep w Zlj v d := by
  obtain ⟨xs, n, rfl, rfl, hcs, hxs, hf⟩ := DataW.trod_struct u58 h
  have hxs : xs.length = 5 := hxs
  obtain ⟨x0, e0⟩ := Zla hxs (show 0 < 5 by omega)
  obtain ⟨x1, e1⟩ := Zla hxs (show 1 < 5 by omega)
  obtain ⟨x2, e2⟩ := Zla hxs (show 2 < 5 by omega)
  obtain ⟨x3, e3⟩ := Zla hxs (show 3 < 5 by omega)
  obtain ⟨x4, e4⟩ := Zla hxs (show 4 < 5 by omega)
  have f0 : DataW.trod enc Try.prog w base sp held n 5 ((cs.drop 0).take (Try.prog.cellsOf 5)) = xs[0]? := hf 0 ⟨ "Kind", 5, 0, false, "", "", 0⟩ rfl
  have f1 : DataW.trod enc Try.prog w base sp held n 9 ((cs.drop 1).take (Try.prog.cellsOf 9)) = xs[1]? := hf 1 ⟨ "Text", 9, 1, false, "", "", 8⟩ rfl
  have f2 : DataW.trod enc Try.prog w base sp held n 2 ((cs.drop 2).take (Try.prog.cellsOf 2)) = xs[2]? := hf 2 ⟨ "Num", 2, 2, false, "", "", 24⟩ rfl
  have f3 : DataW.trod enc Try.prog w base sp held n 9 ((cs.drop 3).take (Try.prog.cellsOf 9)) = xs[3]? := hf 3 ⟨ "Unit", 9, 3, false, "", "", 32⟩ rfl
  have f4 : DataW.trod enc Try.prog w base sp held n 4 ((cs.drop 4).take (Try.prog.cellsOf 4)) = xs[4]? := hf 4 ⟨ "Flag", 4, 4, false, "", "", 48⟩ rfl
  rw [co5, e0] at f0
  rw [co9, e1] at f1
  rw [co2, e2] at f2
  rw [co9, e3] at f3
  rw [co4, e4] at f4
  obtain ⟨k, c0, rfl, _⟩ := DataW.trod_int Try.underlying5 f0
  obtain ⟨t, c1, rfl, _⟩ := DataW.trod_string Try.underlying9 f1
  obtain ⟨m, c2, rfl, _⟩ := DataW.trod_int Try.underlying2 f2
  obtain ⟨u, c3, rfl, _⟩ := DataW.trod_string Try.underlying9 f3
  obtain ⟨b, c4, rfl⟩ := DataW.trod_bool Try.underlying4 f4
  refine ⟨⟨k, t.data.toList, m, u.data.toList, b⟩, ?_, ?_⟩
  · rw [Yi8 hxs e0 e1 e2 e3 e4, Zrl]
    simp only [List.map_cons, List.map_nil, ZgX, Zoa, Zxl]
    omega
  · intro j d hd
    rcases j with _ | _ | _ | _ | _ | j
    · cases hd; exact ⟨_, Zud c0, rfl, .int _ _⟩
    · cases hd; exact ⟨_, Zud c1, rfl, .str _⟩
    · cases hd; exact ⟨_, Zud c2, rfl, .int _ _⟩
    · cases hd; exact ⟨_, Zud c3, rfl, .str _⟩
    · cases hd; exact ⟨_, Zud c4, rfl, .bool _⟩
    · simp [Tok.enc, DV.cells] at hd
theorem Zyq : ∀ (l : List Val) (ds : List (DataW H)), ds.length = l.length → (∀ (i : Nat) y d, l[i]? = some y → ds[i]? = some d → y.tot ≤ ZqQ d) → Zal l ≤ ZlX ds
  | [], ds, _, _ => Nat.zero_le _
  | v :: l, [], h, _ => by simp at h
  | v :: l, d :: ds, h, hg => by
    have h1 := Zyq l ds (by simpa using h) (fun i y d h1 h2 => hg (i + 1) y d (by simpa using h1) (by simpa using h2))
    have h2 := hg 0 v d rfl rfl
    rw [ZgX]
    simp only [Zal]
    omega
theorem Ycg : ∀ (fuel : Nat) (cs : List Value) (x : DataW H × List MemPlace), DataW.trod enc Try.prog w base sp held fuel 33 cs = some x → ∃ v l, cs = [v] ∧ v.oneCell' = true ∧ Rep w Zlj v (.slc (l.map Val.enc)) ∧ Zal l ≤ ZqQ x.1 := by
  intro fuel
  induction fuel using Nat.strongRecOn with
  | ind fuel ih =>
    intro cs x h
    obtain ⟨v, l, h1, h2, h3, h4⟩ := Zq7 (Y := Val) Val.enc 6 (fun y d => y.tot ≤ ZqQ d) Try.underlying33 co60 (by decide) (fun y => by cases y; rfl) (fun n hn cs x hx => by
      obtain ⟨xs, m, rfl, rfl, hcs, hxs, hf⟩ := DataW.trod_struct u60 hx
      have hxs : xs.length = 2 := hxs
      obtain ⟨x0, e0⟩ := Zla hxs (show 0 < 2 by omega)
      obtain ⟨x1, e1⟩ := Zla hxs (show 1 < 2 by omega)
      have f0 : DataW.trod enc Try.prog w base sp held m 58 ((cs.drop 0).take (Try.prog.cellsOf 58)) = xs[0]? := hf 0 ⟨ "Token", 58, 0, false, "", "", 0⟩ rfl
      have f1 : DataW.trod enc Try.prog w base sp held m 33 ((cs.drop 5).take (Try.prog.cellsOf 33)) = xs[1]? := hf 1 ⟨ "List", 33, 5, false, "", "", 56⟩ rfl
      rw [co58, e0] at f0
      rw [co33, e1] at f1
      obtain ⟨t, ht1, ht2⟩ := YdY f0
      obtain ⟨v, l, hv1, hv2, hv3, hv4⟩ := ih m (by omega) _ _ f1
      refine ⟨Val.mk t l, ?_, ?_⟩
      · rw [Yh4 hxs e0 e1, Zrl]
        simp only [List.map_cons, List.map_nil, ZgX, Zoa, Val.tot]
        omega
      · intro j d hd
        have hcl : (Val.mk t l).enc.cells = t.enc.cells ++ [.slc (l.map Val.enc)] := by
          rw [← Zsf]; rfl
        rw [hcl] at hd
        have h5 : t.enc.cells.length = 5 := rfl
        rcases Nat.lt_or_ge j 5 with hj | hj
        · rw [List.getElem?_append_left (by omega)] at hd
          obtain ⟨u, k1, k2, k3⟩ := ht2 j d hd
          refine ⟨u, ?_, k2, k3⟩
          rw [List.getElem?_take, if_pos hj, List.getElem?_drop] at k1
          simpa using k1
        · rw [List.getElem?_append_right (by omega), h5] at hd
          have : j = 5 := by
            have := (List.getElem?_eq_some_iff.1 hd).1
            simp at this; omega
          subst this
          cases hd
          exact ⟨v, Zud hv1, hv2, hv3⟩) h
    refine ⟨v, l, h1, h2, h3, ?_⟩
    rcases h4 with ⟨h4, rfl⟩ | ⟨ds, rest, h4, h5, h6⟩
    · exact Nat.zero_le _
    · rw [h4, Zq1]
      have := Zyq l ds h5 h6
      omega
theorem Ydi {fuel : Nat} {cs : List Value} {x : DataW H × List MemPlace} (h : DataW.trod enc Try.prog w base sp held fuel 22 cs = some x) :
    ∃ (v : Value) (c : List Cus), cs = [v] ∧ v.oneCell' = true ∧ Rep w Zlj v (.slc (c.map Cus.enc)) ∧ c.length ≤ ZqQ x.1 ∧ ∀ y ∈ c, y.name.length + Zal y.val ≤ ZqQ x.1 := by
  obtain ⟨v, l, h1, h2, h3, h4⟩ := Zq7 (Y := Cus) Cus.enc 2 (fun y d => y.name.length + Zal y.val + 1 ≤ ZqQ d) Try.underlying22 co53 (by decide) (fun y => rfl) (fun n hn cs x hx => by
      obtain ⟨xs, m, rfl, rfl, hcs, hxs, hf⟩ := DataW.trod_struct u53 hx
      have hxs : xs.length = 2 := hxs
      obtain ⟨x0, e0⟩ := Zla hxs (show 0 < 2 by omega)
      obtain ⟨x1, e1⟩ := Zla hxs (show 1 < 2 by omega)
      have f0 : DataW.trod enc Try.prog w base sp held m 9 ((cs.drop 0).take (Try.prog.cellsOf 9)) = xs[0]? := hf 0 ⟨ "Name", 9, 0, false, "", "", 0⟩ rfl
      have f1 : DataW.trod enc Try.prog w base sp held m 33 ((cs.drop 1).take (Try.prog.cellsOf 33)) = xs[1]? := hf 1 ⟨ "Value", 33, 1, false, "", "", 16⟩ rfl
      rw [co9, e0] at f0
      rw [co33, e1] at f1
      obtain ⟨t, c0, rfl, _⟩ := DataW.trod_string Try.underlying9 f0
      obtain ⟨v, l, hv1, hv2, hv3, hv4⟩ := Ycg _ _ _ f1
      refine ⟨⟨t.data.toList, l⟩, ?_, ?_⟩
      · rw [Yh4 hxs e0 e1, Zrl]
        simp only [List.map_cons, List.map_nil, ZgX, Zoa, Zxl]
        omega
      · intro j d hd
        rcases j with _ | _ | j
        · cases hd; exact ⟨_, Zud c0, rfl, .str _⟩
        · cases hd; exact ⟨_, Zud hv1, hv2, hv3⟩
        · simp [Cus.enc, DV.cells] at hd) h
  refine ⟨v, l, h1, h2, h3, ?_⟩
  rcases h4 with ⟨h4, rfl⟩ | ⟨ds, rest, h4, h5, h6⟩
  · exact ⟨Nat.zero_le _, fun y hy => by simp at hy⟩
  · have hb : ∀ ds : List (DataW H), ds.length ≤ ZlX ds ∧ ∀ d ∈ ds, ZqQ d ≤ ZlX ds := by
      intro ds
      induction ds with
      | nil => exact ⟨Nat.zero_le _, fun d hd => by simp at hd⟩
      | cons d ds ih =>
        have := YeG d
        obtain ⟨i1, i2⟩ := ih
        rw [ZgX]
        refine ⟨by simp; omega, fun e he => ?_⟩
        rcases List.mem_cons.1 he with rfl | he
        · omega
        · have := i2 e he; omega
    obtain ⟨b1, b2⟩ := hb ds
    rw [h4, Zq1]
    refine ⟨by omega, fun y hy => ?_⟩
    obtain ⟨i, hi, rfl⟩ := List.mem_iff_getElem.1 hy
    have hi' : i < ds.length := by omega
    have g1 := h6 i l[i] ds[i] (List.getElem?_eq_getElem hi) (List.getElem?_eq_getElem hi')
    have g2 := b2 ds[i] (List.getElem_mem hi')
    omega
end
end Go.Tev.S1
namespace Go.Abs
open Go.RowKit Go.ChangeShapes Go.WideShapes Go.ChangeAt
def Stays (W W' : World) : Prop := W'.os = W.os ∧ W'.output = W.output ∧ W.heap.size ≤ W'.heap.size ∧ ∀ b, b < W.heap.size → W'.heap[b]? = W.heap[b]?
theorem Stays.kept {W W' : World} (h : Stays W W') (may : MemPlace → Prop) : W.keptBut W' may := by
  refine ⟨h.1, h.2.1, fun i hi => ?_⟩
  rw [h.2.2.2 i hi]
  cases hx : W.heap[i]? with
  | none => exact rfl
  | some o => cases o <;> first | exact ⟨rfl, rfl, rfl, fun _ _ => rfl⟩ | exact .inr ⟨rfl, rfl⟩ | exact rfl
theorem Stays.frozen {W W' : World} (h : Stays W W') {a : Addr} (ha : a.block < W.heap.size) : W'.frozen? a = W.frozen? a := by
  simp only [World.frozen?, h.2.2.2 _ ha]
theorem Stays.same {W W' : World} (h : Stays W W') {p : MemPlace} (hp : p.block < W.heap.size) : W.sameAt W' p := by
  have h2 : ∀ W2 : World, W2 = { W' with tape := W.tape } → W.sameAt W2 p := fun W2 e => by
    have hb : Below W.heap.size W W2 := by subst e; exact ⟨h.1, rfl, h.2.1, h.2.2.1, h.2.2.2⟩
    exact hb.same hp
  have := h2 _ rfl
  exact this
theorem Ztc {H : Type} {enc : TypeId × Value → H} {P : Program} {f : Func} {s : ChangeSpec} {apart fresh handsOn again : Bool} {W W' : World} {args : Array Value} {v : Value} {ds gs : List (DataW H)} {before pa pv : List MemPlace}
    (hW : DataW.Whole enc P f.params.toList s.vars apart W args.toList ds gs before)
    (hres : ∀ (b : Nat) (sp : Nat → Bool) (hd : Bool), DataW.TrodAll enc P W' b sp hd f.resultTypes.toList (v.resultList f.resultTypes.size) (s.fn H (ds ++ gs)).results [])
    (hargs : ∀ sp : Nat → Bool, (∀ p ∈ before, sp p.block = true) → DataW.TrodAll enc P W' 0 sp true f.params.toList args.toList (s.fn H (ds ++ gs)).args pa)
    (hvars : ∀ sp : Nat → Bool, (∀ p ∈ before, sp p.block = true) → DataW.TrodVars enc P W' sp s.vars (s.fn H (ds ++ gs)).vars pv)
    (hps : before = pa ++ pv) (hS : Stays W W')
    (hok : ∀ (j : Nat) (t : TypeId) (r : Value), f.resultTypes[j]? = some t → (v.resultList f.resultTypes.size)[j]? = some r → Value.okWide P W' .any 0 t r) :
    s.post enc P f apart fresh handsOn again W args v W' := by
  have hold : ∀ p ∈ before, (fun b => decide (b < W.heap.size)) p.block = true := fun p hp => by simpa using hW.lt p hp
  have hlt : ∀ p ∈ before, p.block < W.heap.size := fun p hp => hW.lt p hp
  refine ⟨ds, gs, before, [], pa, pv, hW, hres _ _ _, hargs _ hold, hvars _ hold, World.keptBut_mono (fun p hp => ⟨hp, ?_⟩) (hS.kept (· ∈ before)), fun _ => ?_⟩
  · rw [hps, List.mem_append] at hp
    exact Or.inr hp
  · obtain ⟨_, _, _, _, _, hz, hn⟩ := hW
    refine ⟨hok, _, _, ([] ++ pa) ++ pv, ⟨[] ++ pa, pv, trodAll_append (hargs _ (fun _ _ => rfl)) (hres _ _ _), hvars _ (fun _ _ => rfl), rfl, ?_, ?_⟩, ?_⟩
    · intro b off hp
      have hm : MemPlace.cell b off ∈ before := by rw [hps]; simpa using hp
      rw [hS.frozen (a := ⟨b, off, none⟩) (hlt _ hm)]
      exact hz b off hm
    · intro ha
      have := hn ha
      rw [hps] at this
      simpa using this
    · intro p hp _
      rw [hps]
      simpa using hp
theorem Yji (P : Program) (W : World) : HRel P W Zlj [] :=
  ⟨fun id o h => (by simp at h), fun b b' x f f' h => (by cases h), fun b x h => (by cases h), fun b id f h => (by cases h)⟩
theorem Zz7 {P : Program} {f : FuncId} {ds : List DV} {b : Bool} {h' : List AObj} (h : Has P f (ds.map .d) [] (.d (.bool b)) h') {W : World} {vs : Array Value} (hl : vs.size = ds.length) (hr : ∀ (i : Nat) v d, vs[i]? = some v → ds[i]? = some d → Rep W Zlj v d) :
    Calls P f vs W fun e W' => e = .returned (.bool b) ∧ Stays W W' := by
  refine (h.2 W Zlj vs (Yji P W) (fun b x f hx => by cases hx) (by simpa using hl) fun i v x hv hx => ?_).mono ?_
  · rw [List.getElem?_map] at hx
    cases hd : ds[i]? with
    | none => rw [hd] at hx; cases hx
    | some d =>
      rw [hd] at hx
      cases hx
      exact .d _ _ (hr i v d hv hd)
  · rintro e w' ⟨v, own', rfl, _, _, h1, h2, _⟩
    cases h1 with
    | d _ _ h3 =>
      cases h3
      exact ⟨rfl, h2.os, h2.output, h2.size, fun b hb => (h2.blk b hb (.inl rfl)).1⟩
end Go.Abs
namespace Go.Tev.S1
open Go.Abs Go.Proofs Go.RowKit
def K0 : Zaa := fun _ _ _ => none
theorem YhY : Zb9 Try.prog K0 := fun f args h r h' he => by cases he
theorem Zmf : Zcf K0 := fun f args h hf => rfl
theorem Zah : ZbD C.P := by
  have h : (Try.prog.funcs.all fun fn => !(fn.name == "runtime.NumGoroutine")) = true := by kernel_rfl
  intro f fn hf
  have := (Array.all_eq_true_iff_forall_mem.1 h) fn (Array.mem_of_getElem? hf)
  simpa using this
theorem mixed : C.P.follows .mixedOrders = true := by kernel_rfl
end Go.Tev.S1
namespace Go.Abs
theorem ZaJ {α : Type} {l m : List (Nat × α)} {k : Nat} {v : α} (h : Zae l k = some v) : Zae (l ++ m) k = some v := by
  induction l with
  | nil => simp [Zae] at h
  | cons p l ih =>
    obtain ⟨i, x⟩ := p
    simp only [List.cons_append, Zae] at h ⊢
    cases hb : Nat.beq i k with
    | true => rw [hb] at h; exact h
    | false => rw [hb] at h; exact ih h
end Go.Abs
namespace Go.Tev.S1
open Go.Abs Go.Proofs
def Edge (G : Nd) (a b : List UInt8) : Prop := ∃ u, Zbd BEq.beq a G = some u ∧ b ∈ Zj6 u ∧ (Zbd BEq.beq b G).isSome = true
inductive Path (G : Nd) : List UInt8 → List UInt8 → Prop where
  | one {a b : List UInt8} (h : Edge G a b) : Path G a b
  | step {a b c : List UInt8} (h : Edge G a b) (t : Path G b c) : Path G a c
structure WalkPost (G : Nd) (S : List (List UInt8)) (name : List UInt8) (S' : List (List UInt8)) : Prop where
  nd : S'.Nodup
  sub : ∀ m ∈ S, m ∈ S'
  ing : ∀ m ∈ S', (Zbd BEq.beq m G).isSome = true
  next : ∀ m, Edge G name m → m ∈ S'
  new : ∀ m ∈ S', m ∉ S → Path G name m ∧ ∀ k, Edge G m k → k ∈ S'
theorem Zlv {β : Type} {a : List UInt8} : ∀ {G : List (List UInt8 × β)}, (Zbd BEq.beq a G).isSome = true → a ∈ G.map Prod.fst
  | [], h => by simp [Zbd] at h
  | (k, u) :: r, h => by
    simp only [Zbd] at h
    cases e : (a == k) with
    | true => rw [beq_iff_eq] at e; subst e; exact List.mem_cons_self
    | false => rw [e] at h; exact List.mem_cons_of_mem _ (Zlv h)
theorem Yf8 {G : Nd} {S : List (List UInt8)} (hn : S.Nodup) (h : ∀ m ∈ S, (Zbd BEq.beq m G).isSome = true) : S.length ≤ G.length := by
  have := hn.length_le_of_subset (l₂ := G.map Prod.fst) fun m hm => Zlv (h m hm)
  simpa using this
def R68 (G : Nd) (out : List (DV × AV)) (S : List (List UInt8)) (name : List UInt8) (r : AV) (h' : List AObj) : Prop := r = .d (.tup []) ∧ ∃ S', WalkPost G S name S' ∧ h' = H68 G out S'
structure Mid (G : Nd) (S : List (List UInt8)) (name : List UInt8) (u : Bm) (vis : List Nat) (S' : List (List UInt8)) : Prop where
  nd : S'.Nodup
  sub : ∀ m ∈ S, m ∈ S'
  ing : ∀ m ∈ S', (Zbd BEq.beq m G).isSome = true
  vis : ∀ j ∈ vis, ∀ nm b, u[j]? = some (nm, b) → (Zbd BEq.beq nm G).isSome = true → nm ∈ S'
  new : ∀ m ∈ S', m ∉ S → Path G name m ∧ ∀ k, Edge G m k → k ∈ S'
theorem Ygk : okC (C.ann 68) (.region 3 (Go.Abs.ops Yes) false) = true := by kernel_rfl
theorem YgQ : okC (C.ann 68) (.region 4 (Go.Abs.ops Yc4) false) = true := by kernel_rfl
theorem o68_5 : (opZ (opsL Zr5)).guard = none ∧ (opZ (opsL Zr5)).dst = some 28 ∧ (opZ (opsL Zr5)).op = .call { callee := .value (.tmp 26), args := #[.tmp 27], argTypes := #[9] } := by
  refine ⟨?_, ?_, ?_⟩ <;> kernel_rfl
theorem Zz9 : ∀ (n : Nat) (G : Nd) (out : List (DV × AV)) (S : List (List UInt8)) (name : List UInt8), S.Nodup → (∀ m ∈ S, (Zbd BEq.beq m G).isSome = true) → (Zbd BEq.beq name G).isSome = true → G.length - S.length < n →
    HasN Try.prog 68 (YhS name) (H68 G out S) (R68 G out S name) := by
  intro n
  induction n with
  | zero => intro G out S name _ _ _ h; omega
  | succ n ih =>
    intro G out S name hnd hing hname hlt
    obtain ⟨u, hu⟩ := Option.isSome_iff_exists.1 hname
    have hK : Zb9 C.P (fun _ _ _ => none : Zaa) := fun f args h r h' he => by cases he
    refine Zgh (C := C) (f := 68) (fn := Try.f68) Try.func68 Yg6 (by kernel_rfl) ?_
    refine Zgd (call := fun _ _ _ => none) Zah hK Yjf (Yf1 G out S name u hu) o68_0.2.1 o68_0.1 o68_0.2.2 (by kernel_rfl) (by kernel_rfl) (show opA _ (.tmp 8) = some (.d (.fmap (Zhh u))) from rfl) Yjo fun p => ?_
    have he : Zjn (Zke 0 (YhS name)) 9 (SV.val (.raw p)) = e68 name p := rfl
    show Yii C (C.ann 68) 9 p (Zhh u) _ ⟨Zjn (Zke 0 (YhS name)) 9 (.val (.raw p)), [], H68 G out S⟩ _
    rw [he]
    refine Zom (call := fun _ _ _ => none) Zah hK Yi2 o68_1.2.1 o68_1.1 o68_1.2.2 (by kernel_rfl) (by kernel_rfl) Yjp o68_2.2.1 o68_2.1 o68_2.2.2 (by kernel_rfl) (by kernel_rfl)
      (fun vis s => ∃ S', s = ⟨e68 name p, [], H68 G out S'⟩ ∧ Mid G S name u vis S') ⟨S, rfl, hnd, fun m h => h, hing, fun j h => by simp at h, fun m h h2 => absurd h h2⟩ (fun vis s ⟨S', hs, _⟩ => by subst hs; exact ⟨rfl, rfl⟩) ?_ ?_
    ·
      rintro vis s ⟨S', rfl, hM⟩ hall
      refine ⟨_, Yaa name p _ false [], rfl, ?_⟩
      refine ⟨[], rfl, rfl, S', ⟨hM.nd, hM.sub, hM.ing, fun m hm => ?_, hM.new⟩, rfl⟩
      obtain ⟨u', h1, h2, h3⟩ := hm
      rw [hu] at h1
      cases h1
      obtain ⟨q, hq, rfl⟩ := List.mem_map.1 h2
      obtain ⟨j, hj, rfl⟩ := List.mem_iff_getElem.1 hq
      exact hM.vis j (hall j (by simp [Zhh, hj])) u[j].1 u[j].2 (List.getElem?_eq_getElem hj) h3
    · rintro vis s j k v ⟨S', rfl, hM⟩ hj hjv
      rw [Zhh, List.getElem?_map] at hj
      cases huj : u[j]? with
      | none => rw [huj] at hj; cases hj
      | some q =>
        obtain ⟨nx, bb⟩ := q
        rw [huj] at hj
        cases hj
        refine ⟨_, _, Yaa name p _ true [.str nx, .bool bb], rfl, rfl, Yhh name p _ (.str nx) (.bool bb), ?_⟩
        have hsub : ∀ (more : List (Nat × SV)) (S2 : List (List UInt8)), Sub ⟨e68 name p, [], H68 G out S2⟩ ((⟨e68 name p ++ more, [], H68 G out S2⟩ : St).trim (e68 name p ++ [(11, .val (.d (.bool true)))])) := by
          intro more S2
          refine ⟨fun kk vv hv => ?_, rfl, rfl⟩
          simp only [St.trim]
          rw [alook_trimE _ _ _ (by rw [ZaJ hv]; rfl)]
          exact ZaJ hv
        refine ZbC (Q1 := fun o => o = .norm ⟨e68 name p ++ [(11, .val (.d (.bool true))), (5, .val (.d (.str nx))), (23, .val (.d (.bool ((Zbd BEq.beq nx G).isSome && !decide (nx ∈ S')))))], [], H68 G out S'⟩) (Zbr (call := fun _ _ _ => none) Zah mixed hK Ygk (Yg3 G out S' name nx p) rfl) ?_ (fun o h1 h2 => absurd h1 (h2 _))
        rintro s hs
        cases hs
        cases hc : ((Zbd BEq.beq nx G).isSome && !decide (nx ∈ S')) with
        | false =>
          refine Zjd (b := false) rfl (Zs7 ?_)
          simp only [Za0]
          refine ⟨_, ⟨S', rfl, hM.nd, hM.sub, hM.ing, fun i hi nm b hb hg => ?_, hM.new⟩, hsub _ S'⟩
          rcases List.mem_cons.1 hi with rfl | hi
          · rw [huj] at hb
            cases hb
            rw [hg] at hc
            simpa using hc
          · exact hM.vis i hi nm b hb hg
        | true =>
          rw [Bool.and_eq_true, Bool.not_eq_true', decide_eq_false_iff_not] at hc
          obtain ⟨hg, hns⟩ := hc
          have hnd2 : (S' ++ [nx]).Nodup := by
            rw [List.nodup_append]
            exact ⟨hM.nd, by simp, fun a ha b hb => by rw [List.mem_singleton] at hb; subst hb; exact fun e => hns (e ▸ ha)⟩
          have hing2 : ∀ m ∈ S' ++ [nx], (Zbd BEq.beq m G).isSome = true := fun m hm => by
            rcases List.mem_append.1 hm with hm | hm
            · exact hM.ing m hm
            · rw [List.mem_singleton] at hm; subst hm; exact hg
          have hedge : Edge G name nx := ⟨u, hu, List.mem_map.2 ⟨_, List.mem_of_getElem? huj, rfl⟩, hg⟩
          refine Zjd (b := true) rfl ?_
          simp only [cond_true]
          refine ZbC (Q1 := fun o => o = .norm ⟨e68 name p ++ [(11, .val (.d (.bool true))), (5, .val (.d (.str nx))), (23, .val (.d (.bool true)))], [], H68 G out (S' ++ [nx])⟩) (Zbr (call := fun _ _ _ => none) Zah mixed hK YgQ (Yhm G out S' hns _ rfl rfl) rfl) ?_ (fun o h1 h2 => absurd h1 (h2 _))
          rintro s hs
          cases hs
          have hle : S.length ≤ S'.length := hnd.length_le_of_subset fun m hm => hM.sub m hm
          have hle2 := Yf8 hnd2 hing2
          simp only [List.length_append, List.length_cons, List.length_nil] at hle2
          have hrec := ih G out (S' ++ [nx]) nx hnd2 hing2 hg (by simp only [List.length_append, List.length_cons, List.length_nil]; omega)
          refine ZiG (call := fun _ _ _ => none) Zah hK Yjk (Ygp G out (S' ++ [nx]) nx _ rfl rfl) o68_5.1
            (Zi7 Zah o68_5.2.2 rfl (fv := .fn 68 [.ptr 1 0, .ptr 4 0, .ptr 5 0]) (vs := [.d (.str nx)]) (caps := [.ptr 1 0, .ptr 4 0, .ptr 5 0]) rfl rfl rfl hrec (fun r h' _ => by
              rw [o68_5.2.1]
              exact ⟨_, rfl⟩)) ?_
          rintro s ⟨r, h', ⟨rfl, S2, hP, rfl⟩, hput⟩
          rw [o68_5.2.1] at hput
          cases hput
          simp only [Za0]
          have hnew : nx ∈ S2 := hP.sub nx (by simp)
          refine ⟨_, ⟨S2, rfl, hP.nd, fun m hm => hP.sub m (List.mem_append_left _ (hM.sub m hm)), hP.ing, fun i hi nm b hb hg2 => ?_, fun m hm hmS => ?_⟩, hsub _ S2⟩
          · rcases List.mem_cons.1 hi with rfl | hi
            · rw [huj] at hb
              cases hb
              exact hnew
            · exact hP.sub nm (List.mem_append_left _ (hM.vis i hi nm b hb hg2))
          · by_cases h1 : m ∈ S'
            · obtain ⟨g1, g2⟩ := hM.new m h1 hmS
              exact ⟨g1, fun k hk => hP.sub k (List.mem_append_left _ (g2 k hk))⟩
            · by_cases h2 : m = nx
              · subst h2
                exact ⟨.one hedge, fun k hk => hP.next k hk⟩
              · obtain ⟨g1, g2⟩ := hP.new m hm (by simp [h1, h2])
                exact ⟨.step hedge g1, g2⟩
end Go.Tev.S1
namespace Go.Abs
section
variable {C : Ctx} {call : Zaa} {fa : FA} {st s : St} {x y : Code} {Q : Out → Prop}
theorem ZaF (hn : ZbD C.P) (hm : C.P.follows .mixedOrders = true) (hK : Zb9 C.P call) {n : Nat} (hok : okC fa x = true) (h : evQ C call fa n x st = some (.norm s)) (h2 : Tri C fa y s Q) : Tri C fa (.seq x y) st Q :=
  ZbC (Q1 := fun o => o = .norm s) (Zbr hn hm hK hok h rfl) (fun s' hs => by cases hs; exact h2) (fun o h1 h2 => absurd h1 (h2 _))
end
end Go.Abs
namespace Go.Tev.S1
open Go.Abs Go.Proofs
noncomputable abbrev B44 : Code := Zab Try.f44
noncomputable abbrev X44 : Code := sq1 (sq2 (sq2 B44))
noncomputable abbrev Y44 : Code := sq2 (sq2 (sq2 B44))
noncomputable abbrev Z44 : Code := sq1 (sq2 Y44)
noncomputable abbrev L44 : Code := inn (inn (sq2 X44))
noncomputable abbrev M44 : Code := inn (inn (sq2 Z44))
noncomputable abbrev K44 : Code := inn (sq1 (sq2 (sq2 M44)))
noncomputable abbrev YdX : Code := sq1 B44
noncomputable abbrev YdD : Code := sq1 (sq2 B44)
noncomputable abbrev YeC : Code := sq1 X44
noncomputable abbrev YeA : Code := sq1 Y44
noncomputable abbrev Yeq : Code := sq1 Z44
noncomputable abbrev Ztj : Code := sq1 M44
noncomputable abbrev ZtV : Code := sq1 K44
noncomputable abbrev Zur : Code := sq1 (sq2 K44)
noncomputable abbrev Zup : Code := sq1 (sq2 (sq2 K44))
noncomputable abbrev Zt6 : Code := sq1 (sq2 (sq2 (sq2 K44)))
noncomputable abbrev Zjx : Code := sq1 (sq2 (sq2 (sq2 (sq2 K44))))
noncomputable abbrev Zvd : Code := sq2 (sq2 (sq2 (sq2 (sq2 K44))))
noncomputable abbrev ZuX : Code := sq2 (sq2 (sq2 M44))
noncomputable abbrev ZxF : Code := sq1 (sq2 (sq2 Y44))
theorem YhA : Try.f44.body = some (.seq YdX (.seq YdD (.seq (.seq YeC (.block 0 (.loop L44))) (.seq YeA (.seq (.seq Yeq (.block 2 (.loop (.seq Ztj (.seq (.cond (.tmp 34) .skip (.exit 2)) (.seq (.block 3 (.seq ZtV (.seq Zur (.seq Zup (.seq Zt6 (.seq (.region 15 (Go.Abs.ops Zjx) false) Zvd)))))) ZuX)))))) (.seq ZxF .ret)))))) := by kernel_rfl
def Zbk (raw : List Cus) : Nd := raw.map fun x => (x.name, ZhY [] x.val)
def d44 (raw : List Cus) : DV := .slc (raw.map Cus.enc)
def e44 (raw : List Cus) (i : Nat) : List (Nat × SV) := [(0, .val (.d (d44 raw))), (2, .val (.d .nilm)), (3, .val (.ptr 1 0)), (12, .val (.d (d44 raw))), (13, .val (.d (.int .i64 raw.length))), (14, .val (.d (.int .i64 i)))]
def h44 (G : Nd) : List AObj := [.map (ZrI G), .var [.mp 0]]
theorem Zy3 : C.elemSize 22 = some 2 := by kernel_rfl
theorem zz98 : C.zero 98 = some .nilm := by kernel_rfl
theorem zz61 : C.zero 61 = some .nilm := by kernel_rfl
theorem zz99 : C.zero 99 = some .nilf := by kernel_rfl
theorem sz98 : C.size 98 = some 1 := by kernel_rfl
theorem sz61 : C.size 61 = some 1 := by kernel_rfl
theorem sz99 : C.size 99 = some 1 := by kernel_rfl
theorem YhO : C.size 53 = some 2 := by kernel_rfl
theorem YhX : C.zero 53 = some (.agg [.str [], .slc []]) := by kernel_rfl
theorem YhU : C.isAgg 53 = some true := by kernel_rfl
theorem ag9 : C.isAgg 9 = some false := by kernel_rfl
theorem Yfm : C.isAgg 33 = some false := by kernel_rfl
theorem ZlI : C.field 53 0 = some ⟨ "Name", 9, 0, false, "", "", 0⟩ := by kernel_rfl
theorem ZrH : C.field 53 1 = some ⟨ "Value", 33, 1, false, "", "", 16⟩ := by kernel_rfl
theorem hz9 : C.hasSize 9 = true := by kernel_rfl
theorem YdQ : C.hasSize 33 = true := by kernel_rfl
section
attribute [local simp] List.getElem?_cons_zero Option.bind_some YaF ZgN Zdw ZbJ Zh6 Zga Zeg Zoo Zh7 Zge Zit Ziu Zo8 Ziq ZcU Zb5 ZnB Za1 Zbi ZpA Zbb Zdv Zfq Zfw ZcI has opx opd opA opD XV.flat XV.copy oD oA Zae ins ZpY Zii St.put St.putOwn St.lose St.loseEnv unal ZnM Znz ZvL dUn Zjn ZaI ZcJ ZbH ZbA Za2 Zdt Zb8 ZcZ ZkK Zb2 AV.cells AV.cellOk AV.single DV.cellOk YaO Yba YaP DV.cells ZaY ZgY ZaU Zc0 ZaT Zbe ZnP Zba ZfO mapO AV.toD ZaL ZcC Zgn optD Zc2 Zbq Zh4 ZaC ZcD Zci ZaQ Zfs Zeq ZbT St.trim Out.st
theorem Ygy {call : Zaa} (raw : List Cus) : evQ C call (ann 44) 0 YdX ⟨Zke 0 [.d (d44 raw)], [], []⟩ = some (.norm ⟨[(0, .val (.d (d44 raw))), (2, .val (.d .nilm))], [], []⟩) := by
  unfold YdX B44 Zab Try.f44
  simp only [Option.getD_some, sq1, Zke]
  simp [-getElem?_pos, A44, Zaq]
theorem Yhu {call : Zaa} (raw : List Cus) : evQ C call (ann 44) 0 YdD ⟨[(0, .val (.d (d44 raw))), (2, .val (.d .nilm))], [], []⟩ = some (.norm ⟨[(0, .val (.d (d44 raw))), (2, .val (.d .nilm)), (3, .val (.ptr 1 0))], [], h44 []⟩) := by
  unfold YdD B44 Zab Try.f44 h44 ZrI
  simp only [Option.getD_some, sq1, sq2]
  simp [-getElem?_pos, A44, Zaq, m98, zz98, sz98, List.getElem?_append]
theorem YgH {call : Zaa} (raw : List Cus) : evQ C call (ann 44) 0 YeC ⟨[(0, .val (.d (d44 raw))), (2, .val (.d .nilm)), (3, .val (.ptr 1 0))], [], h44 []⟩ = some (.norm ⟨e44 raw 0, [], h44 []⟩) := by
  unfold YeC X44 B44 Zab Try.f44 h44 e44 d44
  simp only [Option.getD_some, sq1, sq2]
  simp [-getElem?_pos, A44, Zaq, Zy3]
end
theorem Zvu (a : List UInt8) (v : AV) : ∀ G : Nd, Zbd BEq.beq a G = none → ZvJ (.str a) v (ZrI G) = some (ZrI G ++ [(.str a, v)])
  | [], _ => rfl
  | (k, u) :: r, h => by
    simp only [Zbd] at h
    cases e : (a == k) with
    | true => rw [e] at h; cases h
    | false =>
      rw [e] at h
      have ih := Zvu a v r h
      simp only [ZrI, List.map_cons, List.cons_append, ZvJ, Ze0, e] at ih ⊢
      simp only [ih, Option.map_some]
theorem Zt8 (a : List UInt8) (v : AV) : ∀ G : Nd, Zbd BEq.beq a G = none → ZhF (.str a) (ZrI G ++ [(.str a, v)]) = some (some v)
  | [], _ => by simp [ZrI, ZhF, Ze0]
  | (k, u) :: r, h => by
    simp only [Zbd] at h
    cases e : (a == k) with
    | true => rw [e] at h; cases h
    | false =>
      rw [e] at h
      have ih := Zt8 a v r h
      simp only [ZrI, List.map_cons, List.cons_append, ZhF, Ze0, e] at ih ⊢
      exact ih
theorem Zpd {raw : List Cus} {i : Nat} {x : Cus} (h : raw[i]? = some x) : (raw.map Cus.enc)[i]? = some (.agg [.str x.name, .slc (x.val.map Val.enc)]) := by rw [List.getElem?_map, h]; rfl
theorem ZyR {raw : List Cus} {i : Nat} (h : i < raw.length) : idx (i : Int) raw.length = some i := YaI h
section
attribute [local simp] List.getElem?_cons_zero Option.bind_some YaF ZgN Zdw ZbJ Zh6 Zga Zeg Zoo Zh7 Zge Zit Ziu Zo8 Ziq ZcU Zb5 ZnB Za1 Zbi ZpA Zbb Zdv Zfq Zfw ZcI has opx opd opA opD XV.flat XV.copy oD oA Zae ins ZpY Zii St.put St.putOwn St.lose St.loseEnv unal ZnM Znz ZvL dUn Zjn ZaI ZcJ ZbH ZbA Za2 Zdt Zb8 ZcZ ZkK Zb2 AV.cells AV.cellOk AV.single DV.cellOk YaO Yba YaP DV.cells ZaY ZgY ZaU Zc0 ZaT Zbe ZnP Zba ZfO mapO AV.toD ZaL ZcC Zgn optD Zc2 Zbq Zh4 ZaC ZcD Zci ZaQ Zfs Zeq ZbT St.trim Out.st
theorem YgF {call : Zaa} (raw : List Cus) (i : Nat) (x : Cus) (hx : raw[i]? = some x) (hl : raw.length < 2 ^ 40) (G : Nd) (hG : Zbd BEq.beq x.name G = none) (h' : List AObj)
    (h34 : call 34 [.d (.slc (x.val.map Val.enc)), .mp 2] [.map (ZrI G ++ [(.str x.name, .mp 2)]), .var [.mp 0], .map []] = some (.d (.tup []), h')) :
    evQ C call (ann 44) 0 L44 ⟨e44 raw i, [], h44 G⟩ = some (.norm ⟨e44 raw (i + 1) ++ [(15, .val (.d (.bool true)))], [], h'⟩) := by
  have hlt : i < raw.length := (List.getElem?_eq_some_iff.1 hx).1
  have hd : decide ((i : Int) < (raw.length : Int)) = true := dlt hlt
  have hw : IntKind.i64.wrap ((i : Int) + 1) = (i : Int) + 1 := Zaz (by omega)
  have hg := Zpd hx
  have hi := ZyR hlt
  unfold L44 X44 B44 Zab Try.f44 e44 d44 h44
  simp only [Option.getD_some, sq1, sq2, inn]
  simp [-getElem?_pos, A44, Zaq, Zy3, hlt, hw, hg, hi, YhU, YhO, YhX, ZlI, ZrH, hz9, YdQ, ag9, Yfm, Yf5, Zvu _ _ G hG, Zt8 _ _ G hG, Zbz, z98, k98, YiL, Zkp, AV.toD, h34, St.trim, ZbT, List.getElem?_append, AV.cellOk, -List.getElem?_map]
theorem YfS {call : Zaa} (raw : List Cus) (G : Nd) : evQ C call (ann 44) 0 L44 ⟨e44 raw raw.length, [], h44 G⟩ = some (.exit 0 ⟨e44 raw raw.length ++ [(15, .val (.d (.bool false)))], [], h44 G⟩) := by
  unfold L44 X44 B44 Zab Try.f44 e44 d44 h44
  simp only [Option.getD_some, sq1, sq2, inn]
  simp [-getElem?_pos, A44, Zaq]
end
end Go.Tev.S1
namespace Go.Tev.S1
open Go.Abs Go.Proofs
def Zve (O : Bm) : List (DV × AV) := O.map fun p => (.str p.1, .d (.bool p.2))
def f44 (raw : List Cus) (i : Nat) : List (Nat × SV) := [(0, .val (.d (d44 raw))), (2, .val (.d .nilm)), (3, .val (.ptr 1 0)), (6, .val (.mp 2)), (31, .val (.d (d44 raw))), (32, .val (.d (.int .i64 raw.length))), (33, .val (.d (.int .i64 i)))]
def g44 (G : Nd) (O : Bm) : List AObj := [.map (ZrI G), .var [.mp 0], .map (Zve O)]
def b44 (x : Cus) : Nat × SV := (8, .box [.str x.name, .slc (x.val.map Val.enc)])
theorem Zon (a : List UInt8) (b : Bool) : ∀ O : Bm, a ∉ Zj6 O → ZvJ (.str a) (.d (.bool b)) (Zve O) = some (Zve (O ++ [(a, b)]))
  | [], _ => rfl
  | (k, c) :: r, h => by
    have ih := Zon a b r (fun hm => h (List.mem_cons_of_mem _ hm))
    have e : (a == k) = false := by
      rw [beq_eq_false_iff_ne]
      intro e
      exact h (by rw [e]; exact List.mem_cons_self)
    simp only [Zve, List.map_cons, List.cons_append, ZvJ, Ze0, e] at ih ⊢
    simp only [ih, Option.map_some]
section
attribute [local simp] List.getElem?_cons_zero Option.bind_some YaF ZgN Zdw ZbJ Zh6 Zga Zeg Zoo Zh7 Zge Zit Ziu Zo8 Ziq ZcU Zb5 ZnB Za1 Zbi ZpA Zbb Zdv Zfq Zfw ZcI has opx opd opA opD XV.flat XV.copy oD oA Zae ins ZpY Zii St.put St.putOwn St.lose St.loseEnv unal ZnM Znz ZvL dUn Zjn ZaI ZcJ ZbH ZbA Za2 Zdt Zb8 ZcZ ZkK Zb2 AV.cells AV.cellOk AV.single DV.cellOk YaO Yba YaP DV.cells ZaY ZgY ZaU Zc0 ZaT Zbe ZnP Zba ZfO mapO AV.toD ZaL ZcC Zgn optD Zc2 Zbq Zh4 ZaC ZcD Zci ZaQ Zfs Zeq ZbT St.trim Out.st
theorem YgR {call : Zaa} (raw : List Cus) (G : Nd) : evQ C call (ann 44) 0 YeA ⟨[(0, .val (.d (d44 raw))), (2, .val (.d .nilm)), (3, .val (.ptr 1 0))], [], h44 G⟩ = some (.norm ⟨[(0, .val (.d (d44 raw))), (2, .val (.d .nilm)), (3, .val (.ptr 1 0)), (6, .val (.mp 2))], [], g44 G []⟩) := by
  unfold YeA Y44 B44 Zab Try.f44 h44 g44 Zve
  simp only [Option.getD_some, sq1, sq2]
  simp [-getElem?_pos, A44, Zaq, Yf5]
theorem Yhg {call : Zaa} (raw : List Cus) (G : Nd) : evQ C call (ann 44) 0 Yeq ⟨[(0, .val (.d (d44 raw))), (2, .val (.d .nilm)), (3, .val (.ptr 1 0)), (6, .val (.mp 2))], [], g44 G []⟩ = some (.norm ⟨f44 raw 0, [], g44 G []⟩) := by
  unfold Yeq Z44 Y44 B44 Zab Try.f44 f44 d44
  simp only [Option.getD_some, sq1, sq2]
  simp [-getElem?_pos, A44, Zaq, Zy3]
theorem ZxI {call : Zaa} (raw : List Cus) (i : Nat) (h : List AObj) : evQ C call (ann 44) 0 Ztj ⟨f44 raw i, [], h⟩ = some (.norm ⟨f44 raw i ++ [(34, .val (.d (.bool (decide ((i : Int) < (raw.length : Int))))))], [], h⟩) := by
  unfold Ztj M44 Z44 Y44 B44 Zab Try.f44 f44
  simp only [Option.getD_some, sq1, sq2, inn]
  simp [-getElem?_pos, A44, Zaq]
theorem YeW {call : Zaa} (raw : List Cus) (i : Nat) (x : Cus) (hx : raw[i]? = some x) (h : List AObj) (v : SV) : evQ C call (ann 44) 0 ZtV ⟨f44 raw i ++ [(34, v)], [], h⟩ = some (.norm ⟨f44 raw i ++ [(34, v), b44 x], [], h⟩) := by
  have hlt : i < raw.length := (List.getElem?_eq_some_iff.1 hx).1
  have hg := Zpd hx
  have hi := ZyR hlt
  unfold ZtV K44 M44 Z44 Y44 B44 Zab Try.f44 f44 b44 d44
  simp only [Option.getD_some, sq1, sq2, inn]
  simp [-getElem?_pos, A44, Zaq, Zy3, hg, hi, YhU, YhO, YhX, -List.getElem?_map]
theorem Yeb {call : Zaa} (raw : List Cus) (i : Nat) (x : Cus) (G : Nd) (O : Bm) (v : SV) : evQ C call (ann 44) 0 Zur ⟨f44 raw i ++ [(34, v), b44 x], [], g44 G O⟩ = some (.norm ⟨f44 raw i ++ [(34, v), b44 x, (9, .val (.ptr 4 0))], [], g44 G O ++ [.map [], .var [.mp 3]]⟩) := by
  unfold Zur K44 M44 Z44 Y44 B44 Zab Try.f44 f44 b44 g44
  simp only [Option.getD_some, sq1, sq2, inn]
  simp [-getElem?_pos, A44, Zaq, Yf5, zz61, sz61, AV.cellOk]
theorem YdL {call : Zaa} (raw : List Cus) (i : Nat) (x : Cus) (G : Nd) (O : Bm) (v : SV) : evQ C call (ann 44) 0 Zup ⟨f44 raw i ++ [(34, v), b44 x, (9, .val (.ptr 4 0))], [], g44 G O ++ [.map [], .var [.mp 3]]⟩ = some (.norm ⟨f44 raw i ++ [(34, v), b44 x, (9, .val (.ptr 4 0)), (10, .val (.ptr 5 0))], [], g44 G O ++ [.map [], .var [.mp 3], .var [.d .nilf]]⟩) := by
  unfold Zup K44 M44 Z44 Y44 B44 Zab Try.f44 f44 b44 g44
  simp only [Option.getD_some, sq1, sq2, inn]
  simp [-getElem?_pos, A44, Zaq, zz99, sz99, AV.cellOk]
theorem YdV {call : Zaa} (raw : List Cus) (i : Nat) (x : Cus) (G : Nd) (O : Bm) (v : SV) : evQ C call (ann 44) 0 Zt6 ⟨f44 raw i ++ [(34, v), b44 x, (9, .val (.ptr 4 0)), (10, .val (.ptr 5 0))], [], g44 G O ++ [.map [], .var [.mp 3], .var [.d .nilf]]⟩ = some (.norm ⟨f44 raw i ++ [(34, v), b44 x, (9, .val (.ptr 4 0)), (10, .val (.ptr 5 0))], [], H68 G (Zve O) []⟩) := by
  unfold Zt6 K44 M44 Z44 Y44 B44 Zab Try.f44 f44 b44 g44 H68
  simp only [Option.getD_some, sq1, sq2, inn]
  simp [-getElem?_pos, A44, Zaq, sz99, AV.cellOk, ZzT, AV.toD, encSW]
theorem Yfk {call : Zaa} {all : List Oper} (raw : List Cus) (i : Nat) (x : Cus) (G : Nd) (O : Bm) (v : SV) : Zaq C call (ann 44) all ((opsL Zjx).take 3) ⟨f44 raw i ++ [(34, v), b44 x, (9, .val (.ptr 4 0)), (10, .val (.ptr 5 0))], [], H68 G (Zve O) []⟩ =
    some ⟨f44 raw i ++ [(34, v), b44 x, (9, .val (.ptr 4 0)), (10, .val (.ptr 5 0))], [(41, .a (.d (.str x.name))), (40, .sp 8 0), (39, .a (.fn 68 [.ptr 1 0, .ptr 4 0, .ptr 5 0]))], H68 G (Zve O) []⟩ := by
  unfold opsL Go.Abs.ops Zjx K44 M44 Z44 Y44 B44 Zab Try.f44 f44 b44 H68
  simp only [Option.getD_some, sq1, sq2, inn]
  simp [-getElem?_pos, A44, Zaq, ag99, ZlI, hz9, ag9]
theorem Yiu : (Go.Abs.ops Zjx).toList = (opsL Zjx).take 3 ++ [opZ (opsL Zjx)] := by kernel_rfl
theorem o44_15 : (opZ (opsL Zjx)).guard = none ∧ (opZ (opsL Zjx)).dst = some 42 ∧ (opZ (opsL Zjx)).op = .call { callee := .value (.tmp 39), args := #[.tmp 41], argTypes := #[9] } := by
  refine ⟨?_, ?_, ?_⟩ <;> kernel_rfl
theorem Yfj {call : Zaa} (raw : List Cus) (i : Nat) (x : Cus) (G : Nd) (O : Bm) (S : List (List UInt8)) (v : SV) (hO : x.name ∉ Zj6 O) : evQ C call (ann 44) 0 Zvd ⟨f44 raw i ++ [(34, v), b44 x, (9, .val (.ptr 4 0)), (10, .val (.ptr 5 0))], [], H68 G (Zve O) S⟩ =
    some (.norm ⟨f44 raw i ++ [(34, v), b44 x, (9, .val (.ptr 4 0)), (10, .val (.ptr 5 0))], [], H68 G (Zve (O ++ [(x.name, decide (x.name ∈ S))])) S⟩) := by
  unfold Zvd K44 M44 Z44 Y44 B44 Zab Try.f44 f44 b44 H68
  simp only [Option.getD_some, sq1, sq2, inn]
  by_cases hs : x.name ∈ S
  · simp [-getElem?_pos, A44, Zaq, ZlI, hz9, ag9, YhP, Zbz, z61, k61, Zhe, Zon _ _ O hO, AV.cellOk, hs]
  · simp [-getElem?_pos, A44, Zaq, ZlI, hz9, ag9, YhP, Zbz, z61, k61, Zhe, Zon _ _ O hO, AV.cellOk, hs]
theorem Ydg {call : Zaa} (raw : List Cus) (i : Nat) (hl : i + 1 < 2 ^ 63) (h : List AObj) (v : SV) : evQ C call (ann 44) 0 ZuX ⟨f44 raw i ++ [(34, v)], [], h⟩ = some (.norm ⟨f44 raw (i + 1) ++ [(34, v)], [], h⟩) := by
  have hw : IntKind.i64.wrap ((i : Int) + 1) = (i : Int) + 1 := Zaz hl
  unfold ZuX M44 Z44 Y44 B44 Zab Try.f44 f44
  simp only [Option.getD_some, sq1, sq2, inn]
  simp [-getElem?_pos, A44, Zaq, hw]
theorem Yc1 {call : Zaa} (raw : List Cus) (i : Nat) (h : List AObj) : evQ C call (ann 44) 0 ZxF ⟨f44 raw i, [], h⟩ = some (.norm ⟨[(0, .val (.d (d44 raw))), (2, .val (.mp 2)), (3, .val (.ptr 1 0)), (6, .val (.mp 2)), (31, .val (.d (d44 raw))), (32, .val (.d (.int .i64 raw.length))), (33, .val (.d (.int .i64 i)))], [], h⟩) := by
  unfold ZxF Y44 B44 Zab Try.f44 f44
  simp only [Option.getD_some, sq1, sq2]
  simp [-getElem?_pos, A44, Zaq]
end
end Go.Tev.S1
namespace Go.Abs
theorem sub_list {env1 e0 : List (Nat × SV)} {s : St} (h : ∀ p ∈ env1, Zae s.env p.1 = some p.2 ∧ (Zae e0 p.1).isSome = true) : Sub ⟨env1, [], s.heap⟩ (s.trim e0) := by
  refine ⟨fun k v hv => ?_, rfl, rfl⟩
  obtain ⟨h1, h2⟩ := h (k, v) (alook_mem0' hv)
  simp only [St.trim]
  rw [Go.Tev.alook_trimE _ _ _ h2]
  exact h1
where
  alook_mem0' {α : Type} : ∀ {l : List (Nat × α)} {t : Nat} {v : α}, Zae l t = some v → (t, v) ∈ l
    | [], t, v, h => by simp [Zae] at h
    | (k, u) :: l, t, v, h => by
      simp only [Zae] at h
      cases hb : Nat.beq k t with
      | true =>
        rw [hb] at h
        have := Nat.eq_of_beq_eq_true hb
        cases h
        subst this
        exact List.mem_cons_self
      | false =>
        rw [hb] at h
        exact List.mem_cons_of_mem _ (alook_mem0' h)
theorem Zyr {s : St} (h : s.tmp = []) : Sub s s := ⟨fun _ _ h => h, h, rfl⟩
end Go.Abs
namespace Go.Tev.S1
open Go.Abs Go.Proofs
open Classical in
noncomputable def Zbm (raw : List Cus) : Bm := raw.map fun x => (x.name, decide (Path (Zbk raw) x.name x.name))
theorem Zak : Zb9 C.P (Zac C K0) := Zob Zah mixed YhY
theorem Yft : okC (C.ann 44) L44 = true := by kernel_rfl
theorem Zm3 (l : List Val) (hl : Zal l ≤ B) (a b : AObj) : ∃ h', Zac C K0 34 [.d (.slc (l.map Val.enc)), .mp 2] [a, b, .map []] = some (.d (.tup []), h') ∧ h'[0]? = some a ∧ h'[1]? = some b ∧ h'[2]? = some (.map ((Zhh (ZhY [] l)).map fun p => (p.1, .d p.2))) := by
  obtain ⟨d, h', h1, h2, h3, h4, h5⟩ := Ycz (K := K0) Zmf [.l (X := X) 60 l] l [.slc (l.map Val.enc)] [2] [.d (.slc (l.map Val.enc)), .mp 2] ([], ()) [a, b, .map []] ((), (ZhY [] l, ())) (fun _ => .tup []) rfl rfl rfl (by simp) ⟨⟨_, rfl, rfl⟩, trivial⟩ (Yav hl) rfl
  cases h1
  obtain ⟨⟨ao, h6, h7⟩, _⟩ := h3
  have h7 : ao = .map ((ZhY [] l).map fun p => (DV.str p.1, AV.d (DV.bool p.2))) := h7
  subst h7
  refine ⟨h', h2, ?_, ?_, ?_⟩
  · rw [h4 0 (by simp) (by simp)]; rfl
  · rw [h4 1 (by simp) (by simp)]; rfl
  · rw [h6, Zhh, List.map_map]; rfl
theorem Zvy {a : List UInt8} : ∀ {G : Nd}, a ∉ G.map Prod.fst → Zbd BEq.beq a G = none
  | [], _ => rfl
  | (k, u) :: r, h => by
    simp only [List.map_cons, List.mem_cons, not_or] at h
    simp only [Zbd]
    have : (a == k) = false := by simpa using h.1
    rw [this]
    exact Zvy h.2
theorem Zo0 (raw : List Cus) : (Zbk raw).map Prod.fst = raw.map Cus.name := by simp [Zbk, List.map_map, Function.comp_def]
theorem ZsY {raw : List Cus} {i : Nat} {x : Cus} (hn : (raw.map Cus.name).Nodup) (hx : raw[i]? = some x) : x.name ∉ (raw.take i).map Cus.name := by
  intro hm
  obtain ⟨y, hy, he⟩ := List.mem_map.1 hm
  obtain ⟨j, hj, rfl⟩ := List.mem_iff_getElem.1 hy
  have hi : i < raw.length := (List.getElem?_eq_some_iff.1 hx).1
  have hxi : raw[i] = x := (List.getElem?_eq_some_iff.1 hx).2
  have hj1 : j < i := by simp at hj; omega
  have hj2 : j < raw.length := by omega
  rw [List.getElem_take] at he
  have := (List.getElem_inj hn (i := j) (j := i) (h₀ := by simpa using hj2) (h₁ := by simpa using hi)).1 (by simp [he, hxi])
  omega
theorem Zv8 {G : Nd} {S : List (List UInt8)} (hc : ∀ m ∈ S, ∀ k, Edge G m k → k ∈ S) {a b : List UInt8} (h : Path G a b) : a ∈ S → b ∈ S := by
  induction h with
  | one h => exact fun ha => hc _ ha _ h
  | step h t ih => exact fun ha => ih (hc _ ha _ h)
theorem YcF {G : Nd} {a b : List UInt8} {S : List (List UInt8)} (h : WalkPost G [] a S) : b ∈ S ↔ Path G a b := by
  have hc : ∀ m ∈ S, ∀ k, Edge G m k → k ∈ S := fun m hm k hk => (h.new m hm (by simp)).2 k hk
  constructor
  · intro hb; exact (h.new b hb (by simp)).1
  · intro hp
    cases hp with
    | one e => exact h.next _ e
    | step e t => exact Zv8 hc t (h.next _ e)
def Yhl (e : List (Nat × SV)) (h : List AObj) : Out → Prop := fun o => ∃ s, o = .norm s ∧ Sub ⟨e, [], h⟩ s
theorem ZiT {e : List (Nat × SV)} {h : List AObj} {c d : Code} {st : St} {fa : FA} {Q : Out → Prop} (h1 : Tri C fa c st (Yhl e h)) (h2 : Tri C fa d ⟨e, [], h⟩ Q) : Tri C fa (.seq c d) st Q :=
  ZbC h1 (fun s ⟨s', hs, hsub⟩ => by cases hs; exact ZhC hsub h2) (fun o ⟨s, hs, _⟩ hne => absurd hs (hne s))
def p44 (raw : List Cus) : List (Nat × SV) := [(0, .val (.d (d44 raw))), (2, .val (.d .nilm)), (3, .val (.ptr 1 0))]
theorem Yev (raw : List Cus) (hn : (raw.map Cus.name).Nodup) (hok : ZfI raw) : Tri C (C.ann 44) (.block 0 (.loop L44)) ⟨e44 raw 0, [], h44 []⟩ (Yhl (p44 raw) (h44 (Zbk raw))) := by
  have hB : B = 2 ^ 36 := rfl
  have hV : V = 2 ^ 24 := rfl
  have hlen : raw.length < 2 ^ 40 := by have := hok.1; omega
  refine ZbI ?_
  refine Zfg (fun m s => ∃ i, i ≤ raw.length ∧ m = raw.length - i ∧ s = ⟨e44 raw i, [], h44 (Zbk (raw.take i))⟩) (n := raw.length) ⟨0, Nat.zero_le _, rfl, rfl⟩ ?_
  rintro m s ⟨i, hi, rfl, rfl⟩
  rcases Nat.lt_or_ge i raw.length with hlt | hge
  · have hx := List.getElem?_eq_getElem hlt
    have hnew := ZsY hn hx
    have hG : Zbd BEq.beq raw[i].name (Zbk (raw.take i)) = none := Zvy (by rw [Zo0]; exact hnew)
    obtain ⟨h', g1, g2, g3, g4⟩ := Zm3 raw[i].val (Nat.le_trans (hok.2 raw[i] (List.getElem_mem hlt)) (by rw [hB, hV]; decide)) (.map (ZrI (Zbk (raw.take i)) ++ [(.str raw[i].name, .mp 2)])) (.var [.mp 0])
    refine Zyk (n := 2) (by simp [h44]) ?_
    refine Zbr (call := Zac C K0) Zah mixed Zak Yft (YgF raw i raw[i] hx hlen _ hG h' g1) ?_
    refine ⟨⟨e44 raw (i + 1), [], h44 (Zbk (raw.take (i + 1)))⟩, ⟨rfl, rfl, ?_, ?_⟩, ?_⟩
    · intro id o2 ho
      rcases id with _ | _ | id
      · refine ⟨_, g2, ?_⟩
        cases ho
        have hgr : ZrI (Zbk (raw.take (i + 1))) = ZrI (Zbk (raw.take i)) ++ [(.str raw[i].name, .d (.fmap (Zhh (ZhY [] raw[i].val))))] := by
          rw [ZaP hx]; simp only [Zbk, ZrI, List.map_append, List.map_cons, List.map_nil]
        rw [hgr]
        refine .map _ _ (by simp) fun j a b ha hb => ?_
        rcases Nat.lt_or_ge j (ZrI (Zbk (raw.take i))).length with hj | hj
        · rw [List.getElem?_append_left hj] at ha hb
          rw [ha] at hb
          cases hb
          refine ⟨rfl, ?_⟩
          have hm := List.mem_of_getElem? ha
          obtain ⟨p, _, rfl⟩ := List.mem_map.1 hm
          exact .d _
        · rw [List.getElem?_append_right hj] at ha hb
          have hj0 : j - (ZrI (Zbk (raw.take i))).length = 0 := by
            have := (List.getElem?_eq_some_iff.1 ha).1
            simp at this; omega
          rw [hj0] at ha hb
          cases ha
          cases hb
          exact ⟨rfl, .frz 2 _ (Nat.le_refl _) g4⟩
      · refine ⟨_, g3, ?_⟩
        cases ho
        refine .var _ _ rfl fun j a b ha hb => ?_
        rcases j with _ | j
        · cases ha; cases hb; exact .mp 0 (by decide)
        · simp at ha
      · simp [h44] at ho
    · intro k v2 hv
      refine ⟨v2, ZaJ hv, ?_⟩
      have hm := sub_list.alook_mem0' hv
      simp only [e44, List.mem_cons, List.not_mem_nil, or_false, Prod.mk.injEq] at hm
      rcases hm with ⟨_, rfl⟩ | ⟨_, rfl⟩ | ⟨_, rfl⟩ | ⟨_, rfl⟩ | ⟨_, rfl⟩ | ⟨_, rfl⟩
      · exact .val _ _ (.d _)
      · exact .val _ _ (.d _)
      · exact .val _ _ (.ptr 1 0 (by decide))
      · exact .val _ _ (.d _)
      · exact .val _ _ (.d _)
      · exact .val _ _ (.d _)
    · exact ⟨_, _, by omega, ⟨i + 1, hlt, rfl, rfl⟩, Zyr rfl⟩
  · have he : i = raw.length := by omega
    subst he
    refine Zbr (call := Zac C K0) Zah mixed Zak Yft (YfS raw _) ?_
    simp only [Za0]
    refine ⟨_, rfl, ?_⟩
    rw [List.take_length]
    refine sub_list (s := ⟨e44 raw raw.length ++ [(15, .val (.d (.bool false)))], [], h44 (Zbk raw)⟩) fun p hp => ?_
    simp only [p44, List.mem_cons, List.not_mem_nil, or_false] at hp
    rcases hp with rfl | rfl | rfl <;> exact ⟨rfl, rfl⟩
theorem YiG : okC (C.ann 44) YdX = true ∧ okC (C.ann 44) YdD = true ∧ okC (C.ann 44) YeC = true ∧ okC (C.ann 44) YeA = true ∧ okC (C.ann 44) Yeq = true ∧ okC (C.ann 44) Ztj = true ∧ okC (C.ann 44) ZtV = true ∧ okC (C.ann 44) Zur = true ∧
    okC (C.ann 44) Zup = true ∧ okC (C.ann 44) Zt6 = true ∧ okC (C.ann 44) Zvd = true ∧ okC (C.ann 44) ZuX = true ∧ okC (C.ann 44) ZxF = true := by
  refine ⟨?_, ?_, ?_, ?_, ?_, ?_, ?_, ?_, ?_, ?_, ?_, ?_, ?_⟩ <;> kernel_rfl
noncomputable abbrev LB44 : Code := .seq Ztj (.seq (.cond (.tmp 34) .skip (.exit 2)) (.seq (.block 3 (.seq ZtV (.seq Zur (.seq Zup (.seq Zt6 (.seq (.region 15 (Go.Abs.ops Zjx) false) Zvd)))))) ZuX))
theorem Zzr {raw : List Cus} {i : Nat} {x : Cus} (hx : raw[i]? = some x) : ∃ b : Bool, (Zbm raw).take (i + 1) = (Zbm raw).take i ++ [(x.name, b)] ∧ (b = true ↔ Path (Zbk raw) x.name x.name) := by
  classical
  refine ⟨decide (Path (Zbk raw) x.name x.name), ?_, by simp⟩
  have h : (Zbm raw)[i]? = some (x.name, decide (Path (Zbk raw) x.name x.name)) := by
    unfold Zbm
    rw [List.getElem?_map, hx]
    simp only [Option.map_some]
  exact ZaP h
theorem ZyF {raw : List Cus} {x : Cus} (hx : x ∈ raw) : (Zbd BEq.beq x.name (Zbk raw)).isSome = true := by
  unfold Zbk
  induction raw with
  | nil => cases hx
  | cons y r ih =>
    simp only [List.map_cons, Zbd]
    cases e : (x.name == y.name) with
    | true => rfl
    | false =>
      rcases List.mem_cons.1 hx with rfl | hx
      · simp at e
      · exact ih hx
theorem Yfi (raw : List Cus) (hn : (raw.map Cus.name).Nodup) (hok : ZfI raw) : Tri C (C.ann 44) (.block 2 (.loop LB44)) ⟨f44 raw 0, [], g44 (Zbk raw) []⟩ (Yhl (f44 raw raw.length) (g44 (Zbk raw) (Zbm raw))) := by
  have hB : B = 2 ^ 36 := rfl
  obtain ⟨_, _, _, _, _, k10, k11, k12, k13, k14, k16, k17, _⟩ := YiG
  have hlen : raw.length < 2 ^ 40 := by have := hok.1; omega
  refine ZbI ?_
  refine Zfg (fun m s => ∃ i, i ≤ raw.length ∧ m = raw.length - i ∧ s = ⟨f44 raw i, [], g44 (Zbk raw) ((Zbm raw).take i)⟩) (n := raw.length) ⟨0, Nat.zero_le _, rfl, rfl⟩ ?_
  rintro m s ⟨i, hi, rfl, rfl⟩
  rcases Nat.lt_or_ge i raw.length with hlt | hge
  · have hx := List.getElem?_eq_getElem hlt
    have hnew := ZsY hn hx
    have hO : raw[i].name ∉ Zj6 ((Zbm raw).take i) := by
      have : Zj6 ((Zbm raw).take i) = (raw.take i).map Cus.name := by
        unfold Zj6 Zbm
        rw [← List.map_take, List.map_map]; rfl
      rw [this]; exact hnew
    have hd : decide ((i : Int) < (raw.length : Int)) = true := dlt hlt
    refine Zyk (n := 3) (by simp [g44]) ?_
    refine ZaF (call := Zac C K0) Zah mixed Zak k10 (ZxI raw i _) ?_
    rw [hd]
    refine ZbC (Q1 := fun o => o = .norm ⟨f44 raw i ++ [(34, .val (.d (.bool true)))], [], g44 (Zbk raw) ((Zbm raw).take i)⟩) (Zjd (b := true) rfl (Zs7 rfl)) ?_ (fun o h1 h2 => absurd h1 (h2 _))
    rintro s hs
    cases hs
    refine ZbC (Q1 := fun o => ∃ S', WalkPost (Zbk raw) [] raw[i].name S' ∧ Yhl (f44 raw i ++ [(34, .val (.d (.bool true)))]) (H68 (Zbk raw) (Zve ((Zbm raw).take i ++ [(raw[i].name, decide (raw[i].name ∈ S'))])) S') o) ?_ ?_ (fun o ⟨S', _, s, hs, _⟩ h2 => absurd hs (h2 s))
    · refine ZbI ?_
      refine ZaF (call := Zac C K0) Zah mixed Zak k11 (YeW raw i _ hx _ _) ?_
      refine ZaF (call := Zac C K0) Zah mixed Zak k12 (Yeb raw i raw[i] _ _ _) ?_
      refine ZaF (call := Zac C K0) Zah mixed Zak k13 (YdL raw i raw[i] _ _ _) ?_
      refine ZaF (call := Zac C K0) Zah mixed Zak k14 (YdV raw i raw[i] _ _ _) ?_
      have hw := Zz9 ((Zbk raw).length + 1) (Zbk raw) (Zve ((Zbm raw).take i)) [] raw[i].name List.nodup_nil (fun m hm => by simp at hm) (ZyF (List.getElem_mem hlt)) (by simp)
      refine ZbC (Q1 := fun o => ∃ S', WalkPost (Zbk raw) [] raw[i].name S' ∧ o = .norm ⟨f44 raw i ++ [(34, .val (.d (.bool true))), b44 raw[i], (9, .val (.ptr 4 0)), (10, .val (.ptr 5 0))], [], H68 (Zbk raw) (Zve ((Zbm raw).take i)) S'⟩)
        (ZiG (call := Zac C K0) Zah Zak Yiu (Yfk raw i raw[i] _ _ _) o44_15.1
          (Zi7 Zah o44_15.2.2 rfl (fv := .fn 68 [.ptr 1 0, .ptr 4 0, .ptr 5 0]) (vs := [.d (.str raw[i].name)]) (caps := [.ptr 1 0, .ptr 4 0, .ptr 5 0]) rfl rfl rfl hw (fun r h' _ => by
            rw [o44_15.2.1]
            exact ⟨_, rfl⟩)) ?_) ?_ (fun o ⟨S', _, hs⟩ h2 => absurd hs (h2 _))
      · rintro s ⟨r, h', ⟨rfl, S2, hP, rfl⟩, hput⟩
        rw [o44_15.2.1] at hput
        cases hput
        exact ⟨S2, hP, rfl⟩
      · rintro s ⟨S', hP, hs⟩
        cases hs
        refine Zbr (call := Zac C K0) Zah mixed Zak k16 (Yfj raw i raw[i] _ _ S' _ hO) ?_
        simp only [Za0]
        refine ⟨S', hP, _, rfl, ?_⟩
        refine sub_list (s := ⟨f44 raw i ++ [(34, .val (.d (.bool true))), b44 raw[i], (9, .val (.ptr 4 0)), (10, .val (.ptr 5 0))], [], H68 (Zbk raw) (Zve ((Zbm raw).take i ++ [(raw[i].name, decide (raw[i].name ∈ S'))])) S'⟩) fun p hp => ?_
        simp only [f44, List.cons_append, List.nil_append, List.mem_cons, List.not_mem_nil, or_false] at hp
        rcases hp with rfl | rfl | rfl | rfl | rfl | rfl | rfl | rfl <;> exact ⟨rfl, rfl⟩
    · rintro s ⟨S', hP, s', hs, hsub⟩
      cases hs
      refine ZhC hsub ?_
      refine Zbr (call := Zac C K0) Zah mixed Zak k17 (Ydg raw i (by omega) _ _) ?_
      obtain ⟨b, hb1, hb2⟩ := Zzr hx
      have hbe : decide (raw[i].name ∈ S') = b := by
        rw [Bool.eq_iff_iff, decide_eq_true_iff, YcF hP, hb2]
      rw [hbe, ← hb1]
      refine ⟨⟨f44 raw (i + 1), [], g44 (Zbk raw) ((Zbm raw).take (i + 1))⟩, ⟨rfl, rfl, ?_, ?_⟩, ?_⟩
      · intro id o2 ho
        rcases id with _ | _ | _ | id
        · refine ⟨_, rfl, ?_⟩
          cases ho
          refine .map _ _ rfl fun j a b ha hb => ?_
          rw [ha] at hb
          cases hb
          have hm := List.mem_of_getElem? ha
          obtain ⟨p, _, rfl⟩ := List.mem_map.1 hm
          exact ⟨rfl, .d _⟩
        · refine ⟨_, rfl, ?_⟩
          cases ho
          refine .var _ _ rfl fun j a b ha hb => ?_
          rcases j with _ | j
          · cases ha; cases hb; exact .mp 0 (by decide)
          · simp at ha
        · refine ⟨_, rfl, ?_⟩
          cases ho
          refine .map _ _ rfl fun j a b ha hb => ?_
          rw [ha] at hb
          cases hb
          have hm := List.mem_of_getElem? ha
          obtain ⟨p, _, rfl⟩ := List.mem_map.1 hm
          exact ⟨rfl, .d _⟩
        · simp [g44] at ho
      · intro k v2 hv
        refine ⟨v2, ZaJ hv, ?_⟩
        have hm := sub_list.alook_mem0' hv
        simp only [f44, List.mem_cons, List.not_mem_nil, or_false, Prod.mk.injEq] at hm
        rcases hm with ⟨_, rfl⟩ | ⟨_, rfl⟩ | ⟨_, rfl⟩ | ⟨_, rfl⟩ | ⟨_, rfl⟩ | ⟨_, rfl⟩ | ⟨_, rfl⟩
        · exact .val _ _ (.d _)
        · exact .val _ _ (.d _)
        · exact .val _ _ (.ptr 1 0 (by decide))
        · exact .val _ _ (.mp 2 (by decide))
        · exact .val _ _ (.d _)
        · exact .val _ _ (.d _)
        · exact .val _ _ (.d _)
      · exact ⟨_, _, by omega, ⟨i + 1, hlt, rfl, rfl⟩, Zyr rfl⟩
  · have he : i = raw.length := by omega
    subst he
    refine ZaF (call := Zac C K0) Zah mixed Zak k10 (ZxI raw _ _) ?_
    rw [ZiB]
    refine ZbC (Q1 := fun o => o = .exit 2 ⟨f44 raw raw.length ++ [(34, .val (.d (.bool false)))], [], g44 (Zbk raw) ((Zbm raw).take raw.length)⟩) (Zjd (b := false) rfl (Zx4 rfl)) (fun s hs => by cases hs) ?_
    rintro o rfl _
    simp only [Za0]
    refine ⟨_, rfl, ?_⟩
    rw [List.take_of_length_le (by simp [Zbm])]
    refine sub_list (s := ⟨f44 raw raw.length ++ [(34, .val (.d (.bool false)))], [], g44 (Zbk raw) (Zbm raw)⟩) fun p hp => ?_
    simp only [f44, List.mem_cons, List.not_mem_nil, or_false] at hp
    rcases hp with rfl | rfl | rfl | rfl | rfl | rfl | rfl <;> exact ⟨rfl, rfl⟩
theorem ZwP (raw : List Cus) (hn : (raw.map Cus.name).Nodup) (hok : ZfI raw) : Has Try.prog 44 [.d (d44 raw)] [] (.d (.fmap (Zhh (Zbm raw)))) [] := by
  obtain ⟨k0, k1, k2, k8, k9, _, _, _, _, _, _, _, k18⟩ := YiG
  have h : HasN Try.prog 44 [.d (d44 raw)] [] (fun r h' => r = .mp 2 ∧ h' = g44 (Zbk raw) (Zbm raw)) := by
    refine Zgh (C := C) (f := 44) (fn := Try.f44) Try.func44 YhA (by kernel_rfl) ?_
    refine ZaF (call := Zac C K0) Zah mixed Zak k0 (Ygy raw) ?_
    refine ZaF (call := Zac C K0) Zah mixed Zak k1 (Yhu raw) ?_
    refine ZiT (ZaF (call := Zac C K0) Zah mixed Zak k2 (YgH raw) (Yev raw hn hok)) ?_
    refine ZaF (call := Zac C K0) Zah mixed Zak k8 (YgR raw _) ?_
    refine ZiT (ZaF (call := Zac C K0) Zah mixed Zak k9 (Yhg raw _) (Yfi raw hn hok)) ?_
    refine ZaF (call := Zac C K0) Zah mixed Zak k18 (Yc1 raw _ _) ?_
    refine Zbr (call := Zac C K0) (n := 0) Zah mixed Zak rfl rfl ?_
    exact ⟨[.mp 2], rfl, rfl, rfl⟩
  refine HasN.frozen (ds := [d44 raw]) h ?_
  rintro r h' ⟨rfl, rfl⟩
  refine ⟨2, ?_⟩
  have : ∀ O : Bm, mapO (fun e : DV × AV => (Abs.freeze (g44 (Zbk raw) (Zbm raw)) 1 e.2).map fun v => (e.1, v)) (Zve O) = some (Zhh O) := by
    intro O
    induction O with
    | nil => rfl
    | cons p O ih =>
      simp only [Zve, List.map_cons, mapO, Zhh] at ih ⊢
      simp only [Abs.freeze, Option.map_some, ih]
  simp only [Abs.freeze]
  show (match (g44 (Zbk raw) (Zbm raw))[2]? with
    | some (.map es) => (mapO (fun e : DV × AV => (Abs.freeze (g44 (Zbk raw) (Zbm raw)) 1 e.2).map fun v => (e.1, v)) es).map DV.fmap
    | _ => none) = _
  show (mapO (fun e : DV × AV => (Abs.freeze (g44 (Zbk raw) (Zbm raw)) 1 e.2).map fun v => (e.1, v)) (Zve (Zbm raw))).map DV.fmap = _
  rw [this]; rfl
end Go.Tev.S1
namespace Go.Abs
theorem A40 : (ann 40).nt = 20 ∧ (ann 40).keep = [0, 2, 3, 5, 7, 8, 9, 10] ∧ (ann 40).take = [] ∧ (ann 40).heapy = [] ∧ (ann 40).frz = [] ∧ (ann 40).lend = [] := ⟨rfl, rfl, rfl, rfl, rfl, rfl⟩
section
variable {C : Ctx} {call : Zaa} {fa : FA} {st st1 s : St} {x y : Code} {Q : Out → Prop}
theorem ZjI (hn : ZbD C.P) (hK : Zb9 C.P call) {id : Nat} {pre post : List Oper} {o : Oper} {ops : Array Oper} (hops : ops.toList = pre ++ o :: post) (he : Zaq C call fa (pre ++ o :: post) pre st = some st1) (hg : o.guard = none) {Q2 : St → Prop}
    (ho : Ygf C fa o st1 Q2) (hq : ∀ s, Q2 s → ∃ s2, Zaq C call fa (pre ++ o :: post) post s = some s2 ∧ Q (.norm { s2 with tmp := [] })) : Tri C fa (.region id ops false) st Q := by
  intro own a w S
  refine wp_region_list ?_
  rw [hops]
  have hall : (pre ++ o :: post).toArray = ops := by rw [← hops]
  have key : wpList C.P (pre ++ o :: post).toArray (fun e a' w' => ∃ out, Q out ∧ OutRel C.P fa own st.heap w out e a' w') (pre ++ o :: post) a w := by
    refine Zks hn hK pre st own a w he S fun a1 w1 own1 S1 F1 E1 => ?_
    simp only [wpList]
    have hw : Region.wanted o (yielded (pre ++ o :: post).toArray a1.tmps) = true := by
      unfold Region.wanted
      rw [hg]
    rw [if_pos hw]
    left
    refine ho own1 a1 w1 S1 _ _ fun a2 w2 s2 own2 hq2 S2 F2 E2 => ?_
    obtain ⟨s3, e3, hq3⟩ := hq s2 hq2
    exact ZeX hn hK post s2 own2 a2 w2 e3 S2 fun a3 w3 own3 S3 F3 E3 => ⟨_, hq3, rfl, own3, S3.dropTmp, (F1.trans F2).trans F3, (E1.trans E2).trans E3⟩
  rw [hall] at key
  exact key
end
end Go.Abs
namespace Go.Tev.S1
open Go.Abs Go.Proofs
abbrev Mv := List (List UInt8 × List Val)
def ZjC (M : Mv) : List (DV × AV) := M.map fun p => (.str p.1, .d (.slc (p.2.map Val.enc)))
def Zrb (raw : List Cus) : Mv := raw.map fun x => (x.name, x.val)
theorem Zin (a : List UInt8) (v : List Val) : ∀ M : Mv, a ∉ M.map Prod.fst → ZvJ (.str a) (.d (.slc (v.map Val.enc))) (ZjC M) = some (ZjC (M ++ [(a, v)]))
  | [], _ => rfl
  | (k, c) :: r, h => by
    have ih := Zin a v r (fun hm => h (List.mem_cons_of_mem _ hm))
    have e : (a == k) = false := by
      rw [beq_eq_false_iff_ne]
      intro e
      exact h (by rw [e]; exact List.mem_cons_self)
    simp only [ZjC, List.map_cons, List.cons_append, ZvJ, Ze0, e] at ih ⊢
    simp only [ih, Option.map_some]
noncomputable abbrev B40 : Code := Zab Try.f40
noncomputable abbrev X40 : Code := sq1 (sq2 (sq2 B40))
noncomputable abbrev L40 : Code := inn (inn (sq2 X40))
noncomputable abbrev Ydn : Code := sq1 B40
noncomputable abbrev YeN : Code := sq1 (sq2 B40)
noncomputable abbrev YdE : Code := sq1 X40
noncomputable abbrev YdO : Code := sq1 (sq2 (sq2 (sq2 B40)))
theorem YgV : Try.f40.body = some (.seq Ydn (.seq YeN (.seq (.seq YdE (.block 0 (.loop L40))) (.seq YdO .ret)))) := by kernel_rfl
theorem Yi6 : okC (C.ann 40) Ydn = true ∧ okC (C.ann 40) YeN = true ∧ okC (C.ann 40) YdE = true ∧ okC (C.ann 40) L40 = true ∧ okC (C.ann 40) YdO = true := by
  refine ⟨?_, ?_, ?_, ?_, ?_⟩ <;> kernel_rfl
theorem m70 : C.isMap 70 = true := by kernel_rfl
theorem z70 : C.mapZero 70 = some (.slc []) := by kernel_rfl
theorem k70 (a : List UInt8) : C.keyOk 70 (.str a) = true := by
  have h : C.P.underlying 70 = some (.map 9 33) := by kernel_rfl
  have h2 : C.P.underlying 9 = some .string := by kernel_rfl
  simp only [Ctx.keyOk, h, h2]
def e40 (raw : List Cus) (i : Nat) : List (Nat × SV) := [(0, .val (.d (d44 raw))), (2, .val (.d .nilm)), (3, .val (.mp 1)), (7, .val (.d (d44 raw))), (8, .val (.d (.int .i64 raw.length))), (9, .val (.d (.int .i64 i)))]
section
attribute [local simp] List.getElem?_cons_zero Option.bind_some YaF ZgN Zdw ZbJ Zh6 Zga Zeg Zoo Zh7 Zge Zit Ziu Zo8 Ziq ZcU Zb5 ZnB Za1 Zbi ZpA Zbb Zdv Zfq Zfw ZcI has opx opd opA opD XV.flat XV.copy oD oA Zae ins ZpY Zii St.put St.putOwn St.lose St.loseEnv unal ZnM Znz ZvL dUn Zjn ZaI ZcJ ZbH ZbA Za2 Zdt Zb8 ZcZ ZkK Zb2 AV.cells AV.cellOk AV.single DV.cellOk YaO Yba YaP DV.cells ZaY ZgY ZaU Zc0 ZaT Zbe ZnP Zba ZfO mapO AV.toD ZaL ZcC Zgn optD Zc2 Zbq Zh4 ZaC ZcD Zci ZaQ Zfs Zeq ZbT St.trim Out.st
theorem Ygt {call : Zaa} (raw : List Cus) (o : AObj) : evQ C call (ann 40) 0 Ydn ⟨Zke 0 [.d (d44 raw)], [], [o]⟩ = some (.norm ⟨[(0, .val (.d (d44 raw))), (2, .val (.d .nilm))], [], [o]⟩) := by
  unfold Ydn B40 Zab Try.f40
  simp only [Option.getD_some, sq1, Zke]
  simp [-getElem?_pos, A40, Zaq]
theorem Yhp {call : Zaa} (raw : List Cus) (o : AObj) : evQ C call (ann 40) 0 YeN ⟨[(0, .val (.d (d44 raw))), (2, .val (.d .nilm))], [], [o]⟩ = some (.norm ⟨[(0, .val (.d (d44 raw))), (2, .val (.d .nilm)), (3, .val (.mp 1))], [], [o, .map []]⟩) := by
  unfold YeN B40 Zab Try.f40
  simp only [Option.getD_some, sq1, sq2]
  simp [-getElem?_pos, A40, Zaq, m70]
theorem YgJ {call : Zaa} (raw : List Cus) (o : AObj) : evQ C call (ann 40) 0 YdE ⟨[(0, .val (.d (d44 raw))), (2, .val (.d .nilm)), (3, .val (.mp 1))], [], [o, .map []]⟩ = some (.norm ⟨e40 raw 0, [], [o, .map (ZjC [])]⟩) := by
  unfold YdE X40 B40 Zab Try.f40 e40 d44 ZjC
  simp only [Option.getD_some, sq1, sq2]
  simp [-getElem?_pos, A40, Zaq, Zy3]
theorem YgI {call : Zaa} (raw : List Cus) (i : Nat) (x : Cus) (hx : raw[i]? = some x) (hl : raw.length < 2 ^ 40) (M : Mv) (hM : x.name ∉ M.map Prod.fst) (o : AObj) :
    evQ C call (ann 40) 0 L40 ⟨e40 raw i, [], [o, .map (ZjC M)]⟩ = some (.norm ⟨e40 raw (i + 1) ++ [(10, .val (.d (.bool true)))], [], [o, .map (ZjC (M ++ [(x.name, x.val)]))]⟩) := by
  have hlt : i < raw.length := (List.getElem?_eq_some_iff.1 hx).1
  have hw : IntKind.i64.wrap ((i : Int) + 1) = (i : Int) + 1 := Zaz (by omega)
  have hg := Zpd hx
  have hi := ZyR hlt
  unfold L40 X40 B40 Zab Try.f40 e40 d44
  simp only [Option.getD_some, sq1, sq2, inn]
  simp [-getElem?_pos, A40, Zaq, Zy3, hlt, hw, hg, hi, YhU, YhO, YhX, ZlI, ZrH, hz9, YdQ, ag9, Yfm, z70, k70, Zin _ _ M hM, St.trim, ZbT, AV.cellOk, -List.getElem?_map]
theorem YhL {call : Zaa} (raw : List Cus) (h : List AObj) : evQ C call (ann 40) 0 L40 ⟨e40 raw raw.length, [], h⟩ = some (.exit 0 ⟨e40 raw raw.length ++ [(10, .val (.d (.bool false)))], [], h⟩) := by
  unfold L40 X40 B40 Zab Try.f40 e40 d44
  simp only [Option.getD_some, sq1, sq2, inn]
  simp [-getElem?_pos, A40, Zaq]
theorem YhB {call : Zaa} (raw : List Cus) (h : List AObj) (i : Nat) : evQ C call (ann 40) 0 YdO ⟨e40 raw i, [], h⟩ = some (.norm ⟨[(0, .val (.d (d44 raw))), (2, .val (.mp 1)), (3, .val (.mp 1)), (7, .val (.d (d44 raw))), (8, .val (.d (.int .i64 raw.length))), (9, .val (.d (.int .i64 i)))], [], h⟩) := by
  unfold YdO B40 Zab Try.f40 e40
  simp only [Option.getD_some, sq1, sq2]
  simp [-getElem?_pos, A40, Zaq]
end
theorem Zl8 (raw : List Cus) : (Zrb raw).map Prod.fst = raw.map Cus.name := by simp [Zrb, List.map_map, Function.comp_def]
theorem Zzd (raw : List Cus) (hn : (raw.map Cus.name).Nodup) (hl : raw.length < 2 ^ 40) (o : AObj) : HasN Try.prog 40 [.d (d44 raw)] [o] (fun r h' => r = .mp 1 ∧ h' = [o, .map (ZjC (Zrb raw))]) := by
  obtain ⟨k0, k1, k2, kL, k7⟩ := Yi6
  refine Zgh (C := C) (f := 40) (fn := Try.f40) Try.func40 YgV (by kernel_rfl) ?_
  refine ZaF (call := Zac C K0) Zah mixed Zak k0 (Ygt raw o) ?_
  refine ZaF (call := Zac C K0) Zah mixed Zak k1 (Yhp raw o) ?_
  refine ZiT (e := e40 raw raw.length) (h := [o, .map (ZjC (Zrb raw))]) (ZaF (call := Zac C K0) Zah mixed Zak k2 (YgJ raw o) (ZbI (Zfg (fun m s => ∃ i, i ≤ raw.length ∧ m = raw.length - i ∧ s = ⟨e40 raw i, [], [o, .map (ZjC ((Zrb raw).take i))]⟩) (n := raw.length) ⟨0, Nat.zero_le _, rfl, rfl⟩ ?_))) ?_
  · rintro m s ⟨i, hi, rfl, rfl⟩
    rcases Nat.lt_or_ge i raw.length with hlt | hge
    · have hx := List.getElem?_eq_getElem hlt
      have hM : raw[i].name ∉ ((Zrb raw).take i).map Prod.fst := by
        rw [List.map_take, Zl8, ← List.map_take]
        exact ZsY hn hx
      refine Zbr (call := Zac C K0) Zah mixed Zak kL (YgI raw i _ hx hl _ hM o) ?_
      refine ⟨raw.length - (i + 1), ⟨e40 raw (i + 1), [], _⟩, by omega, ⟨i + 1, hlt, rfl, rfl⟩, fun k v hv => ?_, rfl, ?_⟩
      · exact ZaJ hv
      · have : (Zrb raw)[i]? = some (raw[i].name, raw[i].val) := by unfold Zrb; rw [List.getElem?_map, hx]; rfl
        rw [ZaP this]
    · have he : i = raw.length := by omega
      subst he
      refine Zbr (call := Zac C K0) Zah mixed Zak kL (YhL raw _) ?_
      simp only [Za0]
      refine ⟨_, rfl, ?_⟩
      rw [List.take_of_length_le (by simp [Zrb])]
      refine sub_list (s := ⟨e40 raw raw.length ++ [(10, .val (.d (.bool false)))], [], [o, .map (ZjC (Zrb raw))]⟩) fun p hp => ?_
      simp only [e40, List.mem_cons, List.not_mem_nil, or_false] at hp
      rcases hp with rfl | rfl | rfl | rfl | rfl | rfl <;> exact ⟨rfl, rfl⟩
  · refine ZaF (call := Zac C K0) Zah mixed Zak k7 (YhB raw _ _) ?_
    refine Zbr (call := Zac C K0) (n := 0) Zah mixed Zak rfl rfl ?_
    exact ⟨[.mp 1], rfl, rfl, rfl⟩
end Go.Tev.S1
namespace Go.Tev.S1
open Go.Abs Go.Proofs
noncomputable abbrev B25 : Code := Zab Try.f25
noncomputable abbrev S25 : Code := inn (sq2 B25)
noncomputable abbrev W25 : Code := sq1 (sq2 (sq2 (sq2 S25)))
noncomputable abbrev YcG : Code := inn (inn (sq2 W25))
noncomputable abbrev YdJ : Code := inn (sq2 (sq2 YcG))
noncomputable abbrev T25 : Code := sq2 (sq2 (sq2 (sq2 (sq2 S25))))
noncomputable abbrev U25 : Code := sq1 T25
noncomputable abbrev Zh2 : Code := inn (inn (sq2 U25))
noncomputable abbrev Zjl : Code := inn (sq1 (sq2 (sq2 Zh2)))
noncomputable abbrev Zj1 : Code := sq2 (sq2 Zjl)
noncomputable abbrev G25 : Code := sq1 (sq2 (sq2 (sq2 Zj1)))
noncomputable abbrev YbX : Code := inn (inn (sq2 G25))
noncomputable abbrev Ydq : Code := inn (sq2 (sq2 YbX))
noncomputable abbrev YcC : Code := sq2 (sq2 (sq2 (sq2 Zj1)))
noncomputable abbrev YeM : Code := sq2 YcC
noncomputable abbrev N25 : Code := sq1 (sq2 (sq2 T25))
noncomputable abbrev ZsG : Code := inn (inn (sq2 N25))
noncomputable abbrev Ydf : Code := sq1 B25
noncomputable abbrev Znp : Code := sq1 S25
noncomputable abbrev Yej : Code := sq1 (sq2 S25)
noncomputable abbrev Znw : Code := sq1 (sq2 (sq2 S25))
noncomputable abbrev ZsO : Code := sq1 W25
noncomputable abbrev Zsq : Code := sq1 YcG
noncomputable abbrev Zsp : Code := sq1 YdJ
noncomputable abbrev YdK : Code := sq2 YdJ
noncomputable abbrev Zz1 : Code := sq1 U25
noncomputable abbrev Zya : Code := sq1 Zh2
noncomputable abbrev ZxE : Code := sq2 (sq2 (sq2 Zh2))
noncomputable abbrev ZxG : Code := sq1 Zjl
noncomputable abbrev ZqS : Code := sq1 (sq2 Zjl)
noncomputable abbrev Zyf : Code := sq1 Zj1
noncomputable abbrev ZxL : Code := sq1 (sq2 Zj1)
noncomputable abbrev Zx5 : Code := sq1 (sq2 (sq2 Zj1))
noncomputable abbrev ZkE : Code := sq1 G25
noncomputable abbrev Zlc : Code := sq1 YbX
noncomputable abbrev ZkI : Code := sq1 Ydq
noncomputable abbrev Zx2 : Code := sq2 Ydq
noncomputable abbrev ZtF : Code := sq1 YcC
noncomputable abbrev Zyi : Code := sq1 YeM
noncomputable abbrev Zxb : Code := sq1 (sq2 YeM)
noncomputable abbrev ZxP : Code := sq1 (sq2 T25)
noncomputable abbrev ZtA : Code := sq1 N25
noncomputable abbrev ZxX : Code := sq1 (sq2 (sq2 (sq2 T25)))
theorem Ygb : Try.f25.body = some (.seq Ydf (.scope S25)) := by kernel_rfl
noncomputable abbrev YfB : Code := .seq (.region 4 (Go.Abs.ops ZsO) false) (.block 0 (.loop (.seq (.region 5 (Go.Abs.ops Zsq) false) (.seq (.cond (.tmp 32) .skip (.exit 0)) (.block 1 (.seq (.region 6 (Go.Abs.ops Zsp) false) YdK))))))
noncomputable abbrev Yfo : Code := .seq (.region 17 (Go.Abs.ops ZkE) false) (.block 4 (.loop (.seq (.region 18 (Go.Abs.ops Zlc) false) (.seq (.cond (.tmp 62) .skip (.exit 4)) (.block 5 (.seq (.region 19 (Go.Abs.ops ZkI) false) Zx2))))))
noncomputable abbrev BD25 : Code := .seq ZxG (.seq ZqS (.seq Zyf (.seq ZxL (.seq Zx5 (.seq Yfo (.seq ZtF (.seq Zyi (.seq Zxb (.goto 0)))))))))
noncomputable abbrev LP25 : Code := .block 2 (.loop (.seq Zya (.seq (.cond (.tmp 42) .skip (.exit 2)) (.seq (.block 3 BD25) ZxE))))
noncomputable abbrev YiZ : Code := .seq (.seq Zz1 LP25) (.seq ZxP (.seq (.seq ZtA (.block 6 (.loop ZsG))) (.seq ZxX .ret)))
theorem Yec : S25 = .seq (.region 1 (Go.Abs.ops Znp) false) (.seq Yej (.seq (.region 3 (Go.Abs.ops Znw) false) (.seq YfB (.seq (.label 0) YiZ)))) := by kernel_rfl
theorem Zw8 : okC (C.ann 25) Ydf = true ∧ okC (C.ann 25) Yej = true ∧ okC (C.ann 25) YdK = true ∧ okC (C.ann 25) Zz1 = true ∧ okC (C.ann 25) Zya = true ∧ okC (C.ann 25) ZxG = true ∧ okC (C.ann 25) ZqS = true ∧ okC (C.ann 25) Zyf = true ∧ okC (C.ann 25) ZxL = true := by
  refine ⟨?_, ?_, ?_, ?_, ?_, ?_, ?_, ?_, ?_⟩ <;> kernel_rfl
theorem ZuF : okC (C.ann 25) Zx5 = true ∧ okC (C.ann 25) Zx2 = true ∧ okC (C.ann 25) ZtF = true ∧ okC (C.ann 25) Zyi = true ∧ okC (C.ann 25) Zxb = true ∧ okC (C.ann 25) ZxE = true ∧ okC (C.ann 25) ZxP = true ∧ okC (C.ann 25) ZtA = true ∧ okC (C.ann 25) ZsG = true ∧ okC (C.ann 25) ZxX = true := by
  refine ⟨?_, ?_, ?_, ?_, ?_, ?_, ?_, ?_, ?_, ?_⟩ <;> kernel_rfl
def E25 (raw : List Cus) (D : Bm) : List (Nat × SV) := [(0, .val (.d (d44 raw))), (2, .val (.d (.slc []))), (3, .val (.d (.fmap (Zhh D)))), (4, .val (.mp 0)), (5, .val (.mp 1))]
def H25 (Sv Op : Mv) : List AObj := [.map (ZjC Sv), .map (ZjC Op)]
theorem ZeV (a : List UInt8) : ∀ M : Mv, ZhF (.str a) (ZjC M) = some ((Zbd BEq.beq a M).map fun v => .d (.slc (v.map Val.enc)))
  | [] => rfl
  | (k, u) :: r => by
    have ih := ZeV a r
    simp only [ZjC, List.map_cons, ZhF, Ze0, Zbd] at ih ⊢
    cases (a == k)
    · simpa using ih
    · rfl
def rmv (a : List UInt8) (M : Mv) : Mv := M.filter fun p => !(a == p.1)
theorem Zo4 (a : List UInt8) : ∀ M : Mv, (M.map Prod.fst).Nodup → YcO (.str a) (ZjC M) = some (ZjC (rmv a M))
  | [], _ => rfl
  | (k, u) :: r, h => by
    rw [List.map_cons, List.nodup_cons] at h
    have ih := Zo4 a r h.2
    simp only [ZjC, List.map_cons, YcO, Ze0, rmv] at ih ⊢
    cases e : (a == k) with
    | false =>
      simp only [ih, Option.map_some, List.filter_cons, e, Bool.not_false, if_true, List.map_cons]
    | true =>
      rw [beq_iff_eq] at e
      subst e
      have : r.filter (fun p => !(a == p.1)) = r := by
        rw [List.filter_eq_self]
        intro p hp
        have : a ≠ p.1 := fun e => h.1 (by rw [e]; exact List.mem_map.2 ⟨p, hp, rfl⟩)
        simpa using this
      simp only [List.filter_cons, beq_self_eq_true, Bool.not_true, Bool.false_eq_true, if_false, this]
section
attribute [local simp] List.getElem?_cons_zero Option.bind_some YaF ZgN Zdw ZbJ Zh6 Zga Zeg Zoo Zh7 Zge Zit Ziu Zo8 Ziq ZcU Zb5 ZnB Za1 Zbi ZpA Zbb Zdv Zfq Zfw ZcI has opx opd opA opD XV.flat XV.copy oD oA Zae ins ZpY Zii St.put St.putOwn St.lose St.loseEnv unal ZnM Znz ZvL dUn Zjn ZaI ZcJ ZbH ZbA Za2 Zdt Zb8 ZcZ ZkK Zb2 AV.cells AV.cellOk AV.single DV.cellOk YaO Yba YaP DV.cells ZaY ZgY ZaU Zc0 ZaT Zbe ZnP Zba ZfO mapO AV.toD ZaL ZcC Zgn optD Zc2 Zbq Zh4 ZaC ZcD Zci ZaQ Zfs Zeq ZbT St.trim Out.st
theorem Ygh {call : Zaa} (raw : List Cus) : evQ C call (ann 25) 0 Ydf ⟨Zke 0 [.d (d44 raw)], [], []⟩ = some (.norm ⟨[(0, .val (.d (d44 raw))), (2, .val (.d (.slc [])))], [], []⟩) := by
  unfold Ydf B25 Zab Try.f25
  simp only [Option.getD_some, sq1, Zke]
  simp [-getElem?_pos, A25, Zaq]
theorem Yjd : (Go.Abs.ops Znp).toList = (opsL Znp).take 1 ++ (opsL Znp).getD 1 (op0 []) :: (opsL Znp).drop 2 := by kernel_rfl
theorem o25_1 : ((opsL Znp).getD 1 (op0 [])).guard = none ∧ ((opsL Znp).getD 1 (op0 [])).dst = some 25 ∧ ((opsL Znp).getD 1 (op0 [])).op = .call { callee := .value (.func 44), args := #[.tmp 24], argTypes := #[22] } := by
  refine ⟨?_, ?_, ?_⟩ <;> kernel_rfl
theorem Yjj : (Go.Abs.ops Znw).toList = (opsL Znw).take 1 ++ (opsL Znw).getD 1 (op0 []) :: (opsL Znw).drop 2 := by kernel_rfl
theorem o25_3 : ((opsL Znw).getD 1 (op0 [])).guard = none ∧ ((opsL Znw).getD 1 (op0 [])).dst = some 28 ∧ ((opsL Znw).getD 1 (op0 [])).op = .call { callee := .value (.func 40), args := #[.tmp 27], argTypes := #[22] } := by
  refine ⟨?_, ?_, ?_⟩ <;> kernel_rfl
theorem YhG {call : Zaa} {all : List Oper} (raw : List Cus) : Zaq C call (ann 25) all ((opsL Znp).take 1) ⟨[(0, .val (.d (d44 raw))), (2, .val (.d (.slc [])))], [], []⟩ = some ⟨[(0, .val (.d (d44 raw))), (2, .val (.d (.slc [])))], [(24, .a (.d (d44 raw)))], []⟩ := by
  unfold opsL Go.Abs.ops Znp S25 B25 Zab Try.f25
  simp only [Option.getD_some, sq1, sq2, inn]
  simp [-getElem?_pos, A25, Zaq]
theorem Ydh {call : Zaa} {all : List Oper} (raw : List Cus) (D : Bm) : Zaq C call (ann 25) all ((opsL Znp).drop 2) ⟨[(0, .val (.d (d44 raw))), (2, .val (.d (.slc [])))], [(25, .a (.d (.fmap (Zhh D)))), (24, .a (.d (d44 raw)))], []⟩ =
    some ⟨[(0, .val (.d (d44 raw))), (2, .val (.d (.slc []))), (3, .val (.d (.fmap (Zhh D))))], [(25, .a (.d (.fmap (Zhh D)))), (24, .a (.d (d44 raw)))], []⟩ := by
  unfold opsL Go.Abs.ops Znp S25 B25 Zab Try.f25
  simp only [Option.getD_some, sq1, sq2, inn]
  simp [-getElem?_pos, A25, Zaq]
theorem Ygs {call : Zaa} (raw : List Cus) (D : Bm) : evQ C call (ann 25) 0 Yej ⟨[(0, .val (.d (d44 raw))), (2, .val (.d (.slc []))), (3, .val (.d (.fmap (Zhh D))))], [], []⟩ = some (.norm ⟨[(0, .val (.d (d44 raw))), (2, .val (.d (.slc []))), (3, .val (.d (.fmap (Zhh D)))), (4, .val (.mp 0))], [], [.map []]⟩) := by
  unfold Yej S25 B25 Zab Try.f25
  simp only [Option.getD_some, sq1, sq2, inn]
  simp [-getElem?_pos, A25, Zaq, m70]
theorem Yhz {call : Zaa} {all : List Oper} (raw : List Cus) (D : Bm) : Zaq C call (ann 25) all ((opsL Znw).take 1) ⟨[(0, .val (.d (d44 raw))), (2, .val (.d (.slc []))), (3, .val (.d (.fmap (Zhh D)))), (4, .val (.mp 0))], [], [.map []]⟩ =
    some ⟨[(0, .val (.d (d44 raw))), (2, .val (.d (.slc []))), (3, .val (.d (.fmap (Zhh D)))), (4, .val (.mp 0))], [(27, .a (.d (d44 raw)))], [.map []]⟩ := by
  unfold opsL Go.Abs.ops Znw S25 B25 Zab Try.f25
  simp only [Option.getD_some, sq1, sq2, inn]
  simp [-getElem?_pos, A25, Zaq]
theorem Ye3 {call : Zaa} {all : List Oper} (raw : List Cus) (D : Bm) (h : List AObj) : Zaq C call (ann 25) all ((opsL Znw).drop 2) ⟨[(0, .val (.d (d44 raw))), (2, .val (.d (.slc []))), (3, .val (.d (.fmap (Zhh D)))), (4, .val (.mp 0))], [(28, .a (.mp 1)), (27, .a (.d (d44 raw)))], h⟩ =
    some ⟨E25 raw D, [(28, .a (.mp 1)), (27, .a (.d (d44 raw)))], h⟩ := by
  unfold opsL Go.Abs.ops Znw S25 B25 Zab Try.f25 E25
  simp only [Option.getD_some, sq1, sq2, inn]
  simp [-getElem?_pos, A25, Zaq]
theorem Yjl : (Go.Abs.ops ZsO).toList = (opsL ZsO).take 1 ++ [opZ (opsL ZsO)] := by kernel_rfl
theorem o25_4 : (opZ (opsL ZsO)).op = .range 61 (.tmp 29) ∧ (opZ (opsL ZsO)).guard = none ∧ (opZ (opsL ZsO)).dst = some 30 := by
  refine ⟨?_, ?_, ?_⟩ <;> kernel_rfl
theorem Ygm {call : Zaa} {all : List Oper} (raw : List Cus) (D : Bm) (h : List AObj) : Zaq C call (ann 25) all ((opsL ZsO).take 1) ⟨E25 raw D, [], h⟩ = some ⟨E25 raw D, [(29, .a (.d (.fmap (Zhh D))))], h⟩ := by
  unfold opsL Go.Abs.ops ZsO W25 S25 B25 Zab Try.f25 E25
  simp only [Option.getD_some, sq1, sq2, inn]
  simp [-getElem?_pos, A25, Zaq]
theorem Yi1 : (Go.Abs.ops Zsq).toList = op0 (opsL Zsq) :: (opsL Zsq).drop 1 := by kernel_rfl
theorem o25_5 : (op0 (opsL Zsq)).op = .next (.tmp 30) false ∧ (op0 (opsL Zsq)).guard = none ∧ (op0 (opsL Zsq)).dst = some 31 := by
  refine ⟨?_, ?_, ?_⟩ <;> kernel_rfl
theorem Yi4 : (Go.Abs.ops Zsp).toList = op0 (opsL Zsp) :: (opsL Zsp).drop 1 := by kernel_rfl
theorem o25_6 : (op0 (opsL Zsp)).op = .entry (.tmp 30) ∧ (op0 (opsL Zsp)).guard = none ∧ (op0 (opsL Zsp)).dst = some 33 := by
  refine ⟨?_, ?_, ?_⟩ <;> kernel_rfl
def ZzW (raw : List Cus) (D : Bm) (p : Value) : List (Nat × SV) := E25 raw D ++ [(30, .val (.raw p))]
theorem YaU {call : Zaa} {all : List Oper} (raw : List Cus) (D : Bm) (p : Value) (h : List AObj) (b : Bool) (vs : List DV) :
    Zaq C call (ann 25) all ((opsL Zsq).drop 1) ⟨ZzW raw D p, [(31, .a (.d (.tup (.bool b :: vs))))], h⟩ = some ⟨ZzW raw D p ++ [(32, .val (.d (.bool b)))], [(31, .a (.d (.tup (.bool b :: vs))))], h⟩ := by
  unfold opsL Go.Abs.ops Zsq YcG W25 S25 B25 Zab Try.f25 ZzW E25
  simp only [Option.getD_some, sq1, sq2, inn]
  simp [-getElem?_pos, A25, Zaq]
theorem YgY {call : Zaa} {all : List Oper} (raw : List Cus) (D : Bm) (p : Value) (h : List AObj) (k v : DV) :
    Zaq C call (ann 25) all ((opsL Zsp).drop 1) ⟨ZzW raw D p ++ [(32, .val (.d (.bool true)))], [(33, .a (.d (.tup [k, v])))], h⟩ = some ⟨ZzW raw D p ++ [(32, .val (.d (.bool true))), (6, .val (.d k)), (7, .val (.d v))], [(35, .a (.d v)), (34, .a (.d k)), (33, .a (.d (.tup [k, v])))], h⟩ := by
  unfold opsL Go.Abs.ops Zsp YdJ YcG W25 S25 B25 Zab Try.f25 ZzW E25
  simp only [Option.getD_some, sq1, sq2, inn]
  simp [-getElem?_pos, A25, Zaq]
theorem YgT {call : Zaa} (raw : List Cus) (D : Bm) (p : Value) (Sv Op : Mv) (hO : (Op.map Prod.fst).Nodup) (a : List UInt8) (b : Bool) :
    evQ C call (ann 25) 0 YdK ⟨ZzW raw D p ++ [(32, .val (.d (.bool true))), (6, .val (.d (.str a))), (7, .val (.d (.bool b)))], [], H25 Sv Op⟩ =
      some (.norm ⟨ZzW raw D p ++ [(32, .val (.d (.bool true))), (6, .val (.d (.str a))), (7, .val (.d (.bool b))), (36, .val (.d (.bool b)))], [], H25 Sv (bif b then rmv a Op else Op)⟩) := by
  unfold YdK YdJ YcG W25 S25 B25 Zab Try.f25 ZzW E25 H25
  simp only [Option.getD_some, sq1, sq2, inn]
  cases b
  · simp [-getElem?_pos, A25, Zaq]
  · simp [-getElem?_pos, A25, Zaq, ZiU, z70, k70, Zo4 a Op hO]
end
end Go.Tev.S1
namespace Go.Tev.S1
open Go.Abs Go.Proofs
def F25 (raw : List Cus) (D : Bm) (i : Nat) : List (Nat × SV) := E25 raw D ++ [(39, .val (.d (d44 raw))), (40, .val (.d (.int .i64 raw.length))), (41, .val (.d (.int .i64 i)))]
def x25 (x : Cus) : Nat × SV := (9, .box [.str x.name, .slc (x.val.map Val.enc)])
section
attribute [local simp] List.getElem?_cons_zero Option.bind_some YaF ZgN Zdw ZbJ Zh6 Zga Zeg Zoo Zh7 Zge Zit Ziu Zo8 Ziq ZcU Zb5 ZnB Za1 Zbi ZpA Zbb Zdv Zfq Zfw ZcI has opx opd opA opD XV.flat XV.copy oD oA Zae ins ZpY Zii St.put St.putOwn St.lose St.loseEnv unal ZnM Znz ZvL dUn Zjn ZaI ZcJ ZbH ZbA Za2 Zdt Zb8 ZcZ ZkK Zb2 AV.cells AV.cellOk AV.single DV.cellOk YaO Yba YaP DV.cells ZaY ZgY ZaU Zc0 ZaT Zbe ZnP Zba ZfO mapO AV.toD ZaL ZcC Zgn optD Zc2 Zbq Zh4 ZaC ZcD Zci ZaQ Zfs Zeq ZbT St.trim Out.st
theorem YhI {call : Zaa} (raw : List Cus) (D : Bm) (h : List AObj) : evQ C call (ann 25) 0 Zz1 ⟨E25 raw D, [], h⟩ = some (.norm ⟨F25 raw D 0, [], h⟩) := by
  unfold Zz1 U25 T25 S25 B25 Zab Try.f25 F25 E25 d44
  simp only [Option.getD_some, sq1, sq2, inn]
  simp [-getElem?_pos, A25, Zaq, Zy3]
theorem YdH {call : Zaa} (raw : List Cus) (D : Bm) (i : Nat) (h : List AObj) : evQ C call (ann 25) 0 Zya ⟨F25 raw D i, [], h⟩ = some (.norm ⟨F25 raw D i ++ [(42, .val (.d (.bool (decide ((i : Int) < (raw.length : Int))))))], [], h⟩) := by
  unfold Zya Zh2 U25 T25 S25 B25 Zab Try.f25 F25 E25
  simp only [Option.getD_some, sq1, sq2, inn]
  simp [-getElem?_pos, A25, Zaq]
theorem Yda {call : Zaa} (raw : List Cus) (D : Bm) (i : Nat) (hl : i + 1 < 2 ^ 63) (v : SV) (h : List AObj) : evQ C call (ann 25) 0 ZxE ⟨F25 raw D i ++ [(42, v)], [], h⟩ = some (.norm ⟨F25 raw D (i + 1) ++ [(42, v)], [], h⟩) := by
  have hw : IntKind.i64.wrap ((i : Int) + 1) = (i : Int) + 1 := Zaz hl
  unfold ZxE Zh2 U25 T25 S25 B25 Zab Try.f25 F25 E25
  simp only [Option.getD_some, sq1, sq2, inn]
  simp [-getElem?_pos, A25, Zaq, hw]
theorem YdF {call : Zaa} (raw : List Cus) (D : Bm) (i : Nat) (x : Cus) (hx : raw[i]? = some x) (v : SV) (h : List AObj) : evQ C call (ann 25) 0 ZxG ⟨F25 raw D i ++ [(42, v)], [], h⟩ = some (.norm ⟨F25 raw D i ++ [(42, v), x25 x], [], h⟩) := by
  have hlt : i < raw.length := (List.getElem?_eq_some_iff.1 hx).1
  have hg := Zpd hx
  have hi := ZyR hlt
  unfold ZxG Zjl Zh2 U25 T25 S25 B25 Zab Try.f25 F25 E25 x25 d44
  simp only [Option.getD_some, sq1, sq2, inn]
  simp [-getElem?_pos, A25, Zaq, Zy3, hg, hi, YhU, YhO, YhX, -List.getElem?_map]
theorem YaS {call : Zaa} (raw : List Cus) (D : Bm) (i : Nat) (x : Cus) (v : SV) (Sv Op : Mv) (hO : Zbd BEq.beq x.name Op = none) : evQ C call (ann 25) 0 ZqS ⟨F25 raw D i ++ [(42, v), x25 x], [], H25 Sv Op⟩ =
    some (.exit 3 ⟨F25 raw D i ++ [(42, v), x25 x, (11, .val (.d (.bool false))), (53, .val (.d (.bool true)))], [], H25 Sv Op⟩) := by
  unfold ZqS Zjl Zh2 U25 T25 S25 B25 Zab Try.f25 F25 E25 x25 H25
  simp only [Option.getD_some, sq1, sq2, inn]
  simp [-getElem?_pos, A25, Zaq, ZlI, hz9, ag9, Zbz, z70, k70, ZeV, hO]
theorem YbN {call : Zaa} (raw : List Cus) (D : Bm) (i : Nat) (x : Cus) (v : SV) (Sv Op : Mv) {u : List Val} (hO : Zbd BEq.beq x.name Op = some u) : evQ C call (ann 25) 0 ZqS ⟨F25 raw D i ++ [(42, v), x25 x], [], H25 Sv Op⟩ =
    some (.norm ⟨F25 raw D i ++ [(42, v), x25 x, (11, .val (.d (.bool true))), (53, .val (.d (.bool false)))], [], H25 Sv Op⟩) := by
  unfold ZqS Zjl Zh2 U25 T25 S25 B25 Zab Try.f25 F25 E25 x25 H25
  simp only [Option.getD_some, sq1, sq2, inn]
  simp [-getElem?_pos, A25, Zaq, ZlI, hz9, ag9, Zbz, z70, k70, ZeV, hO, Zeq, ZfO, mapO, AV.toD]
def b25 (raw : List Cus) (D : Bm) (i : Nat) (x : Cus) : List (Nat × SV) := F25 raw D i ++ [(42, .val (.d (.bool true))), x25 x, (11, .val (.d (.bool true))), (53, .val (.d (.bool false)))]
theorem Yff {call : Zaa} (raw : List Cus) (D : Bm) (i : Nat) (x : Cus) (Sv Op : Mv) : evQ C call (ann 25) 0 Zyf ⟨b25 raw D i x, [], H25 Sv Op⟩ = some (.norm ⟨b25 raw D i x ++ [(12, .val (.mp 2))], [], H25 Sv Op ++ [.map []]⟩) := by
  unfold Zyf Zj1 Zjl Zh2 U25 T25 S25 B25 Zab Try.f25 b25 F25 E25 x25 H25
  simp only [Option.getD_some, sq1, sq2, inn]
  simp [-getElem?_pos, A25, Zaq, Yf5]
theorem YeD {call : Zaa} (raw : List Cus) (D : Bm) (i : Nat) (x : Cus) (Sv Op : Mv) (h' : List AObj) (h34 : call 34 [.d (.slc (x.val.map Val.enc)), .mp 2] [.map (ZjC Sv), .map (ZjC Op), .map []] = some (.d (.tup []), h')) :
    evQ C call (ann 25) 0 ZxL ⟨b25 raw D i x ++ [(12, .val (.mp 2))], [], H25 Sv Op ++ [.map []]⟩ = some (.norm ⟨b25 raw D i x ++ [(12, .val (.mp 2))], [], h'⟩) := by
  unfold ZxL Zj1 Zjl Zh2 U25 T25 S25 B25 Zab Try.f25 b25 F25 E25 x25 H25
  simp only [Option.getD_some, sq1, sq2, inn]
  simp [-getElem?_pos, A25, Zaq, ZrH, YdQ, Yfm, Zkp, AV.toD, h34]
theorem Yfg {call : Zaa} (raw : List Cus) (D : Bm) (i : Nat) (x : Cus) (u : SV) (h : List AObj) : evQ C call (ann 25) 0 Zx5 ⟨b25 raw D i x ++ [(12, u)], [], h⟩ = some (.norm ⟨b25 raw D i x ++ [(12, u), (13, .val (.d (.bool false)))], [], h⟩) := by
  unfold Zx5 Zj1 Zjl Zh2 U25 T25 S25 B25 Zab Try.f25 b25 F25 E25 x25
  simp only [Option.getD_some, sq1, sq2, inn]
  simp [-getElem?_pos, A25, Zaq]
def c25 (raw : List Cus) (D : Bm) (i : Nat) (x : Cus) (b : Bool) : List (Nat × SV) := b25 raw D i x ++ [(12, .val (.d (.fmap (Zhh (ZhY [] x.val))))), (13, .val (.d (.bool b)))]
theorem Yiz : (Go.Abs.ops ZkE).toList = (opsL ZkE).take 1 ++ [opZ (opsL ZkE)] := by kernel_rfl
theorem o25_17 : (opZ (opsL ZkE)).op = .range 61 (.tmp 59) ∧ (opZ (opsL ZkE)).guard = none ∧ (opZ (opsL ZkE)).dst = some 60 := by
  refine ⟨?_, ?_, ?_⟩ <;> kernel_rfl
theorem Yea {call : Zaa} {all : List Oper} (raw : List Cus) (D : Bm) (i : Nat) (x : Cus) (b : Bool) (h : List AObj) : Zaq C call (ann 25) all ((opsL ZkE).take 1) ⟨c25 raw D i x b, [], h⟩ = some ⟨c25 raw D i x b, [(59, .a (.d (.fmap (Zhh (ZhY [] x.val)))))], h⟩ := by
  unfold opsL Go.Abs.ops ZkE G25 Zj1 Zjl Zh2 U25 T25 S25 B25 Zab Try.f25 c25 b25 F25 E25 x25
  simp only [Option.getD_some, sq1, sq2, inn]
  simp [-getElem?_pos, A25, Zaq]
theorem Yif : (Go.Abs.ops Zlc).toList = op0 (opsL Zlc) :: (opsL Zlc).drop 1 := by kernel_rfl
theorem o25_18 : (op0 (opsL Zlc)).op = .next (.tmp 60) false ∧ (op0 (opsL Zlc)).guard = none ∧ (op0 (opsL Zlc)).dst = some 61 := by
  refine ⟨?_, ?_, ?_⟩ <;> kernel_rfl
theorem YiA : (Go.Abs.ops ZkI).toList = op0 (opsL ZkI) :: (opsL ZkI).drop 1 := by kernel_rfl
theorem o25_19 : (op0 (opsL ZkI)).op = .entry (.tmp 60) ∧ (op0 (opsL ZkI)).guard = none ∧ (op0 (opsL ZkI)).dst = some 63 := by
  refine ⟨?_, ?_, ?_⟩ <;> kernel_rfl
def g25 (raw : List Cus) (D : Bm) (i : Nat) (x : Cus) (b : Bool) (p : Value) : List (Nat × SV) := c25 raw D i x b ++ [(60, .val (.raw p))]
theorem Zxj {call : Zaa} {all : List Oper} (raw : List Cus) (D : Bm) (i : Nat) (x : Cus) (bb : Bool) (p : Value) (h : List AObj) (b : Bool) (vs : List DV) :
    Zaq C call (ann 25) all ((opsL Zlc).drop 1) ⟨g25 raw D i x bb p, [(61, .a (.d (.tup (.bool b :: vs))))], h⟩ = some ⟨g25 raw D i x bb p ++ [(62, .val (.d (.bool b)))], [(61, .a (.d (.tup (.bool b :: vs))))], h⟩ := by
  unfold opsL Go.Abs.ops Zlc YbX G25 Zj1 Zjl Zh2 U25 T25 S25 B25 Zab Try.f25 g25 c25 b25 F25 E25 x25
  simp only [Option.getD_some, sq1, sq2, inn]
  simp [-getElem?_pos, A25, Zaq]
theorem YdW {call : Zaa} {all : List Oper} (raw : List Cus) (D : Bm) (i : Nat) (x : Cus) (bb : Bool) (p : Value) (h : List AObj) (k v : DV) :
    Zaq C call (ann 25) all ((opsL ZkI).drop 1) ⟨g25 raw D i x bb p ++ [(62, .val (.d (.bool true)))], [(63, .a (.d (.tup [k, v])))], h⟩ = some ⟨g25 raw D i x bb p ++ [(62, .val (.d (.bool true))), (14, .val (.d k))], [(64, .a (.d k)), (63, .a (.d (.tup [k, v])))], h⟩ := by
  unfold opsL Go.Abs.ops ZkI Ydq YbX G25 Zj1 Zjl Zh2 U25 T25 S25 B25 Zab Try.f25 g25 c25 b25 F25 E25 x25
  simp only [Option.getD_some, sq1, sq2, inn]
  simp [-getElem?_pos, A25, Zaq]
theorem Yei {call : Zaa} (raw : List Cus) (D : Bm) (i : Nat) (x : Cus) (bb : Bool) (p : Value) (Sv Op : Mv) (nm : List UInt8) :
    evQ C call (ann 25) 0 Zx2 ⟨g25 raw D i x bb p ++ [(62, .val (.d (.bool true))), (14, .val (.d (.str nm)))], [], H25 Sv Op⟩ =
      some (.norm ⟨g25 raw D i x (bb || (Zbd BEq.beq nm Op).isSome) p ++ [(62, .val (.d (.bool true))), (14, .val (.d (.str nm))), (16, .val (.d (.bool (Zbd BEq.beq nm Op).isSome))), (71, .val (.d (.bool (Zbd BEq.beq nm Op).isSome)))], [], H25 Sv Op⟩) := by
  unfold Zx2 Ydq YbX G25 Zj1 Zjl Zh2 U25 T25 S25 B25 Zab Try.f25 g25 c25 b25 F25 E25 x25 H25
  simp only [Option.getD_some, sq1, sq2, inn]
  cases hO : Zbd BEq.beq nm Op with
  | none => simp [-getElem?_pos, A25, Zaq, Zbz, z70, k70, ZeV, hO, Zeq, ZfO, mapO, AV.toD]
  | some u => simp [-getElem?_pos, A25, Zaq, Zbz, z70, k70, ZeV, hO, Zeq, ZfO, mapO, AV.toD]
theorem Zyb {call : Zaa} (raw : List Cus) (D : Bm) (i : Nat) (x : Cus) (h : List AObj) : evQ C call (ann 25) 0 ZtF ⟨c25 raw D i x false, [], h⟩ = some (.norm ⟨c25 raw D i x false ++ [(72, .val (.d (.bool false)))], [], h⟩) ∧
    evQ C call (ann 25) 0 ZtF ⟨c25 raw D i x true, [], h⟩ = some (.exit 3 ⟨c25 raw D i x true ++ [(72, .val (.d (.bool true)))], [], h⟩) := by
  unfold ZtF YcC Zj1 Zjl Zh2 U25 T25 S25 B25 Zab Try.f25 c25 b25 F25 E25 x25
  simp only [Option.getD_some, sq1, sq2, inn]
  constructor <;> simp [-getElem?_pos, A25, Zaq]
theorem Ydm {call : Zaa} (raw : List Cus) (D : Bm) (i : Nat) (x : Cus) (Sv Op : Mv) (hO : (Op.map Prod.fst).Nodup) : evQ C call (ann 25) 0 Zyi ⟨c25 raw D i x false ++ [(72, .val (.d (.bool false)))], [], H25 Sv Op⟩ = some (.norm ⟨c25 raw D i x false ++ [(72, .val (.d (.bool false)))], [], H25 Sv (rmv x.name Op)⟩) := by
  unfold Zyi YeM YcC Zj1 Zjl Zh2 U25 T25 S25 B25 Zab Try.f25 c25 b25 F25 E25 x25 H25
  simp only [Option.getD_some, sq1, sq2, inn]
  simp [-getElem?_pos, A25, Zaq, ZlI, hz9, ag9, ZiU, z70, k70, Zo4 _ Op hO]
def YhQ (Sv : Mv) : List (DV × DV) := Sv.map fun p => (.str p.1, .slc (p.2.map Val.enc))
end
theorem ZxJ {α β γ : Type} {f : β → Option γ} {g : α → β} {k : α → γ} (h : ∀ x, f (g x) = some (k x)) : ∀ l : List α, mapO f (l.map g) = some (l.map k)
  | [] => rfl
  | x :: r => by
    have ih := ZxJ h r
    rw [List.map_cons, List.map_cons]
    simp only [mapO, h, ih]
theorem Yja (d : DV) : (AV.d d).toD = some d := by simp [AV.toD]
theorem Yb4 (Sv : Mv) : mapO (fun e : DV × AV => e.2.toD.map fun v => (e.1, v)) (ZjC Sv) = some (YhQ Sv) :=
  ZxJ (fun p => by show (AV.d _).toD.map _ = _; rw [Yja]; rfl) Sv
theorem YiJ (v : List Val) : DV.noMapL (v.map Val.enc) = true := by
  have := ok.noMap 33 v rfl
  exact this
end Go.Tev.S1
namespace Go.Tev.S1
open Go.Abs Go.Proofs
def d25 (raw : List Cus) (D : Bm) (i : Nat) (x : Cus) : List (Nat × SV) := c25 raw D i x false ++ [(72, .val (.d (.bool false)))]
theorem YbB (Sv Op : Mv) (u : DV) : ZeW [.map (ZjC Sv), .map (ZjC Op)] [.d u, .mp 0] = some ([u, .fmap (YhQ Sv)], 1) := by
  have h : ZuM [.map (ZjC Sv), .map (ZjC Op)] (.mp 0) = some (.fmap (YhQ Sv), 1) := by
    show (mapO (fun e : DV × AV => e.2.toD.map fun v => (e.1, v)) (ZjC Sv)).map (fun l => (DV.fmap l, 1)) = _
    rw [Yb4]; rfl
  simp only [ZeW, h]
  rfl
theorem ZwD (v : List Val) (e : Int) : ZtM 1 (.tup [.slc (v.map Val.enc), .int .i64 e]) = true := by
  simp only [ZtM, DV.noMap, DV.noMapL, YiJ, Bool.and_self]
section
attribute [local simp] List.getElem?_cons_zero Option.bind_some YaF ZgN Zdw ZbJ Zh6 Zga Zeg Zoo Zh7 Zge Zit Ziu Zo8 Ziq ZcU Zb5 ZnB Za1 Zbi ZpA Zbb Zdv Zfq Zfw ZcI has opx opd opA opD XV.flat XV.copy oD oA Zae ins ZpY Zii St.put St.putOwn St.lose St.loseEnv unal ZnM Znz ZvL dUn Zjn ZaI ZcJ ZbH ZbA Za2 Zdt Zb8 ZcZ ZkK Zb2 AV.cells AV.cellOk AV.single DV.cellOk YaO Yba YaP DV.cells ZaY ZgY ZaU Zc0 ZaT Zbe ZnP Zba ZfO mapO AV.toD ZaL ZcC Zgn optD Zc2 Zbq Zh4 ZaC ZcD Zci ZaQ Zfs Zeq ZbT St.trim Out.st
theorem Yds {call : Zaa} (raw : List Cus) (D : Bm) (i : Nat) (x : Cus) (Sv Op : Mv) (v : List Val) (e n : Int) (hS : x.name ∉ Sv.map Prod.fst)
    (h39 : Zdb call false 39 [.slc (x.val.map Val.enc), .fmap (YhQ Sv)] = some (.tup [.slc (v.map Val.enc), .int .i64 e])) (h30 : e = 0 → Zdb call true 30 [.slc (v.map Val.enc)] = some (.int .i64 n)) :
    evQ C call (ann 25) 0 Zxb ⟨d25 raw D i x, [], H25 Sv Op⟩ = some (.norm ⟨d25 raw D i x ++ [(17, .val (.d (.slc (v.map Val.enc)))), (18, .val (.d (.int .i64 e))), (89, .val (.d (.bool (decide (e = 0) && decide (n ≤ 2000)))))], [], H25 (bif decide (e = 0) && decide (n ≤ 2000) then Sv ++ [(x.name, v)] else Sv) Op⟩) := by
  unfold Zxb YeM YcC Zj1 Zjl Zh2 U25 T25 S25 B25 Zab Try.f25 d25 c25 b25 F25 E25 x25 H25
  simp only [Option.getD_some, sq1, sq2, inn]
  by_cases he : e = 0
  · subst he
    have h30 := h30 rfl
    by_cases hn : n ≤ 2000
    · simp [-getElem?_pos, A25, Zaq, ZlI, ZrH, hz9, YdQ, ag9, Yfm, z70, k70, YbB, h39, h30, ZwD, hn, Zin _ _ Sv hS]
    · simp [-getElem?_pos, A25, Zaq, ZlI, ZrH, hz9, YdQ, ag9, Yfm, z70, k70, YbB, h39, h30, ZwD, hn, Zin _ _ Sv hS]
  · have he2 : (e == 0) = false := by simpa using he
    simp [-getElem?_pos, A25, Zaq, ZlI, ZrH, hz9, YdQ, ag9, Yfm, z70, k70, YbB, h39, ZwD, he, he2, Zin _ _ Sv hS]
theorem YeE {call : Zaa} (raw : List Cus) (D : Bm) (h : List AObj) : evQ C call (ann 25) 0 ZxP ⟨E25 raw D, [], h⟩ = some (.norm ⟨E25 raw D ++ [(19, .own [])], [], h⟩) := by
  unfold ZxP T25 S25 B25 Zab Try.f25 E25
  simp only [Option.getD_some, sq1, sq2, inn]
  simp [-getElem?_pos, A25, Zaq]
def n25 (raw : List Cus) (D : Bm) (es : List Cus) (i : Nat) : List (Nat × SV) := E25 raw D ++ [(19, .own (es.map Cus.enc)), (95, .val (.d (d44 raw))), (96, .val (.d (.int .i64 raw.length))), (97, .val (.d (.int .i64 i)))]
theorem YeU {call : Zaa} (raw : List Cus) (D : Bm) (h : List AObj) : evQ C call (ann 25) 0 ZtA ⟨E25 raw D ++ [(19, .own [])], [], h⟩ = some (.norm ⟨n25 raw D [] 0, [], h⟩) := by
  unfold ZtA N25 T25 S25 B25 Zab Try.f25 n25 E25 d44
  simp only [Option.getD_some, sq1, sq2, inn]
  simp [-getElem?_pos, A25, Zaq, Zy3]
theorem Ydb {call : Zaa} (raw : List Cus) (D : Bm) (es : List Cus) (h : List AObj) : evQ C call (ann 25) 0 ZsG ⟨n25 raw D es raw.length, [], h⟩ = some (.exit 6 ⟨n25 raw D es raw.length ++ [(98, .val (.d (.bool false)))], [], h⟩) := by
  unfold ZsG N25 T25 S25 B25 Zab Try.f25 n25 E25
  simp only [Option.getD_some, sq1, sq2, inn]
  simp [-getElem?_pos, A25, Zaq]
theorem YdC {call : Zaa} (raw : List Cus) (D : Bm) (es : List Cus) (i : Nat) (h : List AObj) : ∃ s, evQ C call (ann 25) 0 ZxX ⟨n25 raw D es i, [], h⟩ = some (.norm s) ∧ Zdw C s Try.f25.results.toList = some [.d (.slc (es.map Cus.enc))] := by
  have hr : Try.f25.results.toList = [.tmp 2] := rfl
  rw [hr]
  unfold ZxX T25 S25 B25 Zab Try.f25 n25 E25
  simp only [Option.getD_some, sq1, sq2, inn]
  simp [-getElem?_pos, A25, Zaq]
theorem pl53 : C.places 53 = some (fun i => [(0, 1), (1, 1)][i]?) := by kernel_rfl
theorem hz22 : C.hasZero 22 = true := by kernel_rfl
theorem el22 : C.elemOk 22 2 = true := by kernel_rfl
theorem eb22 : ∃ b, C.elemBytes 22 = some b ∧ b ≤ 100 := ⟨40, by kernel_rfl, by decide⟩
end
theorem rm22 {n : Nat} (h : n ≤ 2 ^ 40) : ZcG C 22 n = true := by
  obtain ⟨b, hb, hl⟩ := eb22
  simp only [ZcG, hb, Bool.and_eq_true, Nat.ble_eq]
  have : n * b ≤ 2 ^ 40 * 100 := Nat.mul_le_mul h hl
  exact ⟨by omega, by omega⟩
theorem cs53 (es : List Cus) : ZaQ 2 ((es.map Cus.enc).take 1) = true := by
  cases es with
  | nil => rfl
  | cons x es => rfl
section
attribute [local simp] List.getElem?_cons_zero Option.bind_some YaF ZgN Zdw ZbJ Zh6 Zga Zeg Zoo Zh7 Zge Zit Ziu Zo8 Ziq ZcU Zb5 ZnB Za1 Zbi ZpA Zbb Zdv Zfq Zfw ZcI has opx opd opA opD XV.flat XV.copy oD oA Zae ins ZpY Zii St.put St.putOwn St.lose St.loseEnv unal ZnM Znz ZvL dUn Zjn ZaI ZcJ ZbH ZbA Za2 Zdt Zb8 ZcZ ZkK Zb2 AV.cells AV.cellOk AV.single DV.cellOk YaO Yba YaP DV.cells ZaY ZgY ZaU Zc0 ZaT Zbe ZnP Zba ZfO mapO AV.toD ZaL ZcC Zgn optD Zc2 Zbq Zh4 ZaC ZcD Zci ZaQ Zfs Zeq ZbT St.trim Out.st
theorem Ye5 {call : Zaa} (raw : List Cus) (D : Bm) (es : List Cus) (i : Nat) (x : Cus) (hx : raw[i]? = some x) (hl : raw.length < 2 ^ 40) (Sv Op : Mv) (hS : Zbd BEq.beq x.name Sv = none) :
    evQ C call (ann 25) 0 ZsG ⟨n25 raw D es i, [], H25 Sv Op⟩ = some (.norm ⟨n25 raw D es (i + 1) ++ [(98, .val (.d (.bool true)))], [], H25 Sv Op⟩) := by
  have hlt : i < raw.length := (List.getElem?_eq_some_iff.1 hx).1
  have hw : IntKind.i64.wrap ((i : Int) + 1) = (i : Int) + 1 := Zaz (by omega)
  have hg := Zpd hx
  have hi := ZyR hlt
  unfold ZsG N25 T25 S25 B25 Zab Try.f25 n25 E25 H25 d44
  simp only [Option.getD_some, sq1, sq2, inn]
  simp [-getElem?_pos, A25, Zaq, Zy3, hlt, hw, hg, hi, YhU, YhO, YhX, ZlI, ZrH, hz9, YdQ, ag9, Yfm, Zbz, z70, k70, ZeV, hS, -List.getElem?_map]
theorem Yc9 {call : Zaa} (raw : List Cus) (D : Bm) (es : List Cus) (i : Nat) (x : Cus) (hx : raw[i]? = some x) (hl : raw.length < 2 ^ 40) (he : es.length ≤ i) (Sv Op : Mv) {v : List Val} (hS : Zbd BEq.beq x.name Sv = some v) :
    evQ C call (ann 25) 0 ZsG ⟨n25 raw D es i, [], H25 Sv Op⟩ = some (.norm ⟨n25 raw D (es ++ [⟨x.name, v⟩]) (i + 1) ++ [(98, .val (.d (.bool true)))], [], H25 Sv Op⟩) := by
  have hlt : i < raw.length := (List.getElem?_eq_some_iff.1 hx).1
  have hw : IntKind.i64.wrap ((i : Int) + 1) = (i : Int) + 1 := Zaz (by omega)
  have hg := Zpd hx
  have hi := ZyR hlt
  have hrm : ZcG C 22 (es.length + 1) = true := rm22 (by omega)
  unfold ZsG N25 T25 S25 B25 Zab Try.f25 n25 E25 H25 d44
  simp only [Option.getD_some, sq1, sq2, inn]
  simp [-getElem?_pos, A25, Zaq, Zy3, hlt, hw, hg, hi, YhU, YhO, YhX, ZlI, ZrH, hz9, YdQ, ag9, Yfm, Zbz, z70, k70, ZeV, hS, pl53, hz22, el22, cs53, hrm, -List.getElem?_map]
  rfl
end
end Go.Tev.S1
namespace Go.Abs
section
variable {C : Ctx} {call : Zaa} {fa : FA} {st s1 s2 s3 : St} {x y z : Code} {Q : Out → Prop}
theorem Zvk (hn : ZbD C.P) (hm : C.P.follows .mixedOrders = true) (hK : Zb9 C.P call) {n k1 k2 : Nat} (okx : okC fa x = true) (oky : okC fa y = true) (hx : evQ C call fa k1 x st = some (.norm s1)) (hy : evQ C call fa k2 y s1 = some (.norm s2))
    (hs : Sheds n s2 s3) (hl : st.heap.length ≤ n) (h : Tri C fa z s3 Q) : Tri C fa (.seq x (.seq y z)) st Q := by
  intro own a w S
  refine wp_seq (wp_mono (Zig hn hm hK k1 x st _ own a w (Zi6 k1 x st _ okx hx) S) ?_)
  rintro e a1 w1 ⟨he, own1, S1, F1, E1⟩
  subst he
  refine wp_seq (wp_mono (Zig hn hm hK k2 y s1 _ own1 a1 w1 (Zi6 k2 y s1 _ oky hy) S1) ?_)
  rintro e a2 w2 ⟨he, own2, S2, F2, E2⟩
  subst he
  have F := (F1.trans F2).shed (n := n)
  have E := (E1.trans E2).shed hs hl
  exact wp_mono (h _ a2 w2 (S2.shed hs)) fun e a3 w3 ⟨o, k1, k2⟩ => ⟨o, k1, k2.after F E⟩
end
end Go.Abs
namespace Go.Tev.S1
open Go.Abs Go.Proofs
def ZcQ (Op : Mv) (x : Cus) : Bool := (Zbd BEq.beq x.name Op).isSome && !((ZhY [] x.val).any fun p => (Zbd BEq.beq p.1 Op).isSome)
def Zy5 (Sv : Mv) (x : Cus) : Mv := bif decide ((Ze7 (lkM Sv) x.val).2 = 0) && decide ((Zal (Ze7 (lkM Sv) x.val).1 : Int) ≤ 2000) then Sv ++ [(x.name, (Ze7 (lkM Sv) x.val).1)] else Sv
def ZjA (raw : List Cus) : Nat → Mv → Mv → Mv
  | 0, Sv, _ => Sv
  | n + 1, Sv, Op => match raw.find? (ZcQ Op) with
    | some x => ZjA raw n (Zy5 Sv x) (rmv x.name Op)
    | none => Sv
def OkS (Sv : Mv) : Prop := ∀ p ∈ Sv, Zal p.2 ≤ 2000 ∧ Zbg p.2 = false
theorem Ycd {Sv : Mv} (h : OkS Sv) : Yg7 (lkM Sv) := by
  intro n x hx
  have hV : V = 2 ^ 24 := rfl
  have : ∀ M : Mv, Zbd BEq.beq n M = some x → ∃ k, (k, x) ∈ M := by
    intro M
    induction M with
    | nil => intro h; simp [Zbd] at h
    | cons p M ih =>
      obtain ⟨k, u⟩ := p
      intro h
      simp only [Zbd] at h
      cases e : (n == k) with
      | true => rw [e] at h; cases h; exact ⟨k, List.mem_cons_self⟩
      | false => rw [e] at h; obtain ⟨k', hk⟩ := ih h; exact ⟨k', List.mem_cons_of_mem _ hk⟩
  obtain ⟨k, hk⟩ := this Sv hx
  obtain ⟨h1, h2⟩ := h _ hk
  exact ⟨Nat.le_trans h1 (by rw [hV]; decide), h2⟩
theorem Zvi {Sv : Mv} (hS : OkS Sv) {l : List Val} (hl : Zal l ≤ B) : Zdb (Zac C K0) false 39 [.slc (l.map Val.enc), .fmap (YhQ Sv)] = some (.tup [.slc ((Ze7 (lkM Sv) l).1.map Val.enc), .int .i64 (Ze7 (lkM Sv) l).2]) := by
  have hV : V = 2 ^ 24 := rfl
  obtain ⟨d, h1, h2⟩ := YbR Zmf [.l 60 l, .m 9 33 Sv] (l, Sv) (Ze7 (lkM Sv) l) [.slc (l.map Val.enc), .fmap (YhQ Sv)] _ rfl rfl (ZwY ⟨hl, Ycd hS⟩ fun p hp => Nat.le_trans (hS p hp).1 (by rw [hV]; decide)) rfl
  cases h1
  exact h2
theorem Yab {Sv : Mv} (hS : OkS Sv) {l : List Val} (hl : Zal l ≤ B) (h0 : (Ze7 (lkM Sv) l).2 = 0) : Zal (Ze7 (lkM Sv) l).1 ≤ B := by
  unfold Ze7 at h0 ⊢
  split
  · simp [Zal]
  · rename_i n hn
    split
    · simp [Zal]
    · rename_i h2
      split
      · exact (ZyA ⟨hl, Ycd hS⟩ hn h2).2
      · simp [Zal]
theorem Zwo {l : List Val} (hl : Zal l ≤ B) : Zdb (Zac C K0) true 30 [.slc (l.map Val.enc)] = some (.int .i64 (Zal l)) := by
  obtain ⟨d, h1, h2⟩ := Ybc Zmf [.l 60 l] l _ [.slc (l.map Val.enc)] _ rfl rfl (Zgs hl) rfl
  cases h1
  exact ZkA h2
theorem YaR {lk : Lk} (h : Yg7 lk) : ∀ l, Zbg (ZeQ lk l) = false := by
  refine ZiI _ ?_ ?_
  · rw [ZfM]; rfl
  · intro v r h1 h2 h3
    rw [Zfn, Zt5, h1, Bool.or_false]
    unfold ZyX
    split
    · split
      · rename_i x hx; exact (h _ _ hx).2
      · exact h3
    · rename_i hv
      rw [Bool.not_eq_true] at hv
      rw [Zbg, Val.hasv_eq]
      have e1 : (Val.mk v.tok (ZeQ lk v.l)).ref = v.ref := rfl
      have e2 : (Val.mk v.tok (ZeQ lk v.l)).l = ZeQ lk v.l := rfl
      rw [e1, e2, hv, h2]
      rfl
theorem Ye7 {Sv : Mv} (hS : OkS Sv) (l : List Val) : Zbg (Ze7 (lkM Sv) l).1 = false := by
  unfold Ze7
  split
  · rfl
  · split
    · rfl
    · split
      · exact YaR (Ycd hS) l
      · rfl
theorem Yau {Sv : Mv} (hS : OkS Sv) (x : Cus) : OkS (Zy5 Sv x) := by
  unfold Zy5
  cases h : decide ((Ze7 (lkM Sv) x.val).2 = 0) && decide ((Zal (Ze7 (lkM Sv) x.val).1 : Int) ≤ 2000) with
  | false => exact hS
  | true =>
    rw [Bool.and_eq_true, decide_eq_true_eq, decide_eq_true_eq] at h
    intro p hp
    rw [cond_true] at hp
    rcases List.mem_append.1 hp with hp | hp
    · exact hS p hp
    · rw [List.mem_singleton] at hp
      subst hp
      exact ⟨Int.ofNat_le.1 h.2, Ye7 hS _⟩
theorem ZqM (Sv : Mv) (x : Cus) : ∀ a ∈ (Zy5 Sv x).map Prod.fst, a ∈ Sv.map Prod.fst ∨ a = x.name := by
  intro a ha
  unfold Zy5 at ha
  cases h : decide ((Ze7 (lkM Sv) x.val).2 = 0) && decide ((Zal (Ze7 (lkM Sv) x.val).1 : Int) ≤ 2000) with
  | false => rw [h] at ha; exact .inl ha
  | true =>
    rw [h, cond_true, List.map_append] at ha
    rcases List.mem_append.1 ha with h | h
    · exact .inl h
    · exact .inr (by simpa using h)
theorem rmv_names {a : List UInt8} {M : Mv} {b : List UInt8} : b ∈ (rmv a M).map Prod.fst ↔ b ∈ M.map Prod.fst ∧ b ≠ a := by
  simp only [rmv, List.mem_map, List.mem_filter]
  constructor
  · rintro ⟨p, ⟨h1, h2⟩, rfl⟩
    exact ⟨⟨p, h1, rfl⟩, fun e => by simp [e] at h2⟩
  · rintro ⟨⟨p, h1, rfl⟩, h2⟩
    exact ⟨p, ⟨h1, by simpa using fun e => h2 e.symm⟩, rfl⟩
theorem YaT {a : List UInt8} {M : Mv} (h : (M.map Prod.fst).Nodup) : ((rmv a M).map Prod.fst).Nodup := (List.Sublist.map _ List.filter_sublist).nodup h
theorem Yfy {a : List UInt8} {M : Mv} (h : a ∈ M.map Prod.fst) : (rmv a M).length < M.length := by
  obtain ⟨p, hp, rfl⟩ := List.mem_map.1 h
  have : ∀ M : Mv, p ∈ M → (rmv p.1 M).length < M.length := by
    intro M
    induction M with
    | nil => intro h; simp at h
    | cons q M ih =>
      intro hp
      have hle : (rmv p.1 M).length ≤ M.length := List.length_filter_le _ _
      simp only [rmv, List.filter_cons] at ih hle ⊢
      rcases List.mem_cons.1 hp with rfl | hp
      · simp only [beq_self_eq_true, Bool.not_true, Bool.false_eq_true, if_false, List.length_cons]; omega
      · have := ih hp
        split <;> simp only [List.length_cons] <;> omega
  exact this M hp
end Go.Tev.S1
namespace Go.Tev.S1
open Go.Abs Go.Proofs
open Classical in
noncomputable def Zmh (raw : List Cus) : Mv := (Zrb raw).filter fun q => decide ((q.1, true) ∉ Zbm raw)
def Zog (raw : List Cus) (D : Bm) (vis : List Nat) : Mv := (Zrb raw).filter fun q => decide (∀ j ∈ vis, D[j]? ≠ some (q.1, true))
theorem ZyP (raw : List Cus) (D : Bm) (vis : List Nat) (j : Nat) (a : List UInt8) (b : Bool) (hj : D[j]? = some (a, b)) : Zog raw D (j :: vis) = (bif b then rmv a (Zog raw D vis) else Zog raw D vis) := by
  cases b with
  | false =>
    simp only [cond_false, Zog]
    refine List.filter_congr fun q _ => ?_
    simp only [List.mem_cons, forall_eq_or_imp, hj, decide_eq_decide]
    constructor
    · exact fun h => h.2
    · exact fun h => ⟨by simp, h⟩
  | true =>
    simp only [cond_true, Zog, rmv, List.filter_filter]
    refine List.filter_congr fun q _ => ?_
    rw [Bool.eq_iff_iff]
    simp only [List.mem_cons, forall_eq_or_imp, hj, decide_eq_true_eq, Bool.and_eq_true, Bool.not_eq_true', beq_eq_false_iff_ne, ne_eq, Option.some.injEq, Prod.mk.injEq, and_true]
theorem YaG (raw : List Cus) (vis : List Nat) (h : ∀ j, j < (Zbm raw).length → j ∈ vis) : Zog raw (Zbm raw) vis = Zmh raw := by
  unfold Zog Zmh
  refine List.filter_congr fun q _ => ?_
  rw [Bool.eq_iff_iff]
  simp only [decide_eq_true_eq]
  constructor
  · intro h1 hm
    obtain ⟨j, hj, he⟩ := List.mem_iff_getElem.1 hm
    exact h1 j (h j hj) (by rw [List.getElem?_eq_getElem hj, he])
  · intro h1 j _ he
    exact h1 (List.mem_of_getElem? he)
theorem Zwj (raw : List Cus) (hn : (raw.map Cus.name).Nodup) (D : Bm) (vis : List Nat) : ((Zog raw D vis).map Prod.fst).Nodup := by
  have : ((Zrb raw).map Prod.fst).Nodup := by rw [Zl8]; exact hn
  exact (List.Sublist.map _ List.filter_sublist).nodup this
theorem Yeu (raw : List Cus) (hn : (raw.map Cus.name).Nodup) : Tri C (C.ann 25) YfB ⟨E25 raw (Zbm raw), [], H25 [] (Zrb raw)⟩ (Yhl (E25 raw (Zbm raw)) (H25 [] (Zmh raw))) := by
  obtain ⟨_, _, k7, _, _, _, _, _, _⟩ := Zw8
  refine Zgd (call := Zac C K0) Zah Zak Yjl (Ygm raw (Zbm raw) _) o25_4.2.1 o25_4.1 o25_4.2.2 (by kernel_rfl) (by kernel_rfl) (show opA _ (.tmp 29) = some (.d (.fmap (Zhh (Zbm raw)))) from rfl) Yjo fun p => ?_
  show Yii C (C.ann 25) 30 p (Zhh (Zbm raw)) _ ⟨ZzW raw (Zbm raw) p, [], H25 [] (Zrb raw)⟩ _
  refine Zom (call := Zac C K0) Zah Zak Yi1 o25_5.2.1 o25_5.1 o25_5.2.2 (by kernel_rfl) (by kernel_rfl) Yi4 o25_6.2.1 o25_6.1 o25_6.2.2 (by kernel_rfl) (by kernel_rfl)
    (fun vis s => s = ⟨ZzW raw (Zbm raw) p, [], H25 [] (Zog raw (Zbm raw) vis)⟩) ?_ (fun vis s hs => by subst hs; exact ⟨rfl, rfl⟩) ?_ ?_
  · have : Zog raw (Zbm raw) [] = Zrb raw := by
      unfold Zog
      rw [List.filter_eq_self]
      intro q _
      simp
    rw [this]
  · rintro vis s rfl hall
    refine ⟨_, YaU raw _ p _ false [], rfl, ?_⟩
    refine ⟨_, rfl, ?_⟩
    rw [YaG raw vis (fun j hj => hall j (by simpa [Zhh] using hj))]
    refine sub_list (s := ⟨ZzW raw (Zbm raw) p ++ [(32, .val (.d (.bool false)))], [], H25 [] (Zmh raw)⟩) fun q hq => ?_
    simp only [E25, List.mem_cons, List.not_mem_nil, or_false] at hq
    rcases hq with rfl | rfl | rfl | rfl | rfl <;> exact ⟨rfl, rfl⟩
  · rintro vis s j k v rfl hj hjv
    rw [Zhh, List.getElem?_map] at hj
    cases huj : (Zbm raw)[j]? with
    | none => rw [huj] at hj; cases hj
    | some q =>
      obtain ⟨a, b⟩ := q
      rw [huj] at hj
      cases hj
      refine ⟨_, _, YaU raw _ p _ true [.str a, .bool b], rfl, rfl, YgY raw _ p _ (.str a) (.bool b), ?_⟩
      refine Zbr (call := Zac C K0) Zah mixed Zak k7 (YgT raw _ p [] _ (Zwj raw hn _ vis) a b) ?_
      simp only [Za0]
      refine ⟨_, rfl, ?_⟩
      rw [ZyP raw _ vis j a b huj]
      refine ⟨fun kk vv hv => ?_, rfl, rfl⟩
      simp only [St.trim]
      rw [alook_trimE _ _ _ (by rw [ZaJ hv]; rfl)]
      exact ZaJ hv
def YcN (u : Bm) (Op : Mv) (vis : List Nat) : Bool := decide (∃ j ∈ vis, ∃ q, u[j]? = some q ∧ (Zbd BEq.beq q.1 Op).isSome = true)
end Go.Tev.S1
namespace Go.Tev.S1
open Go.Abs Go.Proofs
def YfR (u : Bm) (Op : Mv) : Bool := u.any fun p => (Zbd BEq.beq p.1 Op).isSome
theorem YdG (raw : List Cus) (D : Bm) (i : Nat) (x : Cus) (Sv Op : Mv) : Tri C (C.ann 25) Yfo ⟨c25 raw D i x false, [], H25 Sv Op⟩ (Yhl (c25 raw D i x (YfR (ZhY [] x.val) Op)) (H25 Sv Op)) := by
  obtain ⟨_, k20, _, _, _, _, _, _, _, _⟩ := ZuF
  refine Zgd (call := Zac C K0) Zah Zak Yiz (Yea raw D i x false _) o25_17.2.1 o25_17.1 o25_17.2.2 (by kernel_rfl) (by kernel_rfl) (show opA _ (.tmp 59) = some (.d (.fmap (Zhh (ZhY [] x.val)))) from rfl) Yjo fun p => ?_
  show Yii C (C.ann 25) 60 p (Zhh (ZhY [] x.val)) _ ⟨g25 raw D i x false p, [], H25 Sv Op⟩ _
  refine Zom (call := Zac C K0) Zah Zak Yif o25_18.2.1 o25_18.1 o25_18.2.2 (by kernel_rfl) (by kernel_rfl) YiA o25_19.2.1 o25_19.1 o25_19.2.2 (by kernel_rfl) (by kernel_rfl)
    (fun vis s => s = ⟨g25 raw D i x (YcN (ZhY [] x.val) Op vis) p, [], H25 Sv Op⟩) ?_ (fun vis s hs => by subst hs; exact ⟨rfl, rfl⟩) ?_ ?_
  · have : YcN (ZhY [] x.val) Op [] = false := by simp [YcN]
    rw [this]
  · rintro vis s rfl hall
    refine ⟨_, Zxj raw D i x _ p _ false [], rfl, ?_⟩
    refine ⟨_, rfl, ?_⟩
    have : YcN (ZhY [] x.val) Op vis = YfR (ZhY [] x.val) Op := by
      rw [Bool.eq_iff_iff]
      unfold YcN YfR
      rw [decide_eq_true_eq, List.any_eq_true]
      constructor
      · rintro ⟨j, _, q, hq, h⟩; exact ⟨q, List.mem_of_getElem? hq, h⟩
      · rintro ⟨q, hq, h⟩
        obtain ⟨j, hj, rfl⟩ := List.mem_iff_getElem.1 hq
        exact ⟨j, hall j (by simpa [Zhh] using hj), _, List.getElem?_eq_getElem hj, h⟩
    rw [this]
    refine sub_list (s := ⟨g25 raw D i x (YfR (ZhY [] x.val) Op) p ++ [(62, .val (.d (.bool false)))], [], H25 Sv Op⟩) fun q hq => ?_
    simp only [c25, b25, F25, E25, x25, List.cons_append, List.nil_append, List.mem_cons, List.not_mem_nil, or_false] at hq
    rcases hq with rfl | rfl | rfl | rfl | rfl | rfl | rfl | rfl | rfl | rfl | rfl | rfl | rfl | rfl <;> exact ⟨rfl, rfl⟩
  · rintro vis s j k v rfl hj hjv
    rw [Zhh, List.getElem?_map] at hj
    cases huj : (ZhY [] x.val)[j]? with
    | none => rw [huj] at hj; cases hj
    | some q =>
      obtain ⟨a, b⟩ := q
      rw [huj] at hj
      cases hj
      refine ⟨_, _, Zxj raw D i x _ p _ true [.str a, .bool b], rfl, rfl, YdW raw D i x _ p _ (.str a) (.bool b), ?_⟩
      refine Zbr (call := Zac C K0) Zah mixed Zak k20 (Yei raw D i x _ p Sv Op a) ?_
      simp only [Za0]
      refine ⟨_, rfl, ?_⟩
      have : YcN (ZhY [] x.val) Op (j :: vis) = (YcN (ZhY [] x.val) Op vis || (Zbd BEq.beq a Op).isSome) := by
        rw [Bool.eq_iff_iff]
        unfold YcN
        simp only [List.mem_cons, Bool.or_eq_true, decide_eq_true_eq]
        constructor
        · rintro ⟨j', rfl | h1, q, hq, h⟩
          · rw [huj] at hq; cases hq; exact .inr h
          · exact .inl ⟨j', h1, q, hq, h⟩
        · rintro (⟨j', h1, q, hq, h⟩ | h)
          · exact ⟨j', .inr h1, q, hq, h⟩
          · exact ⟨j, .inl rfl, _, huj, h⟩
      rw [this]
      refine ⟨fun kk vv hv => ?_, rfl, rfl⟩
      simp only [St.trim]
      have hv2 : Zae (g25 raw D i x (YcN (ZhY [] x.val) Op vis || (Zbd BEq.beq a Op).isSome) p ++ [(62, .val (.d (.bool true)))]) kk = some vv := ZaJ hv
      have hk : (Zae (g25 raw D i x (YcN (ZhY [] x.val) Op vis) p ++ [(62, .val (.d (.bool true)))]) kk).isSome = true := by
        have hm := sub_list.alook_mem0' hv2
        simp only [g25, c25, b25, F25, E25, x25, List.cons_append, List.nil_append, List.mem_cons, List.not_mem_nil, or_false, Prod.mk.injEq] at hm
        rcases hm with ⟨rfl, _⟩ | ⟨rfl, _⟩ | ⟨rfl, _⟩ | ⟨rfl, _⟩ | ⟨rfl, _⟩ | ⟨rfl, _⟩ | ⟨rfl, _⟩ | ⟨rfl, _⟩ | ⟨rfl, _⟩ | ⟨rfl, _⟩ | ⟨rfl, _⟩ | ⟨rfl, _⟩ | ⟨rfl, _⟩ | ⟨rfl, _⟩ | ⟨rfl, _⟩ | ⟨rfl, _⟩ <;> rfl
      rw [alook_trimE _ _ _ hk]
      exact ZaJ hv
theorem Yis (raw : List Cus) (D : Bm) (i : Nat) (x : Cus) (Sv Op : Mv) (h' : List AObj) (g2 : h'[0]? = some (.map (ZjC Sv))) (g3 : h'[1]? = some (.map (ZjC Op))) (g4 : h'[2]? = some (.map ((Zhh (ZhY [] x.val)).map fun p => (p.1, .d p.2)))) :
    Sheds 2 ⟨b25 raw D i x ++ [(12, .val (.mp 2))], [], h'⟩ ⟨b25 raw D i x ++ [(12, .val (.d (.fmap (Zhh (ZhY [] x.val)))))], [], H25 Sv Op⟩ := by
  have hd : ∀ M : Mv, ShedO 2 h' (.map (ZjC M)) (.map (ZjC M)) := fun M => .map _ _ rfl fun j a b ha hb => by
    rw [ha] at hb
    cases hb
    obtain ⟨p, _, rfl⟩ := List.mem_map.1 (List.mem_of_getElem? ha)
    exact ⟨rfl, .d _⟩
  refine ⟨rfl, rfl, ?_, ?_⟩
  · intro id o2 ho
    rcases id with _ | _ | id
    · cases ho; exact ⟨_, g2, hd Sv⟩
    · cases ho; exact ⟨_, g3, hd Op⟩
    · simp [H25] at ho
  · intro k v2 hv
    have hm := sub_list.alook_mem0' hv
    have key : ∀ (k : Nat) (v2 v : SV), Zae (b25 raw D i x ++ [(12, SV.val (.mp 2))]) k = some v → ShedSV 2 h' v v2 → ∃ v, Zae (b25 raw D i x ++ [(12, SV.val (.mp 2))]) k = some v ∧ ShedSV 2 h' v v2 := fun k v2 v h1 h2 => ⟨v, h1, h2⟩
    simp only [b25, F25, E25, x25, List.cons_append, List.nil_append, List.mem_cons, List.not_mem_nil, or_false, Prod.mk.injEq] at hm
    rcases hm with ⟨rfl, rfl⟩ | ⟨rfl, rfl⟩ | ⟨rfl, rfl⟩ | ⟨rfl, rfl⟩ | ⟨rfl, rfl⟩ | ⟨rfl, rfl⟩ | ⟨rfl, rfl⟩ | ⟨rfl, rfl⟩ | ⟨rfl, rfl⟩ | ⟨rfl, rfl⟩ | ⟨rfl, rfl⟩ | ⟨rfl, rfl⟩ | ⟨rfl, rfl⟩
    · exact key _ _ _ rfl (.val _ _ (.d _))
    · exact key _ _ _ rfl (.val _ _ (.d _))
    · exact key _ _ _ rfl (.val _ _ (.d _))
    · exact key _ _ _ rfl (.val _ _ (.mp 0 (by decide)))
    · exact key _ _ _ rfl (.val _ _ (.mp 1 (by decide)))
    · exact key _ _ _ rfl (.val _ _ (.d _))
    · exact key _ _ _ rfl (.val _ _ (.d _))
    · exact key _ _ _ rfl (.val _ _ (.d _))
    · exact key _ _ _ rfl (.val _ _ (.d _))
    · exact key _ _ _ rfl (.box _)
    · exact key _ _ _ rfl (.val _ _ (.d _))
    · exact key _ _ _ rfl (.val _ _ (.d _))
    · exact key _ _ _ rfl (.val _ _ (.frz 2 _ (Nat.le_refl _) g4))
end Go.Tev.S1
namespace Go.Tev.S1
open Go.Abs Go.Proofs
def QB (raw : List Cus) (D : Bm) (i : Nat) (x : Cus) (Sv Op : Mv) : Out → Prop := fun o => (ZcQ Op x = false ∧ ∃ s, o = .norm s ∧ Sub ⟨F25 raw D i ++ [(42, .val (.d (.bool true)))], [], H25 Sv Op⟩ s) ∨
  (ZcQ Op x = true ∧ ∃ s, o = .goto 0 s ∧ Sub ⟨E25 raw D, [], H25 (Zy5 Sv x) (rmv x.name Op)⟩ s)
theorem ZuU {Op : Mv} {x : Cus} (h : Zbd BEq.beq x.name Op = none) : ZcQ Op x = false := by simp [ZcQ, h]
theorem ZmO {Op : Mv} {x : Cus} {u} (h : Zbd BEq.beq x.name Op = some u) : ZcQ Op x = !YfR (ZhY [] x.val) Op := by simp [ZcQ, h, YfR]
theorem YaE (raw : List Cus) (D : Bm) (i : Nat) (Sv Op : Mv) (more : List (Nat × SV)) : Sub ⟨F25 raw D i ++ [(42, .val (.d (.bool true)))], [], H25 Sv Op⟩ ((⟨F25 raw D i ++ [(42, .val (.d (.bool true)))] ++ more, [], H25 Sv Op⟩ : St).trim (F25 raw D i ++ [(42, .val (.d (.bool true)))])) := by
  refine ⟨fun k v hv => ?_, rfl, rfl⟩
  simp only [St.trim]
  rw [alook_trimE _ _ _ (by rw [hv]; rfl)]
  exact ZaJ hv
theorem Yh1 (raw : List Cus) (D : Bm) (i : Nat) (x : Cus) (hx : raw[i]? = some x) (hl : Zal x.val ≤ B) (Sv Op : Mv) (hS : OkS Sv) (hO : (Op.map Prod.fst).Nodup) (hd : ∀ a ∈ Op.map Prod.fst, a ∉ Sv.map Prod.fst) :
    Tri C (C.ann 25) (.block 3 BD25) ⟨F25 raw D i ++ [(42, .val (.d (.bool true)))], [], H25 Sv Op⟩ (QB raw D i x Sv Op) := by
  obtain ⟨_, _, _, _, _, k11, k12, k14, k15⟩ := Zw8
  obtain ⟨k16, _, k23, k24, k25, _, _, _, _, _⟩ := ZuF
  refine ZbI ?_
  refine ZaF (call := Zac C K0) Zah mixed Zak k11 (YdF raw D i x hx _ _) ?_
  cases hm : Zbd BEq.beq x.name Op with
  | none =>
    refine ZbC (Q1 := fun o => o = .exit 3 ⟨F25 raw D i ++ [(42, .val (.d (.bool true))), x25 x, (11, .val (.d (.bool false))), (53, .val (.d (.bool true)))], [], H25 Sv Op⟩) (Zbr (call := Zac C K0) Zah mixed Zak k12 (YaS raw D i x _ Sv Op hm) rfl) (fun s hs => by cases hs) ?_
    rintro o rfl _
    refine .inl ⟨ZuU hm, _, rfl, ?_⟩
    exact YaE raw D i Sv Op [x25 x, (11, .val (.d (.bool false))), (53, .val (.d (.bool true)))]
  | some u =>
    refine ZaF (call := Zac C K0) Zah mixed Zak k12 (YbN raw D i x _ Sv Op hm) ?_
    obtain ⟨h', g1, g2, g3, g4⟩ := Zm3 x.val hl (.map (ZjC Sv)) (.map (ZjC Op))
    refine Zvk (call := Zac C K0) Zah mixed Zak k14 k15 (Yff raw D i x Sv Op) (YeD raw D i x Sv Op h' g1) (Yis raw D i x Sv Op h' g2 g3 g4) (by simp [H25]) ?_
    refine ZaF (call := Zac C K0) Zah mixed Zak k16 (Yfg raw D i x _ _) ?_
    refine ZiT (YdG raw D i x Sv Op) ?_
    cases ha : YfR (ZhY [] x.val) Op with
    | true =>
      refine ZbC (Q1 := fun o => o = .exit 3 ⟨c25 raw D i x true ++ [(72, .val (.d (.bool true)))], [], H25 Sv Op⟩) (Zbr (call := Zac C K0) Zah mixed Zak k23 (Zyb raw D i x _).2 rfl) (fun s hs => by cases hs) ?_
      rintro o rfl _
      refine .inl ⟨by rw [ZmO hm, ha]; rfl, _, rfl, ?_⟩
      exact YaE raw D i Sv Op [x25 x, (11, .val (.d (.bool true))), (53, .val (.d (.bool false))), (12, .val (.d (.fmap (Zhh (ZhY [] x.val))))), (13, .val (.d (.bool true))), (72, .val (.d (.bool true)))]
    | false =>
      have hS' : x.name ∉ Sv.map Prod.fst := hd _ (Zlv (by rw [hm]; rfl))
      refine ZaF (call := Zac C K0) Zah mixed Zak k23 (Zyb raw D i x _).1 ?_
      refine ZaF (call := Zac C K0) Zah mixed Zak k24 (Ydm raw D i x Sv Op hO) ?_
      refine ZaF (call := Zac C K0) Zah mixed Zak k25 (Yds raw D i x Sv (rmv x.name Op) _ _ (Zal (Ze7 (lkM Sv) x.val).1) hS' (Zvi hS hl) fun h0 => Zwo (Yab hS hl h0)) ?_
      refine Zbr (call := Zac C K0) (n := 0) Zah mixed Zak rfl rfl ?_
      refine .inr ⟨by rw [ZmO hm, ha]; rfl, _, rfl, ?_⟩
      refine ⟨fun k v hv => ?_, rfl, rfl⟩
      show Zae (d25 raw D i x ++ _) k = some v
      unfold d25 c25 b25 F25
      exact ZaJ (ZaJ (ZaJ (ZaJ (ZaJ hv))))
def QL (raw : List Cus) (D : Bm) (Sv Op : Mv) : Out → Prop := fun o => (raw.find? (ZcQ Op) = none ∧ ∃ s, o = .norm s ∧ Sub ⟨E25 raw D, [], H25 Sv Op⟩ s) ∨
  (∃ x, raw.find? (ZcQ Op) = some x ∧ ∃ s, o = .goto 0 s ∧ Sub ⟨E25 raw D, [], H25 (Zy5 Sv x) (rmv x.name Op)⟩ s)
theorem Ygc {raw : List Cus} {f : Cus → Bool} : ∀ {i : Nat} {x : Cus}, raw[i]? = some x → f x = true → (∀ j y, j < i → raw[j]? = some y → f y = false) → raw.find? f = some x := by
  induction raw with
  | nil => intro i x hx; simp at hx
  | cons y r ih =>
    intro i x hx hf h
    cases i with
    | zero => cases hx; exact List.find?_cons_of_pos hf
    | succ i =>
      rw [List.find?_cons_of_neg (by rw [h 0 y (Nat.succ_pos _) rfl]; decide)]
      exact ih (by simpa using hx) hf fun j z hj hz => h (j + 1) z (by omega) (by simpa using hz)
theorem Yc2 (raw : List Cus) (hok : ZfI raw) (Sv Op : Mv) (D : Bm) (hS : OkS Sv) (hO : (Op.map Prod.fst).Nodup) (hd : ∀ a ∈ Op.map Prod.fst, a ∉ Sv.map Prod.fst) :
    Tri C (C.ann 25) (.seq Zz1 LP25) ⟨E25 raw D, [], H25 Sv Op⟩ (QL raw D Sv Op) := by
  obtain ⟨_, _, _, k9, k10, _, _, _, _⟩ := Zw8
  obtain ⟨_, _, _, _, _, k28, _, _, _, _⟩ := ZuF
  have hB : B = 2 ^ 36 := rfl
  have hV : V = 2 ^ 24 := rfl
  have hlen : raw.length < 2 ^ 40 := Nat.lt_of_le_of_lt hok.1 (by rw [hB]; decide)
  have e0 : ∀ (i : Nat) (s : St), Sub ⟨E25 raw D, [], H25 Sv Op⟩ ((⟨F25 raw D i ++ [(42, .val (.d (.bool false)))], [], H25 Sv Op⟩ : St).trim (F25 raw D 0)) := fun i s => by
    refine sub_list (s := ⟨F25 raw D i ++ [(42, .val (.d (.bool false)))], [], H25 Sv Op⟩) fun q hq => ?_
    simp only [E25, List.mem_cons, List.not_mem_nil, or_false] at hq
    rcases hq with rfl | rfl | rfl | rfl | rfl <;> exact ⟨rfl, rfl⟩
  refine ZaF (call := Zac C K0) Zah mixed Zak k9 (YhI raw D _) ?_
  refine ZbI ?_
  refine Zfg (fun m s => ∃ i, i ≤ raw.length ∧ m = raw.length - i ∧ s = ⟨F25 raw D i, [], H25 Sv Op⟩ ∧ ∀ j y, j < i → raw[j]? = some y → ZcQ Op y = false) (n := raw.length) ⟨0, Nat.zero_le _, rfl, rfl, fun j y hj => absurd hj (Nat.not_lt_zero _)⟩ ?_
  rintro m s ⟨i, hi, rfl, rfl, hno⟩
  refine ZaF (call := Zac C K0) Zah mixed Zak k10 (YdH raw D i _) ?_
  rcases Nat.lt_or_ge i raw.length with hlt | hge
  · have hx := List.getElem?_eq_getElem hlt
    have hdt : decide ((i : Int) < (raw.length : Int)) = true := by simpa using hlt
    rw [hdt]
    refine ZbC (Q1 := fun o => o = .norm ⟨F25 raw D i ++ [(42, .val (.d (.bool true)))], [], H25 Sv Op⟩) (Zjd (b := true) rfl (Zs7 rfl)) ?_ (fun o h1 h2 => absurd h1 (h2 _))
    rintro s hs
    cases hs
    refine ZbC (Yh1 raw D i raw[i] hx (Nat.le_trans (hok.2 raw[i] (List.getElem_mem hlt)) (by rw [hB, hV]; decide)) Sv Op hS hO hd) ?_ ?_
    · rintro s (⟨hr, s', hs, hsub⟩ | ⟨hr, s', hs, hsub⟩)
      · cases hs
        refine ZhC hsub ?_
        refine Zbr (call := Zac C K0) Zah mixed Zak k28 (Yda raw D i (by omega) _ _) ?_
        refine ⟨raw.length - (i + 1), ⟨F25 raw D (i + 1), [], H25 Sv Op⟩, by omega, ⟨i + 1, hlt, rfl, rfl, fun j y hj hy => ?_⟩, fun k v hv => ZaJ hv, rfl, rfl⟩
        rcases Nat.lt_or_ge j i with h | h
        · exact hno j y h hy
        · have : j = i := by omega
          subst this
          rw [hx] at hy
          cases hy
          exact hr
      · cases hs
    · rintro o (⟨hr, s', rfl, hsub⟩ | ⟨hr, s', rfl, hsub⟩) hne
      · exact absurd rfl (hne s')
      · simp only [Za0]
        exact .inr ⟨raw[i], Ygc hx hr hno, s', rfl, hsub⟩
  · have he : i = raw.length := by omega
    subst he
    rw [show decide ((raw.length : Int) < (raw.length : Int)) = false by simp]
    refine ZbC (Q1 := fun o => o = .exit 2 ⟨F25 raw D raw.length ++ [(42, .val (.d (.bool false)))], [], H25 Sv Op⟩) (Zjd (b := false) rfl (Zx4 rfl)) (fun s hs => by cases hs) ?_
    rintro o rfl _
    simp only [Za0]
    refine .inl ⟨?_, _, rfl, e0 _ ⟨[], [], []⟩⟩
    rw [List.find?_eq_none]
    intro y hy
    obtain ⟨j, hj, rfl⟩ := List.mem_iff_getElem.1 hy
    rw [hno j _ hj (List.getElem?_eq_getElem hj)]
    decide
end Go.Tev.S1
namespace Go.Abs
theorem Has.hasn {P : Program} {f : FuncId} {args : List AV} {h : List AObj} {r : AV} {h' : List AObj} (H : Has P f args h r h') : HasN P f args h (fun r2 h2 => r2 = r ∧ h2 = h') :=
  ⟨H.1, fun w own vs H1 H2 H3 H4 => (H.2 w own vs H1 H2 H3 H4).mono fun e w' ⟨v, own', h1, h2, h3, h4, h5, h6⟩ => ⟨v, own', r, h', ⟨rfl, rfl⟩, h1, h2, h3, h4, h5, h6⟩⟩
end Go.Abs
namespace Go.Tev.S1
open Go.Abs Go.Proofs
def ZgS (raw : List Cus) (Sv : Mv) : List Cus := raw.filterMap fun x => (Zbd BEq.beq x.name Sv).map fun v => ⟨x.name, v⟩
theorem ZxU (raw : List Cus) (Sv : Mv) : (ZgS raw Sv).length ≤ raw.length := List.length_filterMap_le _ _
theorem Yet (raw : List Cus) (hl : raw.length < 2 ^ 40) (D : Bm) (Sv Op : Mv) : Tri C (C.ann 25) (.seq ZtA (.block 6 (.loop ZsG))) ⟨E25 raw D ++ [(19, .own [])], [], H25 Sv Op⟩ (Yhl (n25 raw D (ZgS raw Sv) raw.length) (H25 Sv Op)) := by
  obtain ⟨_, _, _, _, _, _, _, k30, kL, _⟩ := ZuF
  refine ZaF (call := Zac C K0) Zah mixed Zak k30 (YeU raw D _) ?_
  refine ZbI ?_
  refine Zfg (fun m s => ∃ i, i ≤ raw.length ∧ m = raw.length - i ∧ s = ⟨n25 raw D (ZgS (raw.take i) Sv) i, [], H25 Sv Op⟩) (n := raw.length) ⟨0, Nat.zero_le _, rfl, rfl⟩ ?_
  rintro m s ⟨i, hi, rfl, rfl⟩
  rcases Nat.lt_or_ge i raw.length with hlt | hge
  · have hx := List.getElem?_eq_getElem hlt
    have hle : (ZgS (raw.take i) Sv).length ≤ i := Nat.le_trans (ZxU _ _) (List.length_take_le _ _)
    have htk : ZgS (raw.take (i + 1)) Sv = ZgS (raw.take i) Sv ++ (match Zbd BEq.beq raw[i].name Sv with | some v => [⟨raw[i].name, v⟩] | none => []) := by
      rw [ZaP hx]
      unfold ZgS
      rw [List.filterMap_append]
      congr 1
      simp only [List.filterMap_cons, List.filterMap_nil]
      cases Zbd BEq.beq raw[i].name Sv <;> rfl
    cases hS : Zbd BEq.beq raw[i].name Sv with
    | none =>
      rw [hS, List.append_nil] at htk
      refine Zbr (call := Zac C K0) Zah mixed Zak kL (Ye5 raw D _ i _ hx hl Sv Op hS) ?_
      refine ⟨raw.length - (i + 1), ⟨n25 raw D (ZgS (raw.take i) Sv) (i + 1), [], _⟩, by omega, ⟨i + 1, hlt, rfl, by rw [htk]⟩, fun k v hv => ZaJ hv, rfl, rfl⟩
    | some v =>
      rw [hS] at htk
      have hst : (⟨n25 raw D (ZgS (raw.take i) Sv ++ [⟨raw[i].name, v⟩]) (i + 1), [], H25 Sv Op⟩ : St) = ⟨n25 raw D (ZgS (raw.take (i + 1)) Sv) (i + 1), [], H25 Sv Op⟩ := by rw [htk]
      refine Zbr (call := Zac C K0) Zah mixed Zak kL (Yc9 raw D _ i _ hx hl hle Sv Op hS) ?_
      refine ⟨raw.length - (i + 1), ⟨n25 raw D (ZgS (raw.take i) Sv ++ [⟨raw[i].name, v⟩]) (i + 1), [], H25 Sv Op⟩, by omega, ⟨i + 1, hlt, rfl, hst⟩, ?_⟩
      exact ⟨fun k v hv => ZaJ hv, rfl, rfl⟩
  · have he : i = raw.length := by omega
    subst he
    refine Zbr (call := Zac C K0) Zah mixed Zak kL (Ydb raw D _ _) ?_
    simp only [Za0]
    refine ⟨_, rfl, ?_⟩
    rw [List.take_length]
    refine ⟨fun k v hv => ?_, rfl, rfl⟩
    have hk : (Zae (n25 raw D [] 0) k).isSome = true := by
      have hm := sub_list.alook_mem0' hv
      simp only [n25, E25, List.cons_append, List.nil_append, List.mem_cons, List.not_mem_nil, or_false, Prod.mk.injEq] at hm
      rcases hm with ⟨rfl, _⟩ | ⟨rfl, _⟩ | ⟨rfl, _⟩ | ⟨rfl, _⟩ | ⟨rfl, _⟩ | ⟨rfl, _⟩ | ⟨rfl, _⟩ | ⟨rfl, _⟩ | ⟨rfl, _⟩ <;> rfl
    simp only [St.trim]
    rw [alook_trimE _ _ _ hk]
    exact ZaJ hv
def QP (raw : List Cus) (D : Bm) (Sv Op : Mv) : Out → Prop := fun o => (raw.find? (ZcQ Op) = none ∧ ∃ s, o = .ret s ∧ Zdw C s Try.f25.results.toList = some [.d (.slc ((ZgS raw Sv).map Cus.enc))]) ∨
  (∃ x, raw.find? (ZcQ Op) = some x ∧ ∃ s, o = .goto 0 s ∧ Sub ⟨E25 raw D, [], H25 (Zy5 Sv x) (rmv x.name Op)⟩ s)
theorem Yiy (raw : List Cus) (hok : ZfI raw) (Sv Op : Mv) (D : Bm) (hS : OkS Sv) (hO : (Op.map Prod.fst).Nodup) (hd : ∀ a ∈ Op.map Prod.fst, a ∉ Sv.map Prod.fst) :
    Tri C (C.ann 25) YiZ ⟨E25 raw D, [], H25 Sv Op⟩ (QP raw D Sv Op) := by
  obtain ⟨_, _, _, _, _, _, k29, _, _, k37⟩ := ZuF
  have hB : B = 2 ^ 36 := rfl
  have hlen : raw.length < 2 ^ 40 := Nat.lt_of_le_of_lt hok.1 (by rw [hB]; decide)
  refine ZbC (Yc2 raw hok Sv Op D hS hO hd) ?_ ?_
  · rintro s (⟨hr, s', hs, hsub⟩ | ⟨x, hr, s', hs, hsub⟩)
    · cases hs
      refine ZhC hsub ?_
      refine ZaF (call := Zac C K0) Zah mixed Zak k29 (YeE raw D _) ?_
      refine ZiT (Yet raw hlen D Sv Op) ?_
      obtain ⟨s1, e1, e2⟩ := YdC (call := Zac C K0) raw D (ZgS raw Sv) raw.length (H25 Sv Op)
      refine ZaF (call := Zac C K0) Zah mixed Zak k37 e1 ?_
      refine Zbr (call := Zac C K0) (n := 0) Zah mixed Zak rfl rfl ?_
      exact .inl ⟨hr, s1, rfl, e2⟩
    · cases hs
  · rintro o (⟨hr, s', rfl, hsub⟩ | ⟨x, hr, s', rfl, hsub⟩) hne
    · exact absurd rfl (hne s')
    · exact .inr ⟨x, hr, s', rfl, hsub⟩
noncomputable def Zew (raw : List Cus) : Mv := ZjA raw (Zmh raw).length [] (Zmh raw)
theorem Yg5 : findLabel S25 0 = some (.seq .skip YiZ) := by kernel_rfl
theorem Yaq (raw : List Cus) (hn : (raw.map Cus.name).Nodup) (hok : ZfI raw) : Has Try.prog 25 [.d (d44 raw)] [] (.d (.slc ((ZgS raw (Zew raw)).map Cus.enc))) [] := by
  obtain ⟨k0, k2, _, _, _, _, _, _, _⟩ := Zw8
  have hB : B = 2 ^ 36 := rfl
  have hlen : raw.length < 2 ^ 40 := Nat.lt_of_le_of_lt hok.1 (by rw [hB]; decide)
  have h : HasN Try.prog 25 [.d (d44 raw)] [] (fun r h' => r = .d (.slc ((ZgS raw (Zew raw)).map Cus.enc))) := by
    refine Zgh (C := C) (f := 25) (fn := Try.f25) Try.func25 Ygb (by kernel_rfl) ?_
    refine ZaF (call := Zac C K0) Zah mixed Zak k0 (Ygh raw) ?_
    let I : Nat → St → Prop := fun m s => ∃ Sv Op n, s = ⟨E25 raw (Zbm raw), [], H25 Sv Op⟩ ∧ m = Op.length ∧ OkS Sv ∧ (Op.map Prod.fst).Nodup ∧ (∀ a ∈ Op.map Prod.fst, a ∉ Sv.map Prod.fst) ∧ Op.length ≤ n ∧ ZjA raw n Sv Op = Zew raw
    have pass : ∀ m s, I m s → Tri C (C.ann 25) YiZ s fun o => match o with
        | .goto l' s' => l' = 0 ∧ ∃ k s2, k < m ∧ I k s2 ∧ Sub s2 s'
        | o => endQ C Try.f25 (fun r h' => r = .d (.slc ((ZgS raw (Zew raw)).map Cus.enc))) o := by
      rintro m s ⟨Sv, Op, n, rfl, rfl, hS, hO, hd, hle, hs⟩
      refine Zky (Yiy raw hok Sv Op (Zbm raw) hS hO hd) ?_
      rintro o (⟨hr, s', rfl, he⟩ | ⟨x, hr, s', rfl, hsub⟩)
      · refine ⟨_, he, ?_⟩
        have : ZjA raw n Sv Op = Sv := by
          cases n with
          | zero => rfl
          | succ n => simp only [ZjA, hr]
        rw [← hs, this]; rfl
      · have hx := List.find?_some hr
        have hxo : x.name ∈ Op.map Prod.fst := by
          simp only [ZcQ, Bool.and_eq_true] at hx
          exact Zlv hx.1
        have hlt := Yfy hxo
        cases n with
        | zero => omega
        | succ n =>
          simp only [ZjA, hr] at hs
          exact ⟨rfl, (rmv x.name Op).length, _, hlt, ⟨Zy5 Sv x, rmv x.name Op, n, rfl, rfl, Yau hS x, YaT hO, fun a ha hb => by
            obtain ⟨h1, h2⟩ := rmv_names.1 ha
            rcases ZqM Sv x a hb with h3 | h3
            · exact hd a h1 h3
            · exact h2 h3, by omega, hs⟩, hsub⟩
    have first : I (Zmh raw).length ⟨E25 raw (Zbm raw), [], H25 [] (Zmh raw)⟩ := by
      refine ⟨[], Zmh raw, (Zmh raw).length, rfl, rfl, fun p hp => by simp at hp, ?_, fun a _ hb => by simp at hb, Nat.le_refl _, rfl⟩
      have : ((Zrb raw).map Prod.fst).Nodup := by rw [Zl8]; exact hn
      exact (List.Sublist.map _ List.filter_sublist).nodup this
    refine YbO Yg5 I ?_ ?_
    · rw [Yec]
      refine ZbC (Q1 := fun o => o = .norm ⟨[(0, .val (.d (d44 raw))), (2, .val (.d (.slc []))), (3, .val (.d (.fmap (Zhh (Zbm raw)))))], [], []⟩) ?_ ?_ (fun o h1 h2 => absurd h1 (h2 _))
      · refine ZjI (call := Zac C K0) Zah Zak Yjd (YhG raw) o25_1.1 (Q2 := fun s => s = ⟨[(0, .val (.d (d44 raw))), (2, .val (.d (.slc [])))], [(25, .a (.d (.fmap (Zhh (Zbm raw))))), (24, .a (.d (d44 raw)))], []⟩) ?_ ?_
        · intro own a w S K X hKK
          refine Zi7 (C := C) (st := ⟨[(0, .val (.d (d44 raw))), (2, .val (.d (.slc [])))], [(24, .a (.d (d44 raw)))], []⟩) Zah o25_1.2.2 rfl (fv := .d (.fn 44 [])) (vs := [.d (d44 raw)]) (caps := []) rfl rfl rfl (ZwP raw hn hok).hasn (fun r h' ⟨h1, h2⟩ => by
            subst h1 h2
            rw [o25_1.2.1]
            exact ⟨_, rfl⟩) own a w S K X ?_
          rintro a' w' st' own' ⟨r, h', ⟨rfl, rfl⟩, hput⟩
          rw [o25_1.2.1] at hput
          cases hput
          exact hKK a' w' _ own' rfl
        · rintro s rfl
          exact ⟨_, Ydh raw (Zbm raw), rfl⟩
      · rintro s hs
        cases hs
        refine ZaF (call := Zac C K0) Zah mixed Zak k2 (Ygs raw (Zbm raw)) ?_
        refine ZbC (Q1 := fun o => o = .norm ⟨E25 raw (Zbm raw), [], H25 [] (Zrb raw)⟩) ?_ ?_ (fun o h1 h2 => absurd h1 (h2 _))
        · refine ZjI (call := Zac C K0) Zah Zak Yjj (Yhz raw (Zbm raw)) o25_3.1 (Q2 := fun s => s = ⟨[(0, .val (.d (d44 raw))), (2, .val (.d (.slc []))), (3, .val (.d (.fmap (Zhh (Zbm raw))))), (4, .val (.mp 0))], [(28, .a (.mp 1)), (27, .a (.d (d44 raw)))], H25 [] (Zrb raw)⟩) ?_ ?_
          · intro own a w S K X hKK
            refine Zi7 (C := C) (st := ⟨[(0, .val (.d (d44 raw))), (2, .val (.d (.slc []))), (3, .val (.d (.fmap (Zhh (Zbm raw))))), (4, .val (.mp 0))], [(27, .a (.d (d44 raw)))], [.map []]⟩) Zah o25_3.2.2 rfl (fv := .d (.fn 40 [])) (vs := [.d (d44 raw)]) (caps := []) rfl rfl rfl (Zzd raw hn hlen (.map [])) (fun r h' ⟨h1, h2⟩ => by
              subst h1 h2
              rw [o25_3.2.1]
              exact ⟨_, rfl⟩) own a w S K X ?_
            rintro a' w' st' own' ⟨r, h', ⟨rfl, rfl⟩, hput⟩
            rw [o25_3.2.1] at hput
            cases hput
            exact hKK a' w' _ own' rfl
          · rintro s rfl
            exact ⟨_, Ye3 raw (Zbm raw) _, rfl⟩
        · rintro s hs
          cases hs
          refine ZiT (Yeu raw hn) ?_
          refine ZaF (call := Zac C K0) (n := 0) Zah mixed Zak rfl rfl ?_
          refine Zky (pass _ _ first) ?_
          intro o ho
          cases o with
          | goto l s => obtain ⟨h1, k, s2, _, h2, h3⟩ := ho; exact ⟨h1, k, s2, h2, h3⟩
          | _ => exact ho
    · rintro m s hI
      have : s.tmp = [] := by obtain ⟨_, _, _, rfl, _⟩ := hI; rfl
      refine ZaF (call := Zac C K0) (n := 0) Zah mixed Zak rfl rfl ?_
      exact pass m s hI
  refine HasN.frozen (ds := [d44 raw]) h ?_
  rintro r h' rfl
  exact ⟨0, rfl⟩
end Go.Tev.S1
namespace Go.Tev.S1
open Go.Abs Go.Proofs
noncomputable abbrev B48 : Code := Zab Try.f48
noncomputable abbrev X48 : Code := sq1 (sq2 (sq2 (sq2 B48)))
noncomputable abbrev ZnD : Code := inn (inn (sq2 X48))
noncomputable abbrev ZrU : Code := inn (sq1 (sq2 ZnD))
noncomputable abbrev ZyG : Code := sq2 (sq2 ZrU)
noncomputable abbrev Zp7 : Code := inn (inn (sq2 ZyG))
noncomputable abbrev Y48 : Code := sq1 (sq2 (sq2 (sq2 (sq2 B48))))
noncomputable abbrev ZmI : Code := inn (inn (sq2 Y48))
noncomputable abbrev Zsm : Code := inn (sq1 (sq2 ZmI))
noncomputable abbrev Zsy : Code := inn (inn (sq2 Zsm))
noncomputable abbrev Ybt : Code := inn (sq1 (sq2 Zsy))
noncomputable abbrev ZrL : Code := inn (inn (sq2 Ybt))
noncomputable abbrev Yd4 : Code := sq1 B48
noncomputable abbrev Yd2 : Code := sq1 (sq2 B48)
noncomputable abbrev Yd0 : Code := sq1 (sq2 (sq2 B48))
noncomputable abbrev Yby : Code := sq1 X48
noncomputable abbrev ZvY : Code := sq1 ZnD
noncomputable abbrev Ybx : Code := sq1 ZrU
noncomputable abbrev Yb1 : Code := sq1 (sq2 ZrU)
noncomputable abbrev Yaf : Code := sq1 ZyG
noncomputable abbrev YbC : Code := sq2 (sq2 ZnD)
noncomputable abbrev Zto : Code := sq1 Y48
noncomputable abbrev ZoL : Code := sq1 ZmI
noncomputable abbrev Zuj : Code := sq1 Zsm
noncomputable abbrev Zm0 : Code := sq1 Zsy
noncomputable abbrev ZqR : Code := sq1 Ybt
noncomputable abbrev ZqT : Code := sq2 (sq2 Zsy)
noncomputable abbrev ZtG : Code := sq2 (sq2 ZmI)
noncomputable abbrev ZyD : Code := sq1 (sq2 (sq2 (sq2 (sq2 (sq2 B48)))))
theorem Ygw : Try.f48.body = some (.seq Yd4 (.seq Yd2 (.seq Yd0 (.seq (.seq Yby (.block 0 (.loop (.seq ZvY (.seq (.block 1 (.seq Ybx (.seq Yb1 (.seq Yaf (.block 2 (.loop Zp7)))))) YbC)))))
  (.seq (.seq Zto (.block 4 (.loop (.seq ZoL (.seq (.block 5 (.seq Zuj (.block 6 (.loop (.seq Zm0 (.seq (.block 7 (.seq ZqR (.block 8 (.loop ZrL)))) ZqT)))))) ZtG))))) (.seq ZyD .ret)))))) := by kernel_rfl
theorem Ygj : okC (C.ann 48) Yd4 = true ∧ okC (C.ann 48) Yd2 = true ∧ okC (C.ann 48) Yd0 = true ∧ okC (C.ann 48) Yby = true ∧ okC (C.ann 48) ZvY = true ∧ okC (C.ann 48) Ybx = true ∧ okC (C.ann 48) Yb1 = true ∧ okC (C.ann 48) Yaf = true ∧ okC (C.ann 48) Zp7 = true ∧ okC (C.ann 48) YbC = true := by
  refine ⟨?_, ?_, ?_, ?_, ?_, ?_, ?_, ?_, ?_, ?_⟩ <;> kernel_rfl
theorem Zyz : okC (C.ann 48) Zto = true ∧ okC (C.ann 48) ZoL = true ∧ okC (C.ann 48) Zuj = true ∧ okC (C.ann 48) Zm0 = true ∧ okC (C.ann 48) ZqR = true ∧ okC (C.ann 48) ZrL = true ∧ okC (C.ann 48) ZqT = true ∧ okC (C.ann 48) ZtG = true ∧ okC (C.ann 48) ZyD = true := by
  refine ⟨?_, ?_, ?_, ?_, ?_, ?_, ?_, ?_, ?_⟩ <;> kernel_rfl
theorem ez81 : C.elemZero 81 = some (.slc []) := by kernel_rfl
theorem YhR : C.elemSize 81 = some 1 := by kernel_rfl
theorem eo81 : C.elemOk 81 1 = true := by kernel_rfl
theorem ez83 : C.elemZero 83 = some (.bool false) := by kernel_rfl
theorem YiH : C.elemSize 83 = some 1 := by kernel_rfl
theorem eo83 : C.elemOk 83 1 = true := by kernel_rfl
theorem Yjg : C.elemSize 40 = some 1 := by kernel_rfl
theorem sz83 : C.size 83 = some 1 := by kernel_rfl
theorem sz4 : C.size 4 = some 1 := by kernel_rfl
theorem YiY : C.isAgg 83 = some false := by kernel_rfl
theorem ag4 : C.isAgg 4 = some false := by kernel_rfl
theorem eb81 : C.elemBytes 81 = some 24 := by kernel_rfl
theorem eb83 : C.elemBytes 83 = some 1 := by kernel_rfl
theorem rm81 {n : Nat} (h : n ≤ 2 ^ 40) : ZcG C 81 n = true := by
  simp only [ZcG, eb81, Bool.and_eq_true, Nat.ble_eq]
  exact ⟨by omega, by omega⟩
theorem rm83 {n : Nat} (h : n ≤ 2 ^ 40) : ZcG C 83 n = true := by
  simp only [ZcG, eb83, Bool.and_eq_true, Nat.ble_eq]
  exact ⟨by omega, by omega⟩
abbrev Mx := Nat → Nat → Bool
def Zqh (n : Nat) (f : Nat → Bool) : List AV := (List.range n).map fun j => AV.d (.bool (f j))
def Zqy (n r : Nat) : List AV := (List.range n).map fun i => if i < r then AV.osl (i + 1) 0 n else .d (.slc [])
def hN (n r : Nat) (M : Mx) : List AObj := .arr 0 true (Zqy n r) :: (List.range r).map fun i => .arr 0 true (Zqh n (M i))
def ZzU (M : Mx) (i j : Nat) : Mx := fun a b => if a = i ∧ b = j then true else M a b
theorem Zxh (n r : Nat) (M : Mx) : Zez (hN n r M) 0 0 = some (Zqy n r) := rfl
theorem Zsr {n r : Nat} {M : Mx} {i : Nat} (h : i < r) : Zez (hN n r M) (i + 1) 0 = some (Zqh n (M i)) := by
  unfold Zez hN
  rw [List.getElem?_cons_succ, List.getElem?_map, List.getElem?_range h]
  rfl
theorem Zsd {n : Nat} {f : Nat → Bool} {j : Nat} (h : j < n) : (Zqh n f)[j]? = some (.d (.bool (f j))) := by
  unfold Zqh
  rw [List.getElem?_map, List.getElem?_range h]
  rfl
theorem Zv3 {n r i : Nat} (h : i < r) (h2 : r ≤ n) : (Zqy n r)[i]? = some (.osl (i + 1) 0 n) := by
  unfold Zqy
  rw [List.getElem?_map, List.getElem?_range (by omega)]
  simp [h]
theorem YiF {n r : Nat} (h2 : r < n) : (Zqy n r)[r]? = some (.d (.slc [])) := by
  unfold Zqy
  rw [List.getElem?_map, List.getElem?_range h2]
  simp
theorem Yhs {n : Nat} {f : Nat → Bool} {j : Nat} : (Zqh n f).set j (.d (.bool true)) = Zqh n (fun b => if b = j then true else f b) := by
  apply List.ext_getElem?
  intro k
  rw [List.getElem?_set]
  unfold Zqh
  simp only [List.getElem?_map, List.length_map, List.length_range]
  rcases Nat.lt_or_ge k n with hk | hk
  · rw [List.getElem?_range hk]
    by_cases e : j = k
    · subst e; simp [hk]
    · have e2 : k ≠ j := fun h => e h.symm
      simp [e, e2]
  · rw [List.getElem?_eq_none (by simpa using hk)]
    by_cases e : j = k
    · subst e; simp; omega
    · simp [e]
theorem Yb2 {n r : Nat} {M : Mx} {i j : Nat} (h : i < r) : ZmQ (hN n r M) (i + 1) ((Zqh n (M i)).set j (.d (.bool true))) = hN n r (ZzU M i j) := by
  have h1 : (hN n r M)[i + 1]? = some (.arr 0 true (Zqh n (M i))) := by
    unfold hN
    rw [List.getElem?_cons_succ, List.getElem?_map, List.getElem?_range h]
    rfl
  unfold ZmQ
  rw [h1, Yhs]
  simp only [hN, List.set_cons_succ]
  congr 1
  apply List.ext_getElem?
  intro k
  rw [List.getElem?_set]
  simp only [List.getElem?_map, List.length_map, List.length_range]
  rcases Nat.lt_or_ge k r with hk | hk
  · rw [List.getElem?_range hk]
    by_cases e : i = k
    · subst e
      simp only [if_true, h, Option.map_some]
      congr 2
      congr 1
      funext b
      simp [ZzU]
    · have e2 : k ≠ i := fun h => e h.symm
      simp only [if_neg e, Option.map_some]
      congr 2
      congr 1
      funext b
      simp [ZzU, e2]
  · rw [List.getElem?_eq_none (by simpa using hk)]
    by_cases e : i = k
    · omega
    · simp [e]
theorem YhJ (n : Nat) : List.replicate n (AV.d (.bool false)) = Zqh n (fun _ => false) := by
  apply List.ext_getElem?
  intro k
  unfold Zqh
  rw [List.getElem?_replicate, List.getElem?_map]
  rcases Nat.lt_or_ge k n with hk | hk
  · rw [if_pos hk, List.getElem?_range hk]; rfl
  · rw [if_neg (by omega), List.getElem?_eq_none (by simpa using hk)]; rfl
theorem YfW (n : Nat) : List.replicate n (AV.d (.slc [])) = Zqy n 0 := by
  apply List.ext_getElem?
  intro k
  unfold Zqy
  rw [List.getElem?_replicate, List.getElem?_map]
  rcases Nat.lt_or_ge k n with hk | hk
  · rw [if_pos hk, List.getElem?_range hk]; rfl
  · rw [if_neg (by omega), List.getElem?_eq_none (by simpa using hk)]; rfl
theorem YgK {n r : Nat} (hr : r < n) {M : Mx} (hM : ∀ j, M r j = false) : ZmQ (hN n r M ++ [.arr 0 true (Zqh n (fun _ => false))]) 0 ((Zqy n r).set r (.osl (r + 1) 0 n)) = hN n (r + 1) M := by
  have h1 : (Zqy n r).set r (.osl (r + 1) 0 n) = Zqy n (r + 1) := by
    apply List.ext_getElem?
    intro k
    rw [List.getElem?_set]
    unfold Zqy
    simp only [List.getElem?_map, List.length_map, List.length_range]
    rcases Nat.lt_or_ge k n with hk | hk
    · rw [List.getElem?_range hk]
      by_cases e : r = k
      · subst e; simp [hr]
      · have : (k < r) ↔ (k < r + 1) := by omega
        simp [e, this]
    · rw [List.getElem?_eq_none (by simpa using hk)]
      by_cases e : r = k
      · omega
      · simp [e]
  have h2 : Zqh n (fun _ => false) = Zqh n (M r) := by congr 1; funext j; rw [hM]
  rw [h1, h2]
  unfold ZmQ hN
  simp only [List.cons_append, List.getElem?_cons_zero, List.set_cons_zero, List.range_succ, List.map_append, List.map_cons, List.map_nil]
theorem Yil (n r : Nat) (M : Mx) : (hN n r M).length = r + 1 := by simp [hN]
def e48 (raw : List Cus) (i : Nat) : List (Nat × SV) := [(0, .val (.d (d44 raw))), (2, .val (.d (.slc []))), (3, .val (.d (.int .i64 raw.length))), (4, .val (.osl 0 0 raw.length)), (5, .val (.d (.int .i64 i)))]
def M0 : Mx := fun _ _ => false
section
attribute [local simp] List.getElem?_cons_zero Option.bind_some YaF ZgN Zdw ZbJ Zh6 Zga Zeg Zoo Zh7 Zge Zit Ziu Zo8 Ziq ZcU Zb5 ZnB Za1 Zbi ZpA Zbb Zdv Zfq Zfw ZcI has opx opd opA opD XV.flat XV.copy oD oA Zae ins ZpY Zii St.put St.putOwn St.lose St.loseEnv unal ZnM Znz ZvL dUn Zjn ZaI ZcJ ZbH ZbA Za2 Zdt Zb8 ZcZ ZkK Zb2 AV.cells AV.cellOk AV.single DV.cellOk YaO Yba YaP DV.cells ZaY ZgY ZaU Zc0 ZaT Zbe ZnP Zba ZfO mapO AV.toD ZaL ZcC Zgn optD Zc2 Zbq Zh4 ZaC ZcD Zci ZaQ Zfs Zeq ZbT St.trim Out.st
theorem Ygg {call : Zaa} (raw : List Cus) : evQ C call (ann 48) 0 Yd4 ⟨Zke 0 [.d (d44 raw)], [], []⟩ = some (.norm ⟨[(0, .val (.d (d44 raw))), (2, .val (.d (.slc [])))], [], []⟩) := by
  unfold Yd4 B48 Zab Try.f48
  simp only [Option.getD_some, sq1, Zke]
  simp [-getElem?_pos, A48, Zaq]
theorem Yhk {call : Zaa} (raw : List Cus) : evQ C call (ann 48) 0 Yd2 ⟨[(0, .val (.d (d44 raw))), (2, .val (.d (.slc [])))], [], []⟩ = some (.norm ⟨[(0, .val (.d (d44 raw))), (2, .val (.d (.slc []))), (3, .val (.d (.int .i64 raw.length)))], [], []⟩) := by
  unfold Yd2 B48 Zab Try.f48 d44
  simp only [Option.getD_some, sq1, sq2]
  simp [-getElem?_pos, A48, Zaq, Zy3]
theorem Yhd {call : Zaa} (raw : List Cus) (hl : raw.length ≤ 2 ^ 40) : evQ C call (ann 48) 0 Yd0 ⟨[(0, .val (.d (d44 raw))), (2, .val (.d (.slc []))), (3, .val (.d (.int .i64 raw.length)))], [], []⟩ =
    some (.norm ⟨[(0, .val (.d (d44 raw))), (2, .val (.d (.slc []))), (3, .val (.d (.int .i64 raw.length))), (4, .val (.osl 0 0 raw.length))], [], hN raw.length 0 M0⟩) := by
  have hr := rm81 hl
  unfold Yd0 B48 Zab Try.f48 hN
  simp only [Option.getD_some, sq1, sq2]
  simp [-getElem?_pos, A48, Zaq, ez81, YhR, eo81, hr, YfW]
theorem Yhb {call : Zaa} (raw : List Cus) (h : List AObj) : evQ C call (ann 48) 0 Yby ⟨[(0, .val (.d (d44 raw))), (2, .val (.d (.slc []))), (3, .val (.d (.int .i64 raw.length))), (4, .val (.osl 0 0 raw.length))], [], h⟩ = some (.norm ⟨e48 raw 0, [], h⟩) := by
  unfold Yby X48 B48 Zab Try.f48 e48
  simp only [Option.getD_some, sq1, sq2]
  simp [-getElem?_pos, A48, Zaq]
theorem Yf6 {call : Zaa} (raw : List Cus) (i : Nat) (h : List AObj) (hi : i < raw.length) : evQ C call (ann 48) 0 ZvY ⟨e48 raw i, [], h⟩ = some (.norm ⟨e48 raw i ++ [(18, .val (.d (.bool true)))], [], h⟩) := by
  unfold ZvY ZnD X48 B48 Zab Try.f48 e48
  simp only [Option.getD_some, sq1, sq2, inn]
  simp [-getElem?_pos, A48, Zaq, hi]
theorem Yey {call : Zaa} (raw : List Cus) (h : List AObj) : evQ C call (ann 48) 0 ZvY ⟨e48 raw raw.length, [], h⟩ = some (.exit 0 ⟨e48 raw raw.length ++ [(18, .val (.d (.bool false)))], [], h⟩) := by
  unfold ZvY ZnD X48 B48 Zab Try.f48 e48
  simp only [Option.getD_some, sq1, sq2, inn]
  simp [-getElem?_pos, A48, Zaq]
theorem Ygo {call : Zaa} (raw : List Cus) (i : Nat) (hi : i < raw.length) (hl : raw.length ≤ 2 ^ 40) (M : Mx) (hM : ∀ j, M i j = false) : evQ C call (ann 48) 0 Ybx ⟨e48 raw i ++ [(18, .val (.d (.bool true)))], [], hN raw.length i M⟩ = some (.norm ⟨e48 raw i ++ [(18, .val (.d (.bool true)))], [], hN raw.length (i + 1) M⟩) := by
  have hr := rm83 hl
  have hx := ZyR hi
  have h1 : Zez (hN raw.length i M ++ [.arr 0 true (Zqh raw.length (fun _ => false))]) 0 0 = some (Zqy raw.length i) := rfl
  have h2 := YiF hi
  have h3 := YgK hi hM
  have h4 := Yil raw.length i M
  unfold Ybx ZrU ZnD X48 B48 Zab Try.f48 e48
  simp only [Option.getD_some, sq1, sq2, inn]
  simp [-getElem?_pos, A48, Zaq, ez83, YiH, eo83, YhR, sz83, hr, YhJ, hx, h1, h2, h3, h4, Zdy]
end
end Go.Tev.S1
namespace Go.Tev.S1
open Go.Abs Go.Proofs
def strs (us : List (List UInt8)) : DV := .slc (us.map DV.str)
def f48 (raw : List Cus) (i : Nat) (us : List (List UInt8)) (j : Nat) : List (Nat × SV) := e48 raw i ++ [(18, .val (.d (.bool true))), (6, .val (.d (strs us))), (7, .val (.d (.int .i64 j)))]
section
attribute [local simp] List.getElem?_cons_zero Option.bind_some YaF ZgN Zdw ZbJ Zh6 Zga Zeg Zoo Zh7 Zge Zit Ziu Zo8 Ziq ZcU Zb5 ZnB Za1 Zbi ZpA Zbb Zdv Zfq Zfw ZcI has opx opd opA opD XV.flat XV.copy oD oA Zae ins ZpY Zii St.put St.putOwn St.lose St.loseEnv unal ZnM Znz ZvL dUn Zjn ZaI ZcJ ZbH ZbA Za2 Zdt Zb8 ZcZ ZkK Zb2 AV.cells AV.cellOk AV.single DV.cellOk YaO Yba YaP DV.cells ZaY ZgY ZaU Zc0 ZaT Zbe ZnP Zba ZfO mapO AV.toD ZaL ZcC Zgn optD Zc2 Zbq Zh4 ZaC ZcD Zci ZaQ Zfs Zeq ZbT St.trim Out.st
theorem Ygu {call : Zaa} (raw : List Cus) (i : Nat) (x : Cus) (hx : raw[i]? = some x) (us : List (List UInt8)) (h38 : Zdb call true 38 [.slc (x.val.map Val.enc)] = some (strs us)) (h : List AObj) :
    evQ C call (ann 48) 0 Yb1 ⟨e48 raw i ++ [(18, .val (.d (.bool true)))], [], h⟩ = some (.norm ⟨e48 raw i ++ [(18, .val (.d (.bool true))), (6, .val (.d (strs us)))], [], h⟩) := by
  have hlt : i < raw.length := (List.getElem?_eq_some_iff.1 hx).1
  have hg := Zpd hx
  have hi := ZyR hlt
  unfold Yb1 ZrU ZnD X48 B48 Zab Try.f48 e48 d44
  simp only [Option.getD_some, sq1, sq2, inn]
  simp [-getElem?_pos, A48, Zaq, Zy3, hg, hi, ZrH, YdQ, Yfm, h38, -List.getElem?_map]
theorem Yf4 {call : Zaa} (raw : List Cus) (i : Nat) (us : List (List UInt8)) (h : List AObj) :
    evQ C call (ann 48) 0 Yaf ⟨e48 raw i ++ [(18, .val (.d (.bool true))), (6, .val (.d (strs us)))], [], h⟩ = some (.norm ⟨f48 raw i us 0, [], h⟩) := by
  unfold Yaf ZyG ZrU ZnD X48 B48 Zab Try.f48 e48 f48 e48
  simp only [Option.getD_some, sq1, sq2, inn]
  simp [-getElem?_pos, A48, Zaq]
theorem YhK {call : Zaa} (raw : List Cus) (i : Nat) (hl : i + 1 < 2 ^ 63) (h : List AObj) :
    evQ C call (ann 48) 0 YbC ⟨e48 raw i ++ [(18, .val (.d (.bool true)))], [], h⟩ = some (.norm ⟨e48 raw (i + 1) ++ [(18, .val (.d (.bool true)))], [], h⟩) := by
  have hw : IntKind.i64.wrap ((i : Int) + 1) = (i : Int) + 1 := Zaz hl
  unfold YbC ZnD X48 B48 Zab Try.f48 e48
  simp only [Option.getD_some, sq1, sq2, inn]
  simp [-getElem?_pos, A48, Zaq, hw]
theorem Zxs {us : List (List UInt8)} {j : Nat} {u : List UInt8} (h : us[j]? = some u) : (us.map DV.str)[j]? = some (.str u) := by rw [List.getElem?_map, h]; rfl
theorem YeF {call : Zaa} (raw : List Cus) (i : Nat) (us : List (List UInt8)) (h : List AObj) :
    evQ C call (ann 48) 0 Zp7 ⟨f48 raw i us us.length, [], h⟩ = some (.exit 2 ⟨f48 raw i us us.length ++ [(35, .val (.d (.bool false)))], [], h⟩) := by
  unfold Zp7 ZyG ZrU ZnD X48 B48 Zab Try.f48 f48 e48 strs
  simp only [Option.getD_some, sq1, sq2, inn]
  simp [-getElem?_pos, A48, Zaq, Yjg]
theorem YdA {call : Zaa} (raw : List Cus) (i : Nat) (us : List (List UInt8)) (j : Nat) (u : List UInt8) (hu : us[j]? = some u) (hl : us.length < 2 ^ 40) (h69 : Zdb call true 69 [d44 raw, .str u] = some (.int .i64 (-1))) (h : List AObj) :
    evQ C call (ann 48) 0 Zp7 ⟨f48 raw i us j, [], h⟩ = some (.norm ⟨f48 raw i us (j + 1) ++ [(35, .val (.d (.bool true)))], [], h⟩) := by
  have hlt : j < us.length := (List.getElem?_eq_some_iff.1 hu).1
  have hw : IntKind.i64.wrap ((j : Int) + 1) = (j : Int) + 1 := Zaz (by omega)
  have hg := Zxs hu
  have hi : idx (j : Int) us.length = some j := YaI hlt
  unfold Zp7 ZyG ZrU ZnD X48 B48 Zab Try.f48 f48 e48 strs
  simp only [Option.getD_some, sq1, sq2, inn]
  simp [-getElem?_pos, A48, Zaq, Yjg, ag9, hlt, hw, hg, hi, h69, -List.getElem?_map]
theorem YeS {call : Zaa} (raw : List Cus) (i : Nat) (hr : i < raw.length) (us : List (List UInt8)) (j : Nat) (u : List UInt8) (hu : us[j]? = some u) (hl : us.length < 2 ^ 40) (k : Nat) (hk : k < raw.length) (h69 : Zdb call true 69 [d44 raw, .str u] = some (.int .i64 k)) (M : Mx) :
    evQ C call (ann 48) 0 Zp7 ⟨f48 raw i us j, [], hN raw.length (i + 1) M⟩ = some (.norm ⟨f48 raw i us (j + 1) ++ [(35, .val (.d (.bool true)))], [], hN raw.length (i + 1) (ZzU M i k)⟩) := by
  have hlt : j < us.length := (List.getElem?_eq_some_iff.1 hu).1
  have hw : IntKind.i64.wrap ((j : Int) + 1) = (j : Int) + 1 := Zaz (by omega)
  have hg := Zxs hu
  have hi : idx (j : Int) us.length = some j := YaI hlt
  have hi2 := ZyR hr
  have hi3 := ZyR hk
  have h1 := Zxh raw.length (i + 1) M
  have h2 := Zsr (n := raw.length) (M := M) (Nat.lt_succ_self i)
  have h3 := Zv3 (n := raw.length) (Nat.lt_succ_self i) hr
  have h4 := Zsd (f := M i) hk
  have h5 := Yb2 (n := raw.length) (M := M) (j := k) (Nat.lt_succ_self i)
  have h0 : ¬ ((k : Int) < 0) := by omega
  unfold Zp7 ZyG ZrU ZnD X48 B48 Zab Try.f48 f48 e48 strs
  simp only [Option.getD_some, sq1, sq2, inn]
  simp [-getElem?_pos, A48, Zaq, Yjg, ag9, hlt, hw, hg, hi, h69, YhR, YiH, sz4, YiY, ag4, hi2, hi3, h1, h2, h3, h4, h5, h0, Zdy, -List.getElem?_map]
def g48 (raw : List Cus) (k : Nat) : List (Nat × SV) := e48 raw raw.length ++ [(9, .val (.d (.int .i64 k)))]
def p48 (raw : List Cus) (k i : Nat) : List (Nat × SV) := g48 raw k ++ [(54, .val (.d (.bool true))), (10, .val (.d (.int .i64 i)))]
def q48 (raw : List Cus) (k i j : Nat) : List (Nat × SV) := p48 raw k i ++ [(59, .val (.d (.bool true))), (11, .val (.d (.int .i64 j)))]
theorem YeB {call : Zaa} (raw : List Cus) (h : List AObj) : evQ C call (ann 48) 0 Zto ⟨e48 raw raw.length, [], h⟩ = some (.norm ⟨g48 raw 0, [], h⟩) := by
  unfold Zto Y48 B48 Zab Try.f48 g48 e48
  simp only [Option.getD_some, sq1, sq2, inn]
  simp [-getElem?_pos, A48, Zaq]
theorem Yd8 {call : Zaa} (raw : List Cus) (k : Nat) (hk : k < raw.length) (h : List AObj) : evQ C call (ann 48) 0 ZoL ⟨g48 raw k, [], h⟩ = some (.norm ⟨g48 raw k ++ [(54, .val (.d (.bool true)))], [], h⟩) := by
  unfold ZoL ZmI Y48 B48 Zab Try.f48 g48 e48
  simp only [Option.getD_some, sq1, sq2, inn]
  simp [-getElem?_pos, A48, Zaq, hk]
theorem YbH {call : Zaa} (raw : List Cus) (h : List AObj) : evQ C call (ann 48) 0 ZoL ⟨g48 raw raw.length, [], h⟩ = some (.exit 4 ⟨g48 raw raw.length ++ [(54, .val (.d (.bool false)))], [], h⟩) := by
  unfold ZoL ZmI Y48 B48 Zab Try.f48 g48 e48
  simp only [Option.getD_some, sq1, sq2, inn]
  simp [-getElem?_pos, A48, Zaq]
theorem Yen {call : Zaa} (raw : List Cus) (k : Nat) (h : List AObj) : evQ C call (ann 48) 0 Zuj ⟨g48 raw k ++ [(54, .val (.d (.bool true)))], [], h⟩ = some (.norm ⟨p48 raw k 0, [], h⟩) := by
  unfold Zuj Zsm ZmI Y48 B48 Zab Try.f48 p48 g48 e48
  simp only [Option.getD_some, sq1, sq2, inn]
  simp [-getElem?_pos, A48, Zaq]
theorem Yc7 {call : Zaa} (raw : List Cus) (k i : Nat) (hi : i < raw.length) (h : List AObj) : evQ C call (ann 48) 0 Zm0 ⟨p48 raw k i, [], h⟩ = some (.norm ⟨p48 raw k i ++ [(59, .val (.d (.bool true)))], [], h⟩) := by
  unfold Zm0 Zsy Zsm ZmI Y48 B48 Zab Try.f48 p48 g48 e48
  simp only [Option.getD_some, sq1, sq2, inn]
  simp [-getElem?_pos, A48, Zaq, hi]
theorem Ybq {call : Zaa} (raw : List Cus) (k : Nat) (h : List AObj) : evQ C call (ann 48) 0 Zm0 ⟨p48 raw k raw.length, [], h⟩ = some (.exit 6 ⟨p48 raw k raw.length ++ [(59, .val (.d (.bool false)))], [], h⟩) := by
  unfold Zm0 Zsy Zsm ZmI Y48 B48 Zab Try.f48 p48 g48 e48
  simp only [Option.getD_some, sq1, sq2, inn]
  simp [-getElem?_pos, A48, Zaq]
theorem Yc3 {call : Zaa} (raw : List Cus) (k i : Nat) (h : List AObj) : evQ C call (ann 48) 0 ZqR ⟨p48 raw k i ++ [(59, .val (.d (.bool true)))], [], h⟩ = some (.norm ⟨q48 raw k i 0, [], h⟩) := by
  unfold ZqR Ybt Zsy Zsm ZmI Y48 B48 Zab Try.f48 q48 p48 g48 e48
  simp only [Option.getD_some, sq1, sq2, inn]
  simp [-getElem?_pos, A48, Zaq]
theorem Yc8 {call : Zaa} (raw : List Cus) (k i : Nat) (h : List AObj) : evQ C call (ann 48) 0 ZrL ⟨q48 raw k i raw.length, [], h⟩ = some (.exit 8 ⟨q48 raw k i raw.length ++ [(64, .val (.d (.bool false)))], [], h⟩) := by
  unfold ZrL Ybt Zsy Zsm ZmI Y48 B48 Zab Try.f48 q48 p48 g48 e48
  simp only [Option.getD_some, sq1, sq2, inn]
  simp [-getElem?_pos, A48, Zaq]
theorem Yfa {call : Zaa} (raw : List Cus) (k i j : Nat) (hk : k < raw.length) (hi : i < raw.length) (hj : j < raw.length) (hl : raw.length ≤ 2 ^ 40) (M : Mx) :
    evQ C call (ann 48) 0 ZrL ⟨q48 raw k i j, [], hN raw.length raw.length M⟩ = some (.norm ⟨q48 raw k i (j + 1) ++ [(64, .val (.d (.bool true)))], [], hN raw.length raw.length (if M i k = true ∧ M k j = true then ZzU M i j else M)⟩) := by
  have hw : IntKind.i64.wrap ((j : Int) + 1) = (j : Int) + 1 := Zaz (by omega)
  have i1 := ZyR hk
  have i2 := ZyR hi
  have i3 := ZyR hj
  have h1 := Zxh raw.length raw.length M
  have h2 := Zsr (n := raw.length) (M := M) hi
  have h3 := Zsr (n := raw.length) (M := M) hk
  have h4 := Zv3 hi (Nat.le_refl raw.length)
  have h5 := Zv3 hk (Nat.le_refl raw.length)
  have h6 := Zsd (f := M i) hk
  have h7 := Zsd (f := M k) hj
  have h8 := Zsd (f := M i) hj
  have h9 := Yb2 (n := raw.length) (M := M) (j := j) hi
  unfold ZrL Ybt Zsy Zsm ZmI Y48 B48 Zab Try.f48 q48 p48 g48 e48
  simp only [Option.getD_some, sq1, sq2, inn]
  cases e1 : M i k with
  | false => simp [-getElem?_pos, A48, Zaq, hj, hw, YhR, YiH, sz4, YiY, ag4, i1, i2, i3, h1, h2, h3, h4, h5, h6, h7, h8, h9, e1]
  | true =>
    cases e2 : M k j with
    | false => simp [-getElem?_pos, A48, Zaq, hj, hw, YhR, YiH, sz4, YiY, ag4, i1, i2, i3, h1, h2, h3, h4, h5, h6, h7, h8, h9, e1, e2]
    | true => simp [-getElem?_pos, A48, Zaq, hj, hw, YhR, YiH, sz4, YiY, ag4, i1, i2, i3, h1, h2, h3, h4, h5, h6, h7, h8, h9, e1, e2, Zdy]
theorem YeX {call : Zaa} (raw : List Cus) (k i : Nat) (hl : i + 1 < 2 ^ 63) (h : List AObj) : evQ C call (ann 48) 0 ZqT ⟨p48 raw k i ++ [(59, .val (.d (.bool true)))], [], h⟩ = some (.norm ⟨p48 raw k (i + 1) ++ [(59, .val (.d (.bool true)))], [], h⟩) := by
  have hw : IntKind.i64.wrap ((i : Int) + 1) = (i : Int) + 1 := Zaz hl
  unfold ZqT Zsy Zsm ZmI Y48 B48 Zab Try.f48 p48 g48 e48
  simp only [Option.getD_some, sq1, sq2, inn]
  simp [-getElem?_pos, A48, Zaq, hw]
theorem YcX {call : Zaa} (raw : List Cus) (k : Nat) (hl : k + 1 < 2 ^ 63) (h : List AObj) : evQ C call (ann 48) 0 ZtG ⟨g48 raw k ++ [(54, .val (.d (.bool true)))], [], h⟩ = some (.norm ⟨g48 raw (k + 1) ++ [(54, .val (.d (.bool true)))], [], h⟩) := by
  have hw : IntKind.i64.wrap ((k : Int) + 1) = (k : Int) + 1 := Zaz hl
  unfold ZtG ZmI Y48 B48 Zab Try.f48 g48 e48
  simp only [Option.getD_some, sq1, sq2, inn]
  simp [-getElem?_pos, A48, Zaq, hw]
theorem Yd3 {call : Zaa} (raw : List Cus) (k : Nat) (h : List AObj) : ∃ s, evQ C call (ann 48) 0 ZyD ⟨g48 raw k, [], h⟩ = some (.norm s) ∧ Zdw C s Try.f48.results.toList = some [.osl 0 0 raw.length] ∧ s.heap = h := by
  have hr : Try.f48.results.toList = [.tmp 2] := rfl
  rw [hr]
  unfold ZyD B48 Zab Try.f48 g48 e48
  simp only [Option.getD_some, sq1, sq2, inn]
  simp [-getElem?_pos, A48, Zaq]
end
end Go.Tev.S1
namespace Go.Tev.S1
open Go.Abs Go.Proofs
def Adj (raw : List Cus) (a b : Nat) : Prop := ∃ x, raw[a]? = some x ∧ ∃ u ∈ ZbS x.val, Zfx raw u 0 = (b : Int)
def WW (A : Nat → Nat → Prop) : Nat → Nat → Nat → Prop
  | 0, a, b => A a b
  | k + 1, a, b => WW A k a b ∨ (WW A k a k ∧ WW A k k b)
theorem Zv6 {A : Nat → Nat → Prop} {k a b : Nat} (h : WW A k a b) : ∀ {n}, k ≤ n → WW A n a b := by
  intro n hn
  induction hn with
  | refl => exact h
  | step _ ih => exact .inl ih
theorem WW_col {A : Nat → Nat → Prop} {k a : Nat} : WW A (k + 1) a k ↔ WW A k a k := ⟨fun h => h.elim id fun h => h.1, .inl⟩
theorem WW_row {A : Nat → Nat → Prop} {k b : Nat} : WW A (k + 1) k b ↔ WW A k k b := ⟨fun h => h.elim id fun h => h.2, .inl⟩
theorem Zxy {A : Nat → Nat → Prop} : ∀ {k a b c : Nat}, c < k → WW A k a c → WW A k c b → WW A k a b := by
  intro k
  induction k with
  | zero => intro a b c h; omega
  | succ k ih =>
    intro a b c hc h1 h2
    rcases Nat.lt_or_ge c k with hlt | hge
    · rcases h1 with h1 | ⟨h1, h1'⟩
      · rcases h2 with h2 | ⟨h2, h2'⟩
        · exact .inl (ih hlt h1 h2)
        · exact .inr ⟨ih hlt h1 h2, h2'⟩
      · rcases h2 with h2 | ⟨h2, h2'⟩
        · exact .inr ⟨h1, ih hlt h1' h2⟩
        · exact .inr ⟨h1, h2'⟩
    · have : c = k := by omega
      subst this
      exact .inr ⟨WW_col.1 h1, WW_row.1 h2⟩
theorem ZrY (raw : List Cus) (u : List UInt8) : ∀ b : Int, Zfx raw u b = -1 ∨ (b ≤ Zfx raw u b ∧ Zfx raw u b < b + raw.length) := by
  induction raw with
  | nil => intro b; exact .inl rfl
  | cons x r ih =>
    intro b
    simp only [Zfx]
    cases x.name == u with
    | true => right; simp only [if_true, List.length_cons]; constructor <;> omega
    | false =>
      simp only [Bool.false_eq_true, if_false, List.length_cons]
      rcases ih (b + 1) with h | ⟨h1, h2⟩
      · exact .inl h
      · exact .inr ⟨by omega, by omega⟩
def In1 (raw : List Cus) (i : Nat) (us : List (List UInt8)) (M : Mx) : Prop := ∀ a b, M a b = true ↔ (a < i ∧ Adj raw a b) ∨ (a = i ∧ ∃ u ∈ us, Zfx raw u 0 = (b : Int))
theorem In1_nil {raw : List Cus} {i : Nat} {M : Mx} : In1 raw i [] M ↔ ∀ a b, M a b = true ↔ (a < i ∧ Adj raw a b) := by
  simp [In1]
theorem ZvE (raw : List Cus) (hl : raw.length ≤ B) (u : List UInt8) : Zdb (Zac C K0) true 69 [d44 raw, .str u] = some (.int .i64 (Zfx raw u 0)) := by
  obtain ⟨d, h1, h2⟩ := Ycy Zmf [.l 53 raw, .s u] (raw, u) _ [d44 raw, .str u] _ rfl rfl (Zsk hl) rfl
  cases h1
  exact ZkA h2
theorem YbU {l : List Val} (hl : Zal l ≤ B) : Zdb (Zac C K0) true 38 [.slc (l.map Val.enc)] = some (strs (ZbS l)) := by
  obtain ⟨d, h1, h2⟩ := YiO Zmf [.l 60 l] l _ [.slc (l.map Val.enc)] _ rfl rfl (ZyC hl) rfl
  cases h1
  exact ZkA h2
end Go.Tev.S1
namespace Go.Tev.S1
open Go.Abs Go.Proofs
theorem ZkC {e1 e0 more : List (Nat × SV)} {h : List AObj} (hk : ∀ p ∈ e1, (Zae e0 p.1).isSome = true) : Sub ⟨e1, [], h⟩ ((⟨e1 ++ more, [], h⟩ : St).trim e0) := by
  refine ⟨fun k v hv => ?_, rfl, rfl⟩
  simp only [St.trim]
  have := hk (k, v) (sub_list.alook_mem0' hv)
  rw [alook_trimE _ _ _ this]
  exact ZaJ hv
theorem Zos {e0 e1 : List (Nat × SV)} (h : ∀ k ∈ e1.map Prod.fst, (Zae e0 k).isSome = true) : ∀ p ∈ e1, (Zae e0 p.1).isSome = true := fun p hp => h _ (List.mem_map.2 ⟨p, hp, rfl⟩)
theorem YcA (raw : List Cus) (hl : raw.length ≤ B) (i : Nat) (hi : i < raw.length) (us : List (List UInt8)) (hu : us.length < 2 ^ 40) (M : Mx) (hM : In1 raw i [] M) :
    Tri C (C.ann 48) (.block 2 (.loop Zp7)) ⟨f48 raw i us 0, [], hN raw.length (i + 1) M⟩ fun o => ∃ s M2, o = .norm s ∧ In1 raw i us M2 ∧ Sub ⟨e48 raw i ++ [(18, .val (.d (.bool true)))], [], hN raw.length (i + 1) M2⟩ s := by
  obtain ⟨_, _, _, _, _, _, _, _, kL, _⟩ := Ygj
  refine ZbI ?_
  refine Zfg (fun m s => ∃ j M2, j ≤ us.length ∧ m = us.length - j ∧ In1 raw i (us.take j) M2 ∧ s = ⟨f48 raw i us j, [], hN raw.length (i + 1) M2⟩) (n := us.length) ⟨0, M, Nat.zero_le _, rfl, hM, rfl⟩ ?_
  rintro m s ⟨j, M2, hj, rfl, hI, rfl⟩
  rcases Nat.lt_or_ge j us.length with hlt | hge
  · have hx := List.getElem?_eq_getElem hlt
    have htk := ZaP hx
    rcases ZrY raw us[j] 0 with h | ⟨h1, h2⟩
    · refine Zbr (call := Zac C K0) Zah mixed Zak kL (YdA raw i us j us[j] hx hu (by rw [ZvE raw hl, h]) _) ?_
      refine ⟨us.length - (j + 1), ⟨f48 raw i us (j + 1), [], hN raw.length (i + 1) M2⟩, by omega, ⟨j + 1, M2, hlt, rfl, ?_, rfl⟩, fun k v hv => ZaJ hv, rfl, rfl⟩
      intro a b
      rw [hI a b, htk]
      simp only [List.mem_append, List.mem_singleton]
      constructor
      · rintro (h3 | ⟨h3, u, h4, h5⟩)
        · exact .inl h3
        · exact .inr ⟨h3, u, .inl h4, h5⟩
      · rintro (h3 | ⟨h3, u, h4 | rfl, h5⟩)
        · exact .inl h3
        · exact .inr ⟨h3, u, h4, h5⟩
        · rw [h] at h5; omega
    · obtain ⟨k, hk⟩ := Int.eq_ofNat_of_zero_le h1
      have hk2 : k < raw.length := by omega
      refine Zbr (call := Zac C K0) Zah mixed Zak kL (YeS raw i hi us j us[j] hx hu k hk2 (by rw [ZvE raw hl, hk]) M2) ?_
      refine ⟨us.length - (j + 1), ⟨f48 raw i us (j + 1), [], hN raw.length (i + 1) (ZzU M2 i k)⟩, by omega, ⟨j + 1, ZzU M2 i k, hlt, rfl, ?_, rfl⟩, fun k v hv => ZaJ hv, rfl, rfl⟩
      intro a b
      rw [htk]
      simp only [ZzU, List.mem_append, List.mem_singleton]
      constructor
      · intro h3
        split at h3
        · rename_i h4
          obtain ⟨rfl, rfl⟩ := h4
          exact .inr ⟨rfl, _, .inr rfl, hk⟩
        · rcases (hI a b).1 h3 with h5 | ⟨h5, u, h6, h7⟩
          · exact .inl h5
          · exact .inr ⟨h5, u, .inl h6, h7⟩
      · intro h3
        split
        · rfl
        · rename_i h4
          refine (hI a b).2 ?_
          rcases h3 with h3 | ⟨rfl, u, h5 | rfl, h6⟩
          · exact .inl h3
          · exact .inr ⟨rfl, u, h5, h6⟩
          · rw [hk] at h6
            exact absurd ⟨rfl, by omega⟩ h4
  · have he : j = us.length := by omega
    subst he
    refine Zbr (call := Zac C K0) Zah mixed Zak kL (YeF raw i us _) ?_
    simp only [Za0]
    rw [List.take_length] at hI
    refine ⟨_, M2, rfl, hI, ?_⟩
    exact ZkC (e0 := f48 raw i us 0) (e1 := e48 raw i ++ [(18, .val (.d (.bool true)))]) (more := [(6, .val (.d (strs us))), (7, .val (.d (.int .i64 us.length)))] ++ [(35, .val (.d (.bool false)))]) (Zos (fun k hk => by
      simp only [e48, List.cons_append, List.nil_append, List.map_cons, List.map_nil, List.mem_cons, List.not_mem_nil, or_false] at hk
      rcases hk with rfl | rfl | rfl | rfl | rfl | rfl <;> rfl))
theorem Zwk (raw : List Cus) (hok : ZfI raw) (hl : raw.length ≤ 2 ^ 36) : Tri C (C.ann 48) (.seq Yby (.block 0 (.loop (.seq ZvY (.seq (.block 1 (.seq Ybx (.seq Yb1 (.seq Yaf (.block 2 (.loop Zp7)))))) YbC)))))
    ⟨[(0, .val (.d (d44 raw))), (2, .val (.d (.slc []))), (3, .val (.d (.int .i64 raw.length))), (4, .val (.osl 0 0 raw.length))], [], hN raw.length 0 M0⟩
    fun o => ∃ s M, o = .norm s ∧ (∀ a b, M a b = true ↔ a < raw.length ∧ Adj raw a b) ∧ Sub ⟨[(0, .val (.d (d44 raw))), (2, .val (.d (.slc []))), (3, .val (.d (.int .i64 raw.length))), (4, .val (.osl 0 0 raw.length)), (5, .val (.d (.int .i64 raw.length)))], [], hN raw.length raw.length M⟩ s := by
  obtain ⟨_, _, _, k3, k4, k6, k7, k8, _, k5⟩ := Ygj
  have hB : B = 2 ^ 36 := rfl
  have hV : V = 2 ^ 24 := rfl
  refine ZaF (call := Zac C K0) Zah mixed Zak k3 (Yhb raw _) ?_
  refine ZbI ?_
  refine Zfg (fun m s => ∃ i M, i ≤ raw.length ∧ m = raw.length - i ∧ In1 raw i [] M ∧ s = ⟨e48 raw i, [], hN raw.length i M⟩) (n := raw.length) ⟨0, M0, Nat.zero_le _, rfl, fun a b => by simp [M0], rfl⟩ ?_
  rintro m s ⟨i, M, hi, rfl, hI, rfl⟩
  rcases Nat.lt_or_ge i raw.length with hlt | hge
  · have hx := List.getElem?_eq_getElem hlt
    have hxt : Zal raw[i].val ≤ V := hok.2 raw[i] (List.getElem_mem hlt)
    have hlen : (ZbS raw[i].val).length < 2 ^ 40 := by
      have := Zim raw[i].val
      rw [hV] at hxt
      omega
    refine ZaF (call := Zac C K0) Zah mixed Zak k4 (Yf6 raw i _ hlt) ?_
    refine ZbC (Q1 := fun o => ∃ s M2, o = .norm s ∧ In1 raw i (ZbS raw[i].val) M2 ∧ Sub ⟨e48 raw i ++ [(18, .val (.d (.bool true)))], [], hN raw.length (i + 1) M2⟩ s) ?_ ?_ ?_
    · refine ZbI ?_
      refine ZaF (call := Zac C K0) Zah mixed Zak k6 (Ygo raw i hlt (Nat.le_trans hl (by decide)) M (fun j => by
        cases h : M i j with
        | false => rfl
        | true => rcases (hI i j).1 h with h | ⟨_, u, h, _⟩
                  · omega
                  · simp at h)) ?_
      refine ZaF (call := Zac C K0) Zah mixed Zak k7 (Ygu raw i raw[i] hx _ (YbU (Nat.le_trans hxt (by rw [hB, hV]; decide))) _) ?_
      refine ZaF (call := Zac C K0) Zah mixed Zak k8 (Yf4 raw i _ _) ?_
      refine Zky (YcA raw (by rw [hB]; exact hl) i hlt (ZbS raw[i].val) hlen M hI) ?_
      rintro o ⟨s, M2, rfl, h1, h2⟩
      refine ⟨_, M2, rfl, h1, fun k v hv => ?_, rfl, h2.heap⟩
      simp only [St.trim]
      have := h2.env k v hv
      rw [alook_trimE _ _ _ (by rw [hv]; rfl)]
      exact this
    · rintro s ⟨s', M2, hs, h1, h2⟩
      cases hs
      refine ZhC h2 ?_
      refine Zbr (call := Zac C K0) Zah mixed Zak k5 (YhK raw i (by omega) _) ?_
      refine ⟨raw.length - (i + 1), ⟨e48 raw (i + 1), [], hN raw.length (i + 1) M2⟩, by omega, ⟨i + 1, M2, hlt, rfl, ?_, rfl⟩, fun k v hv => ZaJ hv, rfl, rfl⟩
      intro a b
      rw [h1 a b]
      simp only [List.not_mem_nil, false_and, exists_false, and_false, or_false]
      constructor
      · rintro (⟨h3, h4⟩ | ⟨rfl, u, h3, h4⟩)
        · exact ⟨by omega, h4⟩
        · exact ⟨Nat.lt_succ_self _, raw[a], hx, u, h3, h4⟩
      · rintro ⟨h3, h4⟩
        rcases Nat.lt_or_ge a i with h | h
        · exact .inl ⟨h, h4⟩
        · have : a = i := by omega
          subst this
          obtain ⟨x, h5, u, h6, h7⟩ := h4
          rw [hx] at h5
          cases h5
          exact .inr ⟨rfl, u, h6, h7⟩
    · rintro o ⟨s, M2, rfl, _⟩ hne
      exact absurd rfl (hne s)
  · have he : i = raw.length := by omega
    subst he
    refine ZbC (Q1 := fun o => o = .exit 0 ⟨e48 raw raw.length ++ [(18, .val (.d (.bool false)))], [], hN raw.length raw.length M⟩) (Zbr (call := Zac C K0) Zah mixed Zak k4 (Yey raw _) rfl) (fun s hs => by cases hs) ?_
    rintro o rfl _
    simp only [Za0]
    refine ⟨_, M, rfl, In1_nil.1 hI, ?_⟩
    exact ZkC (e0 := e48 raw 0) (e1 := e48 raw raw.length) (more := [(18, .val (.d (.bool false)))]) (Zos (fun k hk => by
      simp only [e48, List.map_cons, List.map_nil, List.mem_cons, List.not_mem_nil, or_false] at hk
      rcases hk with rfl | rfl | rfl | rfl | rfl <;> rfl))
end Go.Tev.S1
namespace Go.Tev.S1
open Go.Abs Go.Proofs
def In2 (A : Nat → Nat → Prop) (n k i j : Nat) (M : Mx) : Prop := ∀ a b, a < n → b < n → (M a b = true ↔ if a < i ∨ (a = i ∧ b < j) then WW A (k + 1) a b else WW A k a b)
theorem Yg0 {A : Nat → Nat → Prop} {n k i j : Nat} {M : Mx} (h : In2 A n k i j M) {a : Nat} (ha : a < n) (hk : k < n) : M a k = true ↔ WW A k a k := by
  rw [h a k ha hk]
  split
  · exact WW_col
  · exact Iff.rfl
theorem YgS {A : Nat → Nat → Prop} {n k i j : Nat} {M : Mx} (h : In2 A n k i j M) {b : Nat} (hb : b < n) (hk : k < n) : M k b = true ↔ WW A k k b := by
  rw [h k b hk hb]
  split
  · exact WW_row
  · exact Iff.rfl
theorem YdU {A : Nat → Nat → Prop} {n k i j : Nat} {M : Mx} (h : In2 A n k i j M) (hk : k < n) (hi : i < n) (hj : j < n) : In2 A n k i (j + 1) (if M i k = true ∧ M k j = true then ZzU M i j else M) := by
  have e1 := Yg0 h hi hk
  have e2 := YgS h hj hk
  have e3 := h i j hi hj
  rw [if_neg (by omega)] at e3
  intro a b ha hb
  by_cases hab : a = i ∧ b = j
  · obtain ⟨rfl, rfl⟩ := hab
    have hc2 : (a < a ∨ (a = a ∧ b < b + 1)) := .inr ⟨rfl, Nat.lt_succ_self _⟩
    have e5 : (if a < a ∨ (a = a ∧ b < b + 1) then WW A (k + 1) a b else WW A k a b) = WW A (k + 1) a b := if_pos hc2
    rw [e5]
    simp only [WW]
    rw [← e1, ← e2, ← e3]
    by_cases hc : M a k = true ∧ M k b = true
    · rw [if_pos hc]
      simp [ZzU, hc]
    · rw [if_neg hc]
      exact ⟨.inl, fun h3 => h3.elim id fun h3 => absurd h3 hc⟩
  · have e4 : (if M i k = true ∧ M k j = true then ZzU M i j else M) a b = M a b := by
      split
      · simp only [ZzU]; rw [if_neg hab]
      · rfl
    rw [e4, h a b ha hb]
    have : (a < i ∨ (a = i ∧ b < j)) ↔ (a < i ∨ (a = i ∧ b < j + 1)) := by omega
    simp only [this]
theorem YcY {A : Nat → Nat → Prop} {n k i : Nat} {M : Mx} (h : In2 A n k i n M) : In2 A n k (i + 1) 0 M := by
  intro a b ha hb
  rw [h a b ha hb]
  have : (a < i ∨ (a = i ∧ b < n)) ↔ (a < i + 1 ∨ (a = i + 1 ∧ b < 0)) := by omega
  simp only [this]
theorem Yct {A : Nat → Nat → Prop} {n k : Nat} {M : Mx} (h : In2 A n k n 0 M) : In2 A n (k + 1) 0 0 M := by
  intro a b ha hb
  rw [h a b ha hb, if_pos (.inl ha), if_neg (by omega)]
theorem Yac (raw : List Cus) (hl : raw.length ≤ 2 ^ 36) (A : Nat → Nat → Prop) (k i : Nat) (hk : k < raw.length) (hi : i < raw.length) (M : Mx) (hM : In2 A raw.length k i 0 M) :
    Tri C (C.ann 48) (.block 8 (.loop ZrL)) ⟨q48 raw k i 0, [], hN raw.length raw.length M⟩ fun o => ∃ s M2, o = .norm s ∧ In2 A raw.length k i raw.length M2 ∧ Sub ⟨p48 raw k i ++ [(59, .val (.d (.bool true)))], [], hN raw.length raw.length M2⟩ s := by
  obtain ⟨_, _, _, _, _, kL, _, _, _⟩ := Zyz
  refine ZbI ?_
  refine Zfg (fun m s => ∃ j M2, j ≤ raw.length ∧ m = raw.length - j ∧ In2 A raw.length k i j M2 ∧ s = ⟨q48 raw k i j, [], hN raw.length raw.length M2⟩) (n := raw.length) ⟨0, M, Nat.zero_le _, rfl, hM, rfl⟩ ?_
  rintro m s ⟨j, M2, hj, rfl, hI, rfl⟩
  rcases Nat.lt_or_ge j raw.length with hlt | hge
  · refine Zbr (call := Zac C K0) Zah mixed Zak kL (Yfa raw k i j hk hi hlt (Nat.le_trans hl (by decide)) M2) ?_
    exact ⟨raw.length - (j + 1), ⟨q48 raw k i (j + 1), [], _⟩, by omega, ⟨j + 1, _, hlt, rfl, YdU hI hk hi hlt, rfl⟩, fun k v hv => ZaJ hv, rfl, rfl⟩
  · have he : j = raw.length := by omega
    subst he
    refine Zbr (call := Zac C K0) Zah mixed Zak kL (Yc8 raw k i _) ?_
    simp only [Za0]
    refine ⟨_, M2, rfl, hI, ?_⟩
    exact ZkC (e0 := q48 raw k i 0) (e1 := p48 raw k i ++ [(59, .val (.d (.bool true)))]) (more := [(11, .val (.d (.int .i64 raw.length)))] ++ [(64, .val (.d (.bool false)))]) (Zos (fun k hk => by
      simp only [p48, g48, e48, List.cons_append, List.nil_append, List.map_cons, List.map_nil, List.mem_cons, List.not_mem_nil, or_false] at hk
      rcases hk with rfl | rfl | rfl | rfl | rfl | rfl | rfl | rfl | rfl <;> rfl))
theorem Ybk (raw : List Cus) (hl : raw.length ≤ 2 ^ 36) (A : Nat → Nat → Prop) (k : Nat) (hk : k < raw.length) (M : Mx) (hM : In2 A raw.length k 0 0 M) :
    Tri C (C.ann 48) (.block 6 (.loop (.seq Zm0 (.seq (.block 7 (.seq ZqR (.block 8 (.loop ZrL)))) ZqT)))) ⟨p48 raw k 0, [], hN raw.length raw.length M⟩ fun o => ∃ s M2, o = .norm s ∧ In2 A raw.length k raw.length 0 M2 ∧ Sub ⟨g48 raw k ++ [(54, .val (.d (.bool true)))], [], hN raw.length raw.length M2⟩ s := by
  obtain ⟨_, _, _, k18, k20, _, k19, _, _⟩ := Zyz
  refine ZbI ?_
  refine Zfg (fun m s => ∃ i M2, i ≤ raw.length ∧ m = raw.length - i ∧ In2 A raw.length k i 0 M2 ∧ s = ⟨p48 raw k i, [], hN raw.length raw.length M2⟩) (n := raw.length) ⟨0, M, Nat.zero_le _, rfl, hM, rfl⟩ ?_
  rintro m s ⟨i, M2, hi, rfl, hI, rfl⟩
  rcases Nat.lt_or_ge i raw.length with hlt | hge
  · refine ZaF (call := Zac C K0) Zah mixed Zak k18 (Yc7 raw k i hlt _) ?_
    refine ZbC (Q1 := fun o => ∃ s M3, o = .norm s ∧ In2 A raw.length k i raw.length M3 ∧ Sub ⟨p48 raw k i ++ [(59, .val (.d (.bool true)))], [], hN raw.length raw.length M3⟩ s) ?_ ?_ ?_
    · refine ZbI ?_
      refine ZaF (call := Zac C K0) Zah mixed Zak k20 (Yc3 raw k i _) ?_
      refine Zky (Yac raw hl A k i hk hlt M2 hI) ?_
      rintro o ⟨s, M3, rfl, h1, h2⟩
      refine ⟨_, M3, rfl, h1, fun k v hv => ?_, rfl, h2.heap⟩
      simp only [St.trim]
      have := h2.env k v hv
      rw [alook_trimE _ _ _ (by rw [hv]; rfl)]
      exact this
    · rintro s ⟨s', M3, hs, h1, h2⟩
      cases hs
      refine ZhC h2 ?_
      refine Zbr (call := Zac C K0) Zah mixed Zak k19 (YeX raw k i (by omega) _) ?_
      exact ⟨raw.length - (i + 1), ⟨p48 raw k (i + 1), [], hN raw.length raw.length M3⟩, by omega, ⟨i + 1, M3, hlt, rfl, YcY h1, rfl⟩, fun k v hv => ZaJ hv, rfl, rfl⟩
    · rintro o ⟨s, M3, rfl, _⟩ hne
      exact absurd rfl (hne s)
  · have he : i = raw.length := by omega
    subst he
    refine ZbC (Q1 := fun o => o = .exit 6 ⟨p48 raw k raw.length ++ [(59, .val (.d (.bool false)))], [], hN raw.length raw.length M2⟩) (Zbr (call := Zac C K0) Zah mixed Zak k18 (Ybq raw k _) rfl) (fun s hs => by cases hs) ?_
    rintro o rfl _
    simp only [Za0]
    refine ⟨_, M2, rfl, hI, ?_⟩
    exact ZkC (e0 := p48 raw k 0) (e1 := g48 raw k ++ [(54, .val (.d (.bool true)))]) (more := [(10, .val (.d (.int .i64 raw.length)))] ++ [(59, .val (.d (.bool false)))]) (Zos (fun k hk => by
      simp only [g48, e48, List.cons_append, List.nil_append, List.map_cons, List.map_nil, List.mem_cons, List.not_mem_nil, or_false] at hk
      rcases hk with rfl | rfl | rfl | rfl | rfl | rfl | rfl <;> rfl))
theorem Zwl (raw : List Cus) (hl : raw.length ≤ 2 ^ 36) (A : Nat → Nat → Prop) (M : Mx) (hM : In2 A raw.length 0 0 0 M) : Tri C (C.ann 48) (.seq Zto (.block 4 (.loop (.seq ZoL (.seq (.block 5 (.seq Zuj (.block 6 (.loop (.seq Zm0 (.seq (.block 7 (.seq ZqR (.block 8 (.loop ZrL)))) ZqT)))))) ZtG)))))
    ⟨e48 raw raw.length, [], hN raw.length raw.length M⟩
    fun o => ∃ s M2, o = .norm s ∧ (∀ a b, a < raw.length → b < raw.length → (M2 a b = true ↔ WW A raw.length a b)) ∧ Sub ⟨g48 raw raw.length, [], hN raw.length raw.length M2⟩ s := by
  obtain ⟨k14, k15, k17, _, _, _, _, k16, _⟩ := Zyz
  refine ZaF (call := Zac C K0) Zah mixed Zak k14 (YeB raw _) ?_
  refine ZbI ?_
  refine Zfg (fun m s => ∃ k M2, k ≤ raw.length ∧ m = raw.length - k ∧ In2 A raw.length k 0 0 M2 ∧ s = ⟨g48 raw k, [], hN raw.length raw.length M2⟩) (n := raw.length) ⟨0, M, Nat.zero_le _, rfl, hM, rfl⟩ ?_
  rintro m s ⟨k, M2, hk, rfl, hI, rfl⟩
  rcases Nat.lt_or_ge k raw.length with hlt | hge
  · refine ZaF (call := Zac C K0) Zah mixed Zak k15 (Yd8 raw k hlt _) ?_
    refine ZbC (Q1 := fun o => ∃ s M3, o = .norm s ∧ In2 A raw.length k raw.length 0 M3 ∧ Sub ⟨g48 raw k ++ [(54, .val (.d (.bool true)))], [], hN raw.length raw.length M3⟩ s) ?_ ?_ ?_
    · refine ZbI ?_
      refine ZaF (call := Zac C K0) Zah mixed Zak k17 (Yen raw k _) ?_
      refine Zky (Ybk raw hl A k hlt M2 hI) ?_
      rintro o ⟨s, M3, rfl, h1, h2⟩
      refine ⟨_, M3, rfl, h1, fun k v hv => ?_, rfl, h2.heap⟩
      simp only [St.trim]
      have := h2.env k v hv
      rw [alook_trimE _ _ _ (by rw [hv]; rfl)]
      exact this
    · rintro s ⟨s', M3, hs, h1, h2⟩
      cases hs
      refine ZhC h2 ?_
      refine Zbr (call := Zac C K0) Zah mixed Zak k16 (YcX raw k (by omega) _) ?_
      exact ⟨raw.length - (k + 1), ⟨g48 raw (k + 1), [], hN raw.length raw.length M3⟩, by omega, ⟨k + 1, M3, hlt, rfl, Yct h1, rfl⟩, fun k v hv => ZaJ hv, rfl, rfl⟩
    · rintro o ⟨s, M3, rfl, _⟩ hne
      exact absurd rfl (hne s)
  · have he : k = raw.length := by omega
    subst he
    refine ZbC (Q1 := fun o => o = .exit 4 ⟨g48 raw raw.length ++ [(54, .val (.d (.bool false)))], [], hN raw.length raw.length M2⟩) (Zbr (call := Zac C K0) Zah mixed Zak k15 (YbH raw _) rfl) (fun s hs => by cases hs) ?_
    rintro o rfl _
    simp only [Za0]
    refine ⟨_, M2, rfl, fun a b ha hb => ?_, ?_⟩
    · rw [hI a b ha hb, if_neg (by omega)]
    · exact ZkC (e0 := g48 raw 0) (e1 := g48 raw raw.length) (more := [(54, .val (.d (.bool false)))]) (Zos (fun k hk => by
        simp only [g48, e48, List.cons_append, List.nil_append, List.map_cons, List.map_nil, List.mem_cons, List.not_mem_nil, or_false] at hk
        rcases hk with rfl | rfl | rfl | rfl | rfl | rfl <;> rfl))
open Classical in
noncomputable def Zfo (raw : List Cus) : List (List Bool) := (List.range raw.length).map fun i => (List.range raw.length).map fun j => decide (WW (Adj raw) raw.length i j)
def YfZ (l : List (List Bool)) : DV := .slc (l.map fun r => .slc (r.map DV.bool))
theorem ZsX {α β γ : Type} {f : β → Option γ} {g : α → β} {k : α → γ} : ∀ l : List α, (∀ x ∈ l, f (g x) = some (k x)) → mapO f (l.map g) = some (l.map k)
  | [], _ => rfl
  | x :: r, h => by
    have ih := ZsX r (fun y hy => h y (List.mem_cons_of_mem _ hy))
    have hx := h x List.mem_cons_self
    rw [List.map_cons, List.map_cons]
    simp only [mapO, hx, ih]
open Classical in
theorem Yas (raw : List Cus) (hok : ZfI raw) : Has Try.prog 48 [.d (d44 raw)] [] (.d (YfZ (Zfo raw))) [] := by
  obtain ⟨k0, k1, k2, _, _, _, _, _, _, _⟩ := Ygj
  obtain ⟨_, _, _, _, _, _, _, _, k25⟩ := Zyz
  have hB : B = 2 ^ 36 := rfl
  have hl : raw.length ≤ 2 ^ 36 := by rw [← hB]; exact hok.1
  have h : HasN Try.prog 48 [.d (d44 raw)] [] (fun r h' => ∃ M : Mx, r = .osl 0 0 raw.length ∧ h' = hN raw.length raw.length M ∧ ∀ a b, a < raw.length → b < raw.length → (M a b = true ↔ WW (Adj raw) raw.length a b)) := by
    refine Zgh (C := C) (f := 48) (fn := Try.f48) Try.func48 Ygw (by kernel_rfl) ?_
    refine ZaF (call := Zac C K0) Zah mixed Zak k0 (Ygg raw) ?_
    refine ZaF (call := Zac C K0) Zah mixed Zak k1 (Yhk raw) ?_
    refine ZaF (call := Zac C K0) Zah mixed Zak k2 (Yhd raw (Nat.le_trans hl (by decide))) ?_
    refine ZbC (Zwk raw hok hl) ?_ (fun o ⟨s, M, h1, _⟩ hne => absurd h1 (hne s))
    rintro s ⟨s', M, hs, hM, hsub⟩
    cases hs
    refine ZhC hsub ?_
    refine ZbC (Zwl raw hl (Adj raw) M fun a b ha hb => ?_) ?_ (fun o ⟨s, M, h1, _⟩ hne => absurd h1 (hne s))
    · rw [if_neg (by omega), hM a b]
      exact ⟨fun h => h.2, fun h => ⟨ha, h⟩⟩
    rintro s ⟨s', M2, hs, hM2, hsub⟩
    cases hs
    refine ZhC hsub ?_
    obtain ⟨s1, e1, e2, e3⟩ := Yd3 (call := Zac C K0) raw raw.length (hN raw.length raw.length M2)
    refine ZaF (call := Zac C K0) Zah mixed Zak k25 e1 ?_
    refine Zbr (call := Zac C K0) (n := 0) Zah mixed Zak rfl rfl ?_
    exact ⟨_, e2, M2, rfl, e3, hM2⟩
  refine HasN.frozen (ds := [d44 raw]) h ?_
  rintro r h' ⟨M, rfl, rfl, hM⟩
  refine ⟨2, ?_⟩
  have h1 : (Zqy raw.length raw.length).take raw.length = (List.range raw.length).map fun i => AV.osl (i + 1) 0 raw.length := by
    rw [List.take_of_length_le (by simp [Zqy])]
    unfold Zqy
    refine List.map_congr_left fun i hi => ?_
    rw [if_pos (List.mem_range.1 hi)]
  have h2 : mapO (Abs.freeze (hN raw.length raw.length M) 1) ((Zqy raw.length raw.length).take raw.length) = some ((Zfo raw).map fun r => DV.slc (r.map DV.bool)) := by
    rw [h1, Zfo, List.map_map]
    refine ZsX _ fun i hi => ?_
    have hi2 := List.mem_range.1 hi
    have h3 : (hN raw.length raw.length M)[i + 1]? = some (.arr 0 true (Zqh raw.length (M i))) := by
      unfold hN
      rw [List.getElem?_cons_succ, List.getElem?_map, List.getElem?_range hi2]
      rfl
    have h4 : mapO (Abs.freeze (hN raw.length raw.length M) 0) ((Zqh raw.length (M i)).take raw.length) = some (((List.range raw.length).map fun j => decide (WW (Adj raw) raw.length i j)).map DV.bool) := by
      rw [List.take_of_length_le (by simp [Zqh]), Zqh, List.map_map]
      refine ZsX _ fun j hj => ?_
      simp only [Abs.freeze, Function.comp_apply, Option.some.injEq, DV.bool.injEq]
      rw [Bool.eq_iff_iff, decide_eq_true_eq]
      exact hM i j hi2 (List.mem_range.1 hj)
    simp only [Abs.freeze, h3, Nat.beq_refl, Bool.true_and]
    have h5 : Nat.ble raw.length (Zqh raw.length (M i)).length = true := by rw [Nat.ble_eq]; simp [Zqh]
    rw [h5, cond_true, h4]
    rfl
  have h6 : Nat.ble raw.length (Zqy raw.length raw.length).length = true := by rw [Nat.ble_eq]; simp [Zqy]
  show (match (hN raw.length raw.length M)[0]? with
    | some (.arr g' _ es) => bif Nat.beq 0 g' && Nat.ble raw.length es.length then (mapO (Abs.freeze (hN raw.length raw.length M) 1) (es.take raw.length)).map DV.slc else none
    | _ => none) = _
  show (bif Nat.beq 0 0 && Nat.ble raw.length (Zqy raw.length raw.length).length then (mapO (Abs.freeze (hN raw.length raw.length M) 1) ((Zqy raw.length raw.length).take raw.length)).map DV.slc else none) = _
  rw [h6, h2]
  rfl
end Go.Tev.S1
namespace Go.Tev.S1
open Go.Abs Go.Proofs
mutual
theorem Yhy : ∀ a b : Val, a.enc = b.enc → a = b
  | .mk ⟨k, t, n, u, f⟩ l, .mk ⟨k', t', n', u', f'⟩ l', h => by
    simp only [Val.enc, DV.agg.injEq, List.cons.injEq, DV.int.injEq, DV.str.injEq, DV.bool.injEq, DV.slc.injEq, true_and, and_true] at h
    obtain ⟨rfl, rfl, rfl, rfl, rfl, h6⟩ := h
    rw [ZsN l l' h6]
theorem ZsN : ∀ a b : List Val, Yat a = Yat b → a = b
  | [], [], _ => rfl
  | [], b :: l, h => by simp [Yat] at h
  | a :: l, [], h => by simp [Yat] at h
  | a :: l, b :: l', h => by
    simp only [Yat, List.cons.injEq] at h
    rw [Yhy a b h.1, ZsN l l' h.2]
end
theorem Yg4 (a b : Cus) (h : a.enc = b.enc) : a = b := by
  obtain ⟨n, v⟩ := a
  obtain ⟨n', v'⟩ := b
  simp only [Cus.enc, DV.agg.injEq, List.cons.injEq, DV.str.injEq, DV.slc.injEq, and_true, ← Zsf] at h
  obtain ⟨rfl, h2⟩ := h
  rw [ZsN v v' h2]
theorem YgA {a b : List Cus} (h : d44 a = d44 b) : a = b := by
  simp only [d44, DV.slc.injEq] at h
  induction a generalizing b with
  | nil => cases b with
    | nil => rfl
    | cons y b => simp at h
  | cons x a ih => cases b with
    | nil => simp at h
    | cons y b =>
      simp only [List.map_cons, List.cons.injEq] at h
      rw [Yg4 x y h.1, ih h.2]
theorem Zpe {K : Zaa} {f : FuncId} {t rt : Nat} {s : X t → Option (X rt)} (h : ∀ a r, s a = some r → K f [.d (U.enc t a)] [] = some (.d (U.enc rt r), [])) : Zag U (Zac C K) f ⟨true, [.ty t], [rt], s⟩ := by
  intro vs a r ds g hp hd hs hr
  have hp : YfK U [.ty t] vs = some a := hp
  unfold YfK at hp
  split at hp
  · rename_i ws hws
    have e1 : vs = ws := by
      cases vs with
      | nil => simp [Zf8] at hws
      | cons v vs =>
        simp only [Zf8] at hws
        split at hws
        · rename_i ws' h2
          cases hws
          cases vs with
          | nil => simp only [Zf8] at h2; cases h2; rfl
          | cons v2 vs => simp [Zf8] at h2
        · cases hws
    subst e1
    cases vs with
    | nil => cases hp
    | cons v vs =>
      cases vs with
      | cons v2 vs => cases hp
      | nil =>
        have hp : U.prj t v = some a := hp
        have hv := ok.prj _ _ _ hp
        simp only [dvL, hv, Option.some.injEq] at hd
        subst hd
        have hr : U.inj rt = some g := hr
        refine ⟨_, ok.inj _ _ r hr, ?_⟩
        unfold Zdb
        have : Zac C K f [.d (U.enc t a)] [] = some (.d (U.enc rt r), []) := Zv9 (h a r hs)
        simp only [List.map_cons, List.map_nil, this]
  · cases hp
open Classical in
noncomputable def YhW (F : List Cus → Prop) (G : List Cus → DV) (args : List AV) (h : List AObj) : Option (AV × List AObj) := if e : ∃ raw : List Cus, args = [.d (d44 raw)] ∧ h = [] ∧ F raw then some (.d (G e.choose), []) else none
theorem ZuZ {F : List Cus → Prop} {G : List Cus → DV} {args : List AV} {h : List AObj} {r : AV} {h' : List AObj} (he : YhW F G args h = some (r, h')) : ∃ raw, args = [.d (d44 raw)] ∧ h = [] ∧ F raw ∧ r = .d (G raw) ∧ h' = [] := by
  unfold YhW at he
  split at he
  · rename_i e
    obtain ⟨h1, h2, h3⟩ := e.choose_spec
    cases he
    exact ⟨_, h1, h2, h3, rfl, rfl⟩
  · cases he
theorem YcJ {F : List Cus → Prop} (G : List Cus → DV) {raw : List Cus} (hF : F raw) : YhW F G [.d (d44 raw)] [] = some (.d (G raw), []) := by
  have e : ∃ r : List Cus, [AV.d (d44 raw)] = [.d (d44 r)] ∧ ([] : List AObj) = [] ∧ F r := ⟨raw, rfl, rfl, hF⟩
  unfold YhW
  rw [dif_pos e]
  have h1 := e.choose_spec.1
  have h2 : raw = e.choose := YgA (by simpa using h1)
  rw [← h2]
noncomputable def K1 : Zaa := fun f args h =>
  bif Nat.beq f 25 then YhW (fun raw => (raw.map Cus.name).Nodup ∧ ZfI raw) (fun raw => .slc ((ZgS raw (Zew raw)).map Cus.enc)) args h
  else bif Nat.beq f 48 then YhW ZfI (fun raw => YfZ (Zfo raw)) args h
  else K0 f args h
theorem Yjh : Zb9 Try.prog K1 := by
  intro f args h r h' he
  unfold K1 at he
  cases hb : Nat.beq f 25 with
  | true =>
    rw [hb, cond_true] at he
    have := Nat.eq_of_beq_eq_true hb
    subst this
    obtain ⟨raw, rfl, rfl, hF, rfl, rfl⟩ := ZuZ he
    exact Yaq raw hF.1 hF.2
  | false =>
    rw [hb, cond_false] at he
    cases hb2 : Nat.beq f 48 with
    | true =>
      rw [hb2, cond_true] at he
      have := Nat.eq_of_beq_eq_true hb2
      subst this
      obtain ⟨raw, rfl, rfl, hF, rfl, rfl⟩ := ZuZ he
      exact Yas raw hF
    | false =>
      rw [hb2, cond_false] at he
      exact YhY _ _ _ _ _ he
theorem ZbQ : Zcf K1 := by
  intro f args h hf
  unfold K1
  rw [show Nat.beq f 25 = false from beq_ne.2 fun e => hf (by subst e; decide), show Nat.beq f 48 = false from beq_ne.2 fun e => hf (by subst e; decide)]
  exact Zmf f args h hf
open Classical in
noncomputable def ZoE (raw : List Cus) : Option (List Cus) := if (raw.map Cus.name).Nodup ∧ ZfI raw then some (ZgS raw (Zew raw)) else none
theorem ZzF {raw : List Cus} (h : (raw.map Cus.name).Nodup) (h2 : ZfI raw) : ZoE raw = some (ZgS raw (Zew raw)) := if_pos ⟨h, h2⟩
noncomputable def ZoT (raw : List Cus) : Option (List (List Bool)) := if ZfI raw then some (Zfo raw) else none
theorem YcL {raw : List Cus} (h : ZfI raw) : ZoT raw = some (Zfo raw) := if_pos h
theorem Yg8 : Zag U (Zac C K1) 25 ⟨true, [.ty 22], [22], ZoE⟩ := Zpe (t := 22) (rt := 22) fun a r h => by
  have h : ZoE a = some r := h
  unfold ZoE at h
  split at h
  · rename_i hc
    cases h
    exact YcJ (F := fun raw => (raw.map Cus.name).Nodup ∧ ZfI raw) (fun raw => .slc ((ZgS raw (Zew raw)).map Cus.enc)) hc
  · cases h
theorem YfY : Zag U (Zac C K1) 48 ⟨true, [.ty 22], [81], ZoT⟩ := Zpe (t := 22) (rt := 81) fun a r h => by
  have h : ZoT a = some r := h
  unfold ZoT at h
  split at h
  · rename_i hc
    cases h
    exact YcJ (F := ZfI) (fun raw => YfZ (Zfo raw)) hc
  · cases h
end Go.Tev.S1
namespace Go.Tev.S1
open Go.Abs Go.Proofs
theorem mem_usesL {n : List UInt8} {l : List Val} : n ∈ ZbS l ↔ ∃ v ∈ l, n ∈ v.uses := by
  induction l with
  | nil => simp [ZbS]
  | cons v l ih => simp [ZbS, ih]
theorem ZtK {v : Val} : ∀ {l : List Val}, v ∈ spL l → v ∈ l
  | [], h => h
  | w :: r, h => by
    unfold spL at h
    split at h
    · exact List.mem_cons_of_mem _ (ZtK h)
    · exact h
theorem YgX {v : Val} {l : List Val} (h : v ∈ trL l) : v ∈ l := by
  unfold trL trR at h
  rw [List.mem_reverse] at h
  have := ZtK h
  rw [List.mem_reverse] at this
  exact ZtK this
theorem YcD {v : Val} {l : List Val} (h : v ∈ (Zav l).2.1) : v ∈ l := by
  unfold Zav at h
  split at h
  · simp at h
  · rename_i x r e
    split at h
    · split at h
      · simp at h
      · rename_i y s e2
        split at h
        · have h1 : v ∈ s := YgX h
          have h2 : v ∈ spL r := by rw [e2]; exact List.mem_cons_of_mem _ h1
          have h3 : v ∈ spL l := by rw [e]; exact List.mem_cons_of_mem _ (ZtK h2)
          exact ZtK h3
        · simp at h
    · simp at h
def Agree (lk lk' : Lk) (l : List Val) : Prop := lk [] = lk' [] ∧ ∀ n ∈ ZbS l, lk n = lk' n
theorem Agree.parts {lk lk' : Lk} {v : Val} {r : List Val} (h : Agree lk lk' (v :: r)) : Agree lk lk' r ∧ Agree lk lk' v.l ∧ Agree lk lk' (Zav v.l).2.1 ∧ (v.ref = true → lk (Zav v.l).1 = lk' (Zav v.l).1) := by
  obtain ⟨h0, h⟩ := h
  have h1 : ∀ n ∈ v.uses, lk n = lk' n := fun n hn => h n (by rw [ZbS]; exact List.mem_append_left _ hn)
  have h2 : ∀ n ∈ ZbS v.l, lk n = lk' n := fun n hn => h1 n (by rw [Val.uses_eq]; exact List.mem_append_right _ hn)
  refine ⟨⟨h0, fun n hn => h n (by rw [ZbS]; exact List.mem_append_right _ hn)⟩, ⟨h0, h2⟩, ⟨h0, fun n hn => ?_⟩, fun hr => ?_⟩
  · obtain ⟨w, hw, hn⟩ := mem_usesL.1 hn
    exact h2 n (mem_usesL.2 ⟨w, YcD hw, hn⟩)
  · by_cases e : (Zav v.l).1 = []
    · rw [e]; exact h0
    · refine h1 _ ?_
      rw [Val.uses_eq]
      refine List.mem_append_left _ ?_
      have : (v.ref && ((Zav v.l).1 != [])) = true := by rw [hr]; simpa using e
      rw [if_pos this]
      exact List.mem_singleton.2 rfl
theorem Yci {lk lk' : Lk} : ∀ l, Agree lk lk' l → Zfr lk l = Zfr lk' l ∧ ZeQ lk l = ZeQ lk' l := by
  refine ZiI _ ?_ ?_
  · intro _; exact ⟨by rw [Zda, Zda], by rw [ZfM, ZfM]⟩
  · intro v r h1 h2 h3 ha
    obtain ⟨a1, a2, a3, a4⟩ := ha.parts
    obtain ⟨b1, c1⟩ := h1 a1
    obtain ⟨b2, c2⟩ := h2 a2
    obtain ⟨b3, c3⟩ := h3 a3
    rw [ZeI, ZeI, Zfn, Zfn, b1, c1]
    cases hr : v.ref with
    | false =>
      rw [Zo5 hr, Zo5 hr, ZrD hr, ZrD hr, b2, c2]
      exact ⟨rfl, rfl⟩
    | true =>
      have a4 := a4 hr
      unfold ZwT ZyX
      rw [if_pos hr, if_pos hr, if_pos hr, if_pos hr, a4, b3, c3]
      exact ⟨rfl, rfl⟩
theorem YbD {lk lk' : Lk} {l : List Val} (h : Agree lk lk' l) : Ze7 lk l = Ze7 lk' l := by
  obtain ⟨h1, h2⟩ := Yci l h
  unfold Ze7
  rw [h1, h2]
def Ybj (lk : Lk) (x : Cus) : Option (List Val) := bif decide ((Ze7 lk x.val).2 = 0) && decide ((Zal (Ze7 lk x.val).1 : Int) ≤ 2000) then some (Ze7 lk x.val).1 else none
theorem Zg2 {lk lk' : Lk} {x : Cus} (h : Agree lk lk' x.val) : Ybj lk x = Ybj lk' x := by unfold Ybj; rw [YbD h]
theorem Zxk {α : Type} {R : α → α → Prop} (tr : ∀ {a b c}, R a b → R b c → R a c) : ∀ S : List α, S ≠ [] → (∀ a ∈ S, ¬ R a a) → ∃ m ∈ S, ∀ b ∈ S, ¬ R m b
  | [], h, _ => absurd rfl h
  | a :: S, _, h => by
    have ha := h a List.mem_cons_self
    cases S with
    | nil =>
      refine ⟨a, List.mem_cons_self, fun b hb => ?_⟩
      rw [List.mem_singleton] at hb
      subst hb
      exact ha
    | cons c S =>
      obtain ⟨m, hm, hmx⟩ := Zxk (R := R) tr (c :: S) (by simp) (fun x hx => h x (List.mem_cons_of_mem _ hx))
      by_cases hma : R m a
      · refine ⟨a, List.mem_cons_self, fun b hb hab => ?_⟩
        rcases List.mem_cons.1 hb with rfl | hb
        · exact ha hab
        · exact hmx b hb (tr hma hab)
      · refine ⟨m, List.mem_cons_of_mem _ hm, fun b hb => ?_⟩
        rcases List.mem_cons.1 hb with rfl | hb
        · exact hma
        · exact hmx b hb
theorem Path.trans {G : Nd} {a b c : List UInt8} (h : Path G a b) (k : Path G b c) : Path G a c := by
  induction h with
  | one e => exact .step e k
  | step e t ih => exact .step e (ih k)
def ZzQ (raw : List Cus) (n : List UInt8) : Prop := Path (Zbk raw) n n
structure Sol (raw : List Cus) (lk : Lk) : Prop where
  out : ∀ n, n ∉ raw.map Cus.name → lk n = none
  loop : ∀ n, ZzQ raw n → lk n = none
  val : ∀ x ∈ raw, ¬ ZzQ raw x.name → lk x.name = Ybj lk x
theorem Zu5 {raw : List Cus} (hn : (raw.map Cus.name).Nodup) {x : Cus} (hx : x ∈ raw) : Zbd BEq.beq x.name (Zbk raw) = some (ZhY [] x.val) := by
  induction raw with
  | nil => cases hx
  | cons y r ih =>
    rw [List.map_cons, List.nodup_cons] at hn
    simp only [Zbk, List.map_cons, Zbd]
    rcases List.mem_cons.1 hx with rfl | hx
    · simp
    · have : (x.name == y.name) = false := by
        rw [beq_eq_false_iff_ne]
        intro e
        exact hn.1 (e ▸ List.mem_map.2 ⟨x, hx, rfl⟩)
      rw [this, cond_false]
      exact ih hn.2 hx
theorem YbW {raw : List Cus} {n : List UInt8} (h : n ∈ raw.map Cus.name) : (Zbd BEq.beq n (Zbk raw)).isSome = true := by
  cases e : Zbd BEq.beq n (Zbk raw) with
  | some u => rfl
  | none =>
    exfalso
    induction raw with
    | nil => simp at h
    | cons y r ih =>
      simp only [Zbk, List.map_cons, Zbd] at e
      cases e2 : (n == y.name) with
      | true => rw [e2] at e; cases e
      | false =>
        rw [e2] at e
        rw [List.map_cons, List.mem_cons] at h
        rcases h with h | h
        · rw [beq_eq_false_iff_ne] at e2; exact e2 h
        · exact ih h e
theorem mem_col {n : List UInt8} {l : List Val} : n ∈ Zj6 (ZhY [] l) ↔ n ∈ ZbS l := by
  have put : ∀ (k : List UInt8) (h : Bm), n ∈ Zj6 (ZzV BEq.beq k true h) ↔ n = k ∨ n ∈ Zj6 h := by
    intro k h
    induction h with
    | nil => simp [ZzV, Zj6]
    | cons p h ih =>
      obtain ⟨k', b⟩ := p
      simp only [ZzV]
      cases e : (k == k') with
      | true =>
        rw [beq_iff_eq] at e
        subst e
        simp [Zj6]
      | false =>
        simp only [cond_false, Zj6, List.map_cons, List.mem_cons] at ih ⊢
        rw [ih]
        constructor
        · rintro (h | h | h)
          · exact .inr (.inl h)
          · exact .inl h
          · exact .inr (.inr h)
        · rintro (h | h | h)
          · exact .inr (.inl h)
          · exact .inl h
          · exact .inr (.inr h)
  have : ∀ (us : List (List UInt8)) (h : Bm), n ∈ Zj6 (us.foldl (fun h n => ZzV BEq.beq n true h) h) ↔ n ∈ us ∨ n ∈ Zj6 h := by
    intro us
    induction us with
    | nil => intro h; simp
    | cons k us ih =>
      intro h
      rw [List.foldl_cons, ih, put, List.mem_cons]
      constructor
      · rintro (h | h | h)
        · exact .inl (.inr h)
        · exact .inl (.inl h)
        · exact .inr h
      · rintro ((h | h) | h)
        · exact .inr (.inl h)
        · exact .inl h
        · exact .inr (.inr h)
  unfold ZhY
  rw [this]
  simp [Zj6]
theorem Zrx {raw : List Cus} (hn : (raw.map Cus.name).Nodup) {x : Cus} (hx : x ∈ raw) {m : List UInt8} : Edge (Zbk raw) x.name m ↔ m ∈ ZbS x.val ∧ m ∈ raw.map Cus.name := by
  constructor
  · rintro ⟨u, h1, h2, h3⟩
    rw [Zu5 hn hx] at h1
    cases h1
    refine ⟨mem_col.1 h2, ?_⟩
    have := Zlv h3
    rw [Zo0] at this
    exact this
  · rintro ⟨h1, h2⟩
    exact ⟨_, Zu5 hn hx, mem_col.2 h1, YbW h2⟩
theorem Zps {raw : List Cus} {n : List UInt8} (h : n ∈ raw.map Cus.name) : ∃ x ∈ raw, x.name = n := by
  obtain ⟨x, hx, rfl⟩ := List.mem_map.1 h
  exact ⟨x, hx, rfl⟩
theorem Yc5 {raw : List Cus} (hn : (raw.map Cus.name).Nodup) (hne : [] ∉ raw.map Cus.name) {lk lk' : Lk} (h : Sol raw lk) (h' : Sol raw lk') : lk = lk' := by
  classical
  funext n
  by_cases hd : ∃ x ∈ raw, lk x.name ≠ lk' x.name
  · exfalso
    let S := (raw.map Cus.name).filter fun n => decide (lk n ≠ lk' n)
    have hS : S ≠ [] := by
      obtain ⟨x, hx, hxd⟩ := hd
      intro e
      have : x.name ∈ S := List.mem_filter.2 ⟨List.mem_map.2 ⟨x, hx, rfl⟩, by simpa using hxd⟩
      rw [e] at this
      simp at this
    obtain ⟨m, hm, hmx⟩ := Zxk (R := Path (Zbk raw)) (fun h k => h.trans k) S hS fun a ha hp => by
      have := (List.mem_filter.1 ha).2
      simp only [decide_eq_true_eq] at this
      exact this ((h.loop a hp).trans (h'.loop a hp).symm)
    obtain ⟨hmr, hmd⟩ := List.mem_filter.1 hm
    simp only [decide_eq_true_eq] at hmd
    obtain ⟨x, hx, rfl⟩ := Zps hmr
    have hc : ¬ ZzQ raw x.name := fun hp => hmd ((h.loop _ hp).trans (h'.loop _ hp).symm)
    refine hmd ?_
    rw [h.val x hx hc, h'.val x hx hc]
    refine Zg2 ⟨(h.out _ hne).trans (h'.out _ hne).symm, fun u hu => ?_⟩
    by_cases hu2 : u ∈ raw.map Cus.name
    · by_cases hu3 : lk u = lk' u
      · exact hu3
      · exact absurd (Path.one ((Zrx hn hx).2 ⟨hu, hu2⟩)) (hmx u (List.mem_filter.2 ⟨hu2, by simpa using hu3⟩))
    · rw [h.out u hu2, h'.out u hu2]
  · by_cases h1 : n ∈ raw.map Cus.name
    · obtain ⟨x, hx, rfl⟩ := Zps h1
      by_cases h2 : lk x.name = lk' x.name
      · exact h2
      · exact absurd ⟨x, hx, h2⟩ hd
    · rw [h.out n h1, h'.out n h1]
end Go.Tev.S1
namespace Go.Tev.S1
open Go.Abs Go.Proofs
theorem mget_iff {β : Type} {a : List UInt8} : ∀ {M : List (List UInt8 × β)}, (Zbd BEq.beq a M).isSome = true ↔ a ∈ M.map Prod.fst
  | [] => by simp [Zbd]
  | (k, u) :: r => by
    simp only [Zbd, List.map_cons, List.mem_cons]
    cases e : (a == k) with
    | true => rw [beq_iff_eq] at e; simp [e]
    | false => rw [beq_eq_false_iff_ne] at e; simp only [cond_false]; rw [mget_iff]; simp [e]
theorem Zjg {β : Type} {a : List UInt8} {M : List (List UInt8 × β)} (h : a ∉ M.map Prod.fst) : Zbd BEq.beq a M = none := by
  cases e : Zbd BEq.beq a M with
  | none => rfl
  | some u => exact absurd (mget_iff.1 (by rw [e]; rfl)) h
theorem Zuw (a k : List UInt8) (v : List Val) : ∀ M : Mv, Zbd BEq.beq a (M ++ [(k, v)]) = match Zbd BEq.beq a M with
    | some u => some u
    | none => if a = k then some v else none
  | [] => by
    simp only [List.nil_append, Zbd]
    by_cases e : a = k
    · subst e; simp
    · have e2 : (a == k) = false := by simpa using e
      rw [e2, if_neg e]; rfl
  | (k', u) :: r => by
    have ih := Zuw a k v r
    simp only [List.cons_append, Zbd]
    cases (a == k') with
    | true => rfl
    | false => simpa using ih
theorem Zxf {Sv : Mv} {x : Cus} (h : x.name ∉ Sv.map Prod.fst) (n : List UInt8) : lkM (Zy5 Sv x) n = if n = x.name then Ybj (lkM Sv) x else lkM Sv n := by
  unfold Zy5 Ybj
  cases e : decide ((Ze7 (lkM Sv) x.val).2 = 0) && decide ((Zal (Ze7 (lkM Sv) x.val).1 : Int) ≤ 2000) with
  | false =>
    simp only [cond_false]
    split
    · rename_i h2; rw [h2]; exact Zjg h
    · rfl
  | true =>
    simp only [cond_true, lkM]
    rw [Zuw]
    split
    · rename_i u hu
      split
      · rename_i h2
        rw [h2, Zjg h] at hu
        cases hu
      · exact hu.symm
    · rename_i hu
      split
      · rfl
      · exact hu.symm
structure Jv (raw : List Cus) (Sv Op : Mv) : Prop where
  opn : ∀ a ∈ Op.map Prod.fst, a ∈ raw.map Cus.name ∧ ¬ ZzQ raw a
  svn : ∀ a ∈ Sv.map Prod.fst, a ∈ raw.map Cus.name ∧ ¬ ZzQ raw a ∧ a ∉ Op.map Prod.fst
  clo : ∀ x ∈ raw, ¬ ZzQ raw x.name → x.name ∉ Op.map Prod.fst → lkM Sv x.name = Ybj (lkM Sv) x ∧ ∀ u ∈ ZbS x.val, u ∉ Op.map Prod.fst
theorem ready_iff {Op : Mv} {x : Cus} : ZcQ Op x = true ↔ x.name ∈ Op.map Prod.fst ∧ ∀ u ∈ ZbS x.val, u ∉ Op.map Prod.fst := by
  unfold ZcQ
  rw [Bool.and_eq_true, mget_iff, Bool.not_eq_true', ← Bool.not_eq_true, List.any_eq_true]
  constructor
  · rintro ⟨h1, h2⟩
    refine ⟨h1, fun u hu hm => h2 ?_⟩
    obtain ⟨p, hp, rfl⟩ := List.mem_map.1 (mem_col.2 hu)
    exact ⟨p, hp, mget_iff.2 hm⟩
  · rintro ⟨h1, h2⟩
    refine ⟨h1, ?_⟩
    rintro ⟨p, hp, hm⟩
    exact h2 p.1 (mem_col.1 (List.mem_map.2 ⟨p, hp, rfl⟩)) (mget_iff.1 hm)
theorem ZyI {raw : List Cus} (hn : (raw.map Cus.name).Nodup) {O : List (List UInt8)} (hO : ∀ a ∈ O, a ∈ raw.map Cus.name ∧ ¬ ZzQ raw a) (hne : O ≠ []) : ∃ x ∈ raw, x.name ∈ O ∧ ∀ u ∈ ZbS x.val, u ∉ O := by
  obtain ⟨m, hm, hmx⟩ := Zxk (R := Path (Zbk raw)) (fun h k => h.trans k) O hne (fun a ha => (hO a ha).2)
  obtain ⟨x, hx, rfl⟩ := Zps (hO m hm).1
  exact ⟨x, hx, hm, fun u hu huO => hmx u huO (.one ((Zrx hn hx).2 ⟨hu, (hO u huO).1⟩))⟩
theorem Jv.step {raw : List Cus} (hne : [] ∉ raw.map Cus.name) {Sv Op : Mv} (J : Jv raw Sv Op) {x : Cus} (hx : x ∈ raw) (hinj : ∀ y ∈ raw, y.name = x.name → y = x) (h : ZcQ Op x = true) : Jv raw (Zy5 Sv x) (rmv x.name Op) := by
  obtain ⟨h1, h2⟩ := ready_iff.1 h
  have hxs : x.name ∉ Sv.map Prod.fst := fun hm => (J.svn _ hm).2.2 h1
  have agree : ∀ y : Cus, (∀ u ∈ ZbS y.val, u ≠ x.name) → Agree (lkM (Zy5 Sv x)) (lkM Sv) y.val := fun y hy => by
    refine ⟨?_, fun u hu => ?_⟩
    · rw [Zxf hxs, if_neg]
      intro e
      exact hne (e ▸ (J.opn _ h1).1)
    · rw [Zxf hxs, if_neg (hy u hu)]
  refine ⟨fun a ha => J.opn a (rmv_names.1 ha).1, fun a ha => ?_, fun y hy hc hyo => ?_⟩
  · rcases ZqM Sv x a ha with h3 | rfl
    · obtain ⟨g1, g2, g3⟩ := J.svn a h3
      exact ⟨g1, g2, fun h4 => g3 (rmv_names.1 h4).1⟩
    · exact ⟨(J.opn _ h1).1, (J.opn _ h1).2, fun h4 => (rmv_names.1 h4).2 rfl⟩
  · by_cases e : y.name = x.name
    · have := hinj y hy e
      subst this
      refine ⟨?_, fun u hu hm => h2 u hu (rmv_names.1 hm).1⟩
      rw [Zxf hxs, if_pos rfl]
      exact (Zg2 (agree y fun u hu e => h2 u hu (e ▸ h1))).symm
    · obtain ⟨g1, g2⟩ := J.clo y hy hc (fun hm => hyo (rmv_names.2 ⟨hm, e⟩))
      refine ⟨?_, fun u hu hm => g2 u hu (rmv_names.1 hm).1⟩
      rw [Zxf hxs, if_neg e, g1]
      exact (Zg2 (agree y fun u hu e => g2 u hu (e ▸ h1))).symm
theorem Jv.done {raw : List Cus} {Sv : Mv} (J : Jv raw Sv []) : Sol raw (lkM Sv) := by
  refine ⟨fun n hn => Zjg fun hm => hn (J.svn n hm).1, fun n hc => Zjg fun hm => (J.svn n hm).2.1 hc, fun x hx hc => (J.clo x hx hc (by simp)).1⟩
theorem YfJ {raw : List Cus} (hn : (raw.map Cus.name).Nodup) {x : Cus} (hx : x ∈ raw) : ∀ y ∈ raw, y.name = x.name → y = x := by
  intro y hy e
  obtain ⟨i, hi, rfl⟩ := List.mem_iff_getElem.1 hx
  obtain ⟨j, hj, rfl⟩ := List.mem_iff_getElem.1 hy
  have := (List.getElem_inj hn (i := j) (j := i) (h₀ := by simpa using hj) (h₁ := by simpa using hi)).1 (by simpa using e)
  subst this; rfl
theorem Zzh {raw : List Cus} (hn : (raw.map Cus.name).Nodup) (hne : [] ∉ raw.map Cus.name) : ∀ (n : Nat) (Sv Op : Mv), Jv raw Sv Op → Op.length ≤ n → Sol raw (lkM (ZjA raw n Sv Op)) := by
  intro n
  induction n with
  | zero =>
    intro Sv Op J h
    have : Op = [] := List.eq_nil_of_length_eq_zero (by omega)
    subst this
    exact J.done
  | succ n ih =>
    intro Sv Op J h
    simp only [ZjA]
    cases hf : raw.find? (ZcQ Op) with
    | some x =>
      have hr := List.find?_some hf
      have hx := List.mem_of_find?_eq_some hf
      have hlt := Yfy (ready_iff.1 hr).1
      exact ih _ _ (J.step hne hx (YfJ hn hx) hr) (by omega)
    | none =>
      have : Op = [] := by
        apply Classical.byContradiction
        intro ho
        obtain ⟨x, hx, h1, h2⟩ := ZyI hn (O := Op.map Prod.fst) J.opn (by simpa using ho)
        have := (List.find?_eq_none.1 hf) x hx
        exact this (ready_iff.2 ⟨h1, h2⟩)
      subst this
      exact J.done
theorem open0_names {raw : List Cus} {a : List UInt8} : a ∈ (Zmh raw).map Prod.fst ↔ a ∈ raw.map Cus.name ∧ ¬ ZzQ raw a := by
  unfold Zmh Zrb Zbm ZzQ
  simp only [List.mem_map, List.mem_filter, decide_eq_true_eq, Prod.mk.injEq, not_exists, not_and]
  constructor
  · rintro ⟨p, ⟨⟨x, hx, rfl⟩, h⟩, rfl⟩
    exact ⟨⟨x, hx, rfl⟩, fun hp => h x hx rfl hp⟩
  · rintro ⟨⟨x, hx, rfl⟩, h⟩
    refine ⟨(x.name, x.val), ⟨⟨x, hx, rfl⟩, fun y hy e hp => h ?_⟩, rfl⟩
    have e : y.name = x.name := e
    rw [← e]; exact hp
theorem Zzs {raw : List Cus} (hn : (raw.map Cus.name).Nodup) (hne : [] ∉ raw.map Cus.name) : Sol raw (lkM (Zew raw)) := by
  refine Zzh hn hne _ _ _ ⟨fun a ha => open0_names.1 ha, fun a ha => by simp at ha, fun x hx hc ho => absurd (open0_names.2 ⟨List.mem_map.2 ⟨x, hx, rfl⟩, hc⟩) ho⟩ (Nat.le_refl _)
theorem Yha {raw : List Cus} (hn : (raw.map Cus.name).Nodup) {Sv : Mv} (h : ∀ n, n ∉ raw.map Cus.name → lkM Sv n = none) (n : List UInt8) : lkC (ZgS raw Sv) n = lkM Sv n := by
  by_cases hr : n ∈ raw.map Cus.name
  · clear h
    induction raw with
    | nil => simp at hr
    | cons y r ih =>
      rw [List.map_cons, List.nodup_cons] at hn
      have hcons : ZgS (y :: r) Sv = (match Zbd BEq.beq y.name Sv with
        | some v => ⟨y.name, v⟩ :: ZgS r Sv
        | none => ZgS r Sv) := by
        unfold ZgS
        rw [List.filterMap_cons]
        cases Zbd BEq.beq y.name Sv <;> rfl
      rw [hcons]
      by_cases e : n = y.name
      · subst e
        cases hm : Zbd BEq.beq y.name Sv with
        | some v =>
          simp only [lkC]
          rw [if_pos (by simp)]
          exact hm.symm
        | none =>
          have : ∀ r : List Cus, y.name ∉ r.map Cus.name → lkC (ZgS r Sv) y.name = none := by
            intro r
            induction r with
            | nil => intro _; rfl
            | cons z r ih2 =>
              intro hz
              simp only [List.map_cons, List.mem_cons, not_or] at hz
              have hcons : ZgS (z :: r) Sv = (match Zbd BEq.beq z.name Sv with
                | some v => ⟨z.name, v⟩ :: ZgS r Sv
                | none => ZgS r Sv) := by
                unfold ZgS
                rw [List.filterMap_cons]
                cases Zbd BEq.beq z.name Sv <;> rfl
              rw [hcons]
              cases Zbd BEq.beq z.name Sv with
              | none => exact ih2 hz.2
              | some v =>
                simp only [lkC]
                rw [if_neg (by simpa using fun e => hz.1 e.symm)]
                exact ih2 hz.2
          simp only
          rw [this r hn.1]
          exact hm.symm
      · rw [List.map_cons, List.mem_cons] at hr
        have hr' := hr.resolve_left e
        cases hm : Zbd BEq.beq y.name Sv with
        | some v =>
          simp only [lkC]
          rw [if_neg (by simpa using fun h => e h.symm)]
          exact ih hn.2 hr'
        | none => exact ih hn.2 hr'
  · rw [h n hr]
    cases e : lkC (ZgS raw Sv) n with
    | none => rfl
    | some v =>
      exfalso
      have : ∀ c : List Cus, lkC c n = some v → n ∈ c.map Cus.name := by
        intro c
        induction c with
        | nil => intro h; cases h
        | cons y c ih =>
          intro h
          simp only [lkC] at h
          split at h
          · rename_i h2; rw [beq_iff_eq] at h2; simp [h2]
          · exact List.mem_cons_of_mem _ (ih h)
      have := this _ e
      obtain ⟨x, hx, rfl⟩ := List.mem_map.1 this
      unfold ZgS at hx
      obtain ⟨y, hy, hxy⟩ := List.mem_filterMap.1 hx
      cases hm : Zbd BEq.beq y.name Sv with
      | none => rw [hm] at hxy; cases hxy
      | some u => rw [hm] at hxy; cases hxy; exact hr (List.mem_map.2 ⟨y, hy, rfl⟩)
def Srt (c : List Cus) : Prop := c.Pairwise fun a b => Op.bytesLess a.name b.name = true
theorem YaX {a b : List UInt8} (h : Op.bytesLess a b = true) (k : Op.bytesLess b a = true) : False := by
  have := Zmo h k
  rw [ZhK] at this
  cases this
theorem ZsM {c : List Cus} {n : List UInt8} {v : List Val} (h : lkC c n = some v) : ∃ x ∈ c, x.name = n := by
  induction c with
  | nil => cases h
  | cons y c ih =>
    simp only [lkC] at h
    split at h
    · rename_i h2; rw [beq_iff_eq] at h2; exact ⟨y, List.mem_cons_self, h2⟩
    · obtain ⟨x, hx, e⟩ := ih h; exact ⟨x, List.mem_cons_of_mem _ hx, e⟩
theorem YbI : ∀ {c d : List Cus}, Srt c → Srt d → lkC c = lkC d → c = d
  | [], [], _, _, _ => rfl
  | [], y :: d, _, _, h => by
    have := congrFun h y.name
    simp [lkC] at this
  | x :: c, [], _, _, h => by
    have := congrFun h x.name
    simp [lkC] at this
  | x :: c, y :: d, hc, hd, h => by
    have hc' := List.pairwise_cons.1 hc
    have hd' := List.pairwise_cons.1 hd
    have e : x.name = y.name := by
      have h1 := congrFun h x.name
      have h2 := congrFun h y.name
      have l1 : lkC (x :: c) x.name = some x.val := by simp [lkC]
      have l2 : lkC (y :: d) y.name = some y.val := by simp [lkC]
      rw [l1] at h1
      rw [l2] at h2
      obtain ⟨z, hz, ez⟩ := ZsM h1.symm
      obtain ⟨w, hw, ew⟩ := ZsM h2
      rcases List.mem_cons.1 hz with rfl | hz
      · exact ez.symm
      · rcases List.mem_cons.1 hw with rfl | hw
        · exact ew
        · have a1 := hd'.1 z hz
          have a2 := hc'.1 w hw
          rw [ez] at a1
          rw [ew] at a2
          exact (YaX a1 a2).elim
    have h1 := congrFun h x.name
    have ev : x.val = y.val := by
      simp only [lkC, e] at h1
      simpa using h1
    have exy : x = y := by obtain ⟨a, b⟩ := x; obtain ⟨a', b'⟩ := y; cases e; cases ev; rfl
    subst exy
    congr 1
    refine YbI hc'.2 hd'.2 (funext fun n => ?_)
    have none_of : ∀ {c : List Cus}, (∀ z ∈ c, Op.bytesLess x.name z.name = true) → lkC c x.name = none := fun {c} hz => by
      cases e : lkC c x.name with
      | none => rfl
      | some v =>
        obtain ⟨z, hz2, ez⟩ := ZsM e
        have := hz z hz2
        rw [ez, ZhK] at this
        cases this
    by_cases hnx : n = x.name
    · rw [hnx, none_of hc'.1, none_of hd'.1]
    · have h2 := congrFun h n
      simp only [lkC] at h2
      have : (x.name == n) = false := by simpa using fun e => hnx e.symm
      rw [this] at h2
      simpa using h2
end Go.Tev.S1
