/- A certified evaluator for the walked functions, and their contracts, for the laws of the variables. -/
import Derived.Shelf.SlIter.Nil
import Derived.Shelf.SortM.Plain
import Derived.Shelf.SortM.SortNone
import Derived.Ground.GgzProg
import Derived.Ground.SlgmProg
import Derived.Test.YtnmlodkomklpfaaGreatProg
import Derived.Test.YtnmlodkomklpfaaGreatLJ
import Derived.Test.YtnmlodkomklpfaaGreatLK
import Derived.Test.YtnmlodkomklpfaaGreatLG
import Derived.Test.YtnmlodkomklpfaaGreatLH
set_option linter.unusedVariables false
set_option linter.unusedSimpArgs false
namespace Go.Proofs
open Go.Shelf
set_option maxRecDepth 100000 in
def Tryz.keys36_ren : Go.Shelf.Ren := ⟨fun | 7 => 38 | 10 => 59 | n => n, fun | 23 => 62 | 26 => 9 | 3 => 4 | 28 => 66 | 0 => 0 | 27 => 65 | 33 => 80 | 4 => 4 | n => n, fun | n => n⟩
set_option maxRecDepth 100000 in
theorem Tryz.keys36 : Go.Proofs.SlLaysZ.n7 Tryz.prog Tryz.keys36_ren := {
  mixed := by kernel_rfl
  f7 := ⟨Tryz.f38.name, by decide, Tryz.func38.trans (congrArg some (by kernel_rfl))⟩
  f10 := ⟨Tryz.f59.name, by decide, Tryz.func59.trans (congrArg some (by kernel_rfl))⟩
  t0 := Tryz.underlying0
  a0 := Tryz.isAgg0
  z0 := Tryz.sizeOf0
  v0 := Tryz.zeroValue0
  t4 := Tryz.underlying4
  a4 := Tryz.isAgg4
  z4 := Tryz.sizeOf4
  v4 := Tryz.zeroValue4
  t23 := Tryz.underlying62
  a23 := Tryz.isAgg62
  z23 := Tryz.sizeOf62
  v23 := Tryz.zeroValue62
  t26 := Tryz.underlying9
  a26 := Tryz.isAgg9
  z26 := Tryz.sizeOf9
  v26 := Tryz.zeroValue9
  t27 := Tryz.underlying65
  a27 := Tryz.isAgg65
  z27 := Tryz.sizeOf65
  v27 := Tryz.zeroValue65
  t28 := Tryz.underlying66
  a28 := Tryz.isAgg66
  z28 := Tryz.sizeOf66
  v28 := Tryz.zeroValue66
  t33 := Tryz.underlying80
  a33 := Tryz.isAgg80
  z33 := Tryz.sizeOf80
  v33 := Tryz.zeroValue80 }
set_option maxRecDepth 100000 in
def Tryz.sorted35_ren : Go.Shelf.Ren := ⟨fun | 6 => 37 | 8 => 57 | 9 => 58 | 11 => 69 | 13 => 71 | 12 => 70 | 23 => 87 | 24 => 88 | 14 => 78 | 15 => 79 | 16 => 80 | 17 => 81 | 18 => 82 | 19 => 83 | 20 => 84 | 21 => 85 | 22 => 86 | 25 => 102 | 26 => 103 | 27 => 104 | 28 => 105 | 29 => 106 | 30 => 107 | 31 => 116 | n => n, fun | 26 => 9 | 28 => 66 | 24 => 31 | 0 => 0 | 3 => 3 | 37 => 105 | 48 => 123 | 50 => 125 | 4 => 4 | 40 => 116 | 39 => 115 | 45 => 120 | 5 => 5 | 9 => 9 | 51 => 130 | 55 => 134 | 57 => 139 | 58 => 140 | 33 => 80 | n => n, fun | n => n⟩
set_option maxRecDepth 100000 in
theorem Tryz.sorted35 : Go.Proofs.SlLaysZ.n6 Tryz.prog Tryz.sorted35_ren := {
  mixed := by kernel_rfl
  f6 := ⟨Tryz.f37.name, by decide, Tryz.func37.trans (congrArg some (by kernel_rfl))⟩
  f8 := ⟨Tryz.f57.name, by decide, Tryz.func57.trans (congrArg some (by kernel_rfl))⟩
  f11 := ⟨Tryz.f69.name, by decide, Tryz.func69.trans (congrArg some (by kernel_rfl))⟩
  t0 := Tryz.underlying0
  a0 := Tryz.isAgg0
  z0 := Tryz.sizeOf0
  v0 := Tryz.zeroValue0
  t24 := Tryz.underlying31
  a24 := Tryz.isAgg31
  z24 := Tryz.sizeOf31
  v24 := Tryz.zeroValue31
  t26 := Tryz.underlying9
  a26 := Tryz.isAgg9
  z26 := Tryz.sizeOf9
  v26 := Tryz.zeroValue9
  t28 := Tryz.underlying66
  a28 := Tryz.isAgg66
  z28 := Tryz.sizeOf66
  v28 := Tryz.zeroValue66
  i26 := by kernel_rfl }
set_option maxRecDepth 100000 in
def Tryz.sort58_ren : Go.Shelf.Ren := ⟨fun | 6 => 58 | 8 => 71 | 9 => 70 | 19 => 87 | 20 => 88 | 21 => 78 | 22 => 79 | 23 => 80 | 24 => 81 | 25 => 82 | 26 => 83 | 27 => 84 | 28 => 85 | 29 => 86 | 36 => 102 | 31 => 103 | 32 => 104 | 37 => 105 | 38 => 106 | 39 => 107 | 41 => 116 | n => n, fun | 27 => 31 | 29 => 9 | 3 => 3 | 32 => 105 | 26 => 31 | 0 => 0 | 44 => 123 | 46 => 125 | 4 => 4 | 36 => 116 | 35 => 115 | 41 => 120 | 5 => 5 | 9 => 9 | 53 => 130 | 57 => 134 | 63 => 139 | 64 => 140 | n => n, fun | n => n⟩
set_option maxRecDepth 100000 in
theorem Tryz.sort58 : Go.Proofs.SlLaysM.n6 Tryz.prog Tryz.sort58_ren := {
  mixed := by kernel_rfl
  f6 := ⟨Tryz.f58.name, by decide, Tryz.func58.trans (congrArg some (by kernel_rfl))⟩
  f8 := Tryz.func71.trans (congrArg some (by kernel_rfl))
  f9 := ⟨Tryz.f70.name, by decide, Tryz.func70.trans (congrArg some (by kernel_rfl))⟩
  f19 := Tryz.func87.trans (congrArg some (by kernel_rfl))
  f20 := Tryz.func88.trans (congrArg some (by kernel_rfl))
  f21 := ⟨Tryz.f78.name, by decide, Tryz.func78.trans (congrArg some (by kernel_rfl))⟩
  f22 := ⟨Tryz.f79.name, by decide, Tryz.func79.trans (congrArg some (by kernel_rfl))⟩
  f23 := ⟨Tryz.f80.name, by decide, Tryz.func80.trans (congrArg some (by kernel_rfl))⟩
  f24 := ⟨Tryz.f81.name, by decide, Tryz.func81.trans (congrArg some (by kernel_rfl))⟩
  f25 := ⟨Tryz.f82.name, by decide, Tryz.func82.trans (congrArg some (by kernel_rfl))⟩
  f26 := ⟨Tryz.f83.name, by decide, Tryz.func83.trans (congrArg some (by kernel_rfl))⟩
  f27 := ⟨Tryz.f84.name, by decide, Tryz.func84.trans (congrArg some (by kernel_rfl))⟩
  f28 := ⟨Tryz.f85.name, by decide, Tryz.func85.trans (congrArg some (by kernel_rfl))⟩
  f29 := ⟨Tryz.f86.name, by decide, Tryz.func86.trans (congrArg some (by kernel_rfl))⟩
  f31 := Tryz.func103.trans (congrArg some (by kernel_rfl))
  f32 := Tryz.func104.trans (congrArg some (by kernel_rfl))
  f36 := ⟨Tryz.f102.name, by decide, Tryz.func102.trans (congrArg some (by kernel_rfl))⟩
  f37 := ⟨Tryz.f105.name, by decide, Tryz.func105.trans (congrArg some (by kernel_rfl))⟩
  f38 := ⟨Tryz.f106.name, by decide, Tryz.func106.trans (congrArg some (by kernel_rfl))⟩
  f39 := ⟨Tryz.f107.name, by decide, Tryz.func107.trans (congrArg some (by kernel_rfl))⟩
  f41 := ⟨Tryz.f116.name, by decide, Tryz.func116.trans (congrArg some (by kernel_rfl))⟩
  t0 := Tryz.underlying0
  a0 := Tryz.isAgg0
  z0 := Tryz.sizeOf0
  v0 := Tryz.zeroValue0
  t3 := Tryz.underlying3
  a3 := Tryz.isAgg3
  z3 := Tryz.sizeOf3
  v3 := Tryz.zeroValue3
  t4 := Tryz.underlying4
  a4 := Tryz.isAgg4
  z4 := Tryz.sizeOf4
  v4 := Tryz.zeroValue4
  t5 := Tryz.underlying5
  a5 := Tryz.isAgg5
  z5 := Tryz.sizeOf5
  v5 := Tryz.zeroValue5
  t9 := Tryz.underlying9
  a9 := Tryz.isAgg9
  z9 := Tryz.sizeOf9
  v9 := Tryz.zeroValue9
  t26 := Tryz.underlying31
  a26 := Tryz.isAgg31
  z26 := Tryz.sizeOf31
  v26 := Tryz.zeroValue31
  t27 := Tryz.underlying31
  a27 := Tryz.isAgg31
  z27 := Tryz.sizeOf31
  v27 := Tryz.zeroValue31
  t29 := Tryz.underlying9
  a29 := Tryz.isAgg9
  z29 := Tryz.sizeOf9
  v29 := Tryz.zeroValue9
  t32 := Tryz.underlying105
  a32 := Tryz.isAgg105
  z32 := Tryz.sizeOf105
  v32 := Tryz.zeroValue105
  t35 := Tryz.underlying115
  a35 := Tryz.isAgg115
  z35 := Tryz.sizeOf115
  v35 := Tryz.zeroValue115
  t36 := Tryz.underlying116
  a36 := Tryz.isAgg116
  z36 := Tryz.sizeOf116
  v36 := Tryz.zeroValue116
  t41 := Tryz.underlying120
  a41 := Tryz.isAgg120
  z41 := Tryz.sizeOf120
  v41 := Tryz.zeroValue120
  t44 := Tryz.underlying123
  a44 := Tryz.isAgg123
  z44 := Tryz.sizeOf123
  v44 := Tryz.zeroValue123
  t46 := Tryz.underlying125
  a46 := Tryz.isAgg125
  z46 := Tryz.sizeOf125
  v46 := Tryz.zeroValue125
  t53 := Tryz.underlying130
  a53 := Tryz.isAgg130
  z53 := Tryz.sizeOf130
  v53 := Tryz.zeroValue130
  t57 := Tryz.underlying134
  a57 := Tryz.isAgg134
  z57 := Tryz.sizeOf134
  v57 := Tryz.zeroValue134
  t63 := Tryz.underlying139
  a63 := Tryz.isAgg139
  z63 := Tryz.sizeOf139
  v63 := Tryz.zeroValue139
  t64 := Tryz.underlying140
  a64 := Tryz.isAgg140
  z64 := Tryz.sizeOf140
  v64 := Tryz.zeroValue140 }
set_option maxRecDepth 100000 in
theorem Tryz.sorts35 (m : Nat) : AnyZ.SortsIn Tryz.prog Tryz.sorted35_ren Fence.wide m :=
  ⟨fun blk off cap ss W hH hblk hsz => callsIn_wide.2 (AnyM.slices_Sort_string Tryz.sort58 blk off cap ss W hH hblk hsz),
   fun p cap W => callsIn_wide.2 (AnyM.slices_Sort_string_none Tryz.sort58 p cap W)⟩
end Go.Proofs
namespace Go.Abs
open Go.Proofs Go.RowKit Go.Maps Go.Sort Go.Shelf
set_option maxRecDepth 100000 in
set_option maxHeartbeats 1000000 in
theorem ZpR : Zok Tryz.prog 37 59 9 := by
  intro bm b nn D0 R w hbm hcell hown hmax hbytes
  have hseq : SeqGives Fence.wide 2 Tryz.prog 59 #[.pointer (some ⟨bm, 0, none⟩)] encStr (fun ss => ss.Perm (strKeys D0)) (Maps.size D0) w :=
    AnyZ.keys_gives (ρ := Tryz.keys36_ren) { Tryz.keys36 with } Fence.wide _ trivial rfl (by omega) bm b nn D0 w hbm hcell hown
  exact callsIn_wide.1 (AnyZ.sorted_in Tryz.sorted35 Fence.wide 5 trivial trivial trivial trivial rfl (by omega) (Tryz.sorts35 _) (enters_of Tryz.func58 (by kernel_rfl) rfl) 59 #[.pointer (some ⟨bm, 0, none⟩)] trivial (enters_of Tryz.func59 (by kernel_rfl) rfl) _ _ hmax hbytes _ hseq)
set_option maxRecDepth 100000 in
theorem Ycn {args : List AV} {h : List AObj} {r : AV} {h' : List AObj} (he : ZvM 59 args h = some (r, h')) : Has Tryz.prog 37 args h r h' :=
  ZzW (vt := 4) ⟨_, Tryz.func37, by kernel_rfl⟩ Tryz.underlying9 Tryz.underlying4 ZpR he
end Go.Abs
namespace Go.Abs
open Go.RowKit Go.ChangeShapes Go.WideShapes Go.ChangeAt
def Stays (W W' : World) : Prop := W'.os = W.os ∧ W'.output = W.output ∧ W.heap.size ≤ W'.heap.size ∧ ∀ b, b < W.heap.size → W'.heap[b]? = W.heap[b]?
theorem Stays.kept {W W' : World} (h : Stays W W') (may : MemPlace → Prop) : W.keptBut W' may := by
  refine ⟨h.1, h.2.1, fun i hi => ?_⟩
  rw [h.2.2.2 i hi]
  cases hx : W.heap[i]? with
  | none => exact rfl
  | some o => cases o <;> first | exact ⟨rfl, rfl, rfl, fun _ _ => rfl⟩ | exact .inr ⟨rfl, rfl⟩ | exact rfl
theorem Stays.frozen {W W' : World} (h : Stays W W') {a : Addr} (ha : a.block < W.heap.size) : W'.frozen? a = W.frozen? a := by
  simp only [World.frozen?, h.2.2.2 _ ha]
theorem Stays.same {W W' : World} (h : Stays W W') {p : MemPlace} (hp : p.block < W.heap.size) : W.sameAt W' p := by
  have h2 : ∀ W2 : World, W2 = { W' with tape := W.tape } → W.sameAt W2 p := fun W2 e => by
    have hb : Below W.heap.size W W2 := by subst e; exact ⟨h.1, rfl, h.2.1, h.2.2.1, h.2.2.2⟩
    exact hb.same hp
  have := h2 _ rfl
  exact this
theorem ZoM {H : Type} {enc : TypeId × Value → H} {P : Program} {f : Func} {s : ChangeSpec} {apart fresh handsOn again : Bool} {W W' : World} {args : Array Value} {v : Value} {ds gs : List (DataW H)} {before pa pv : List MemPlace}
    (hW : DataW.Whole enc P f.params.toList s.vars apart W args.toList ds gs before)
    (hres : ∀ (b : Nat) (sp : Nat → Bool) (hd : Bool), DataW.TrodAll enc P W' b sp hd f.resultTypes.toList (v.resultList f.resultTypes.size) (s.fn H (ds ++ gs)).results [])
    (hargs : ∀ sp : Nat → Bool, (∀ p ∈ before, sp p.block = true) → DataW.TrodAll enc P W' 0 sp true f.params.toList args.toList (s.fn H (ds ++ gs)).args pa)
    (hvars : ∀ sp : Nat → Bool, (∀ p ∈ before, sp p.block = true) → DataW.TrodVars enc P W' sp s.vars (s.fn H (ds ++ gs)).vars pv)
    (hps : before = pa ++ pv) (hS : Stays W W')
    (hok : ∀ (j : Nat) (t : TypeId) (r : Value), f.resultTypes[j]? = some t → (v.resultList f.resultTypes.size)[j]? = some r → Value.okWide P W' .any 0 t r) :
    s.post enc P f apart fresh handsOn again W args v W' := by
  have hold : ∀ p ∈ before, (fun b => decide (b < W.heap.size)) p.block = true := fun p hp => by simpa using hW.lt p hp
  have hlt : ∀ p ∈ before, p.block < W.heap.size := fun p hp => hW.lt p hp
  refine ⟨ds, gs, before, [], pa, pv, hW, hres _ _ _, hargs _ hold, hvars _ hold, World.keptBut_mono (fun p hp => ⟨hp, ?_⟩) (hS.kept (· ∈ before)), fun _ => ?_⟩
  · rw [hps, List.mem_append] at hp
    exact Or.inr hp
  · obtain ⟨_, _, _, _, _, hz, hn⟩ := hW
    refine ⟨hok, _, _, ([] ++ pa) ++ pv, ⟨[] ++ pa, pv, trodAll_append (hargs _ (fun _ _ => rfl)) (hres _ _ _), hvars _ (fun _ _ => rfl), rfl, ?_, ?_⟩, ?_⟩
    · intro b off hp
      have hm : MemPlace.cell b off ∈ before := by rw [hps]; simpa using hp
      rw [hS.frozen (a := ⟨b, off, none⟩) (hlt _ hm)]
      exact hz b off hm
    · intro ha
      have := hn ha
      rw [hps] at this
      simpa using this
    · intro p hp _
      rw [hps]
      simpa using hp
theorem Yd6 (P : Program) (W : World) : HRel P W Zh7 [] :=
  ⟨fun id o h => (by simp at h), fun b b' x f f' h => (by cases h), fun b x h => (by cases h), fun b id f h => (by cases h)⟩
theorem Zwb {P : Program} {f : FuncId} {ds : List DV} {b : Bool} {h' : List AObj} (h : Has P f (ds.map .d) [] (.d (.bool b)) h') {W : World} {vs : Array Value} (hl : vs.size = ds.length) (hr : ∀ (i : Nat) v d, vs[i]? = some v → ds[i]? = some d → Rep W Zh7 v d) :
    Calls P f vs W fun e W' => e = .returned (.bool b) ∧ Stays W W' := by
  refine (h.2 W Zh7 vs (Yd6 P W) (fun b x f hx => by cases hx) (by simpa using hl) fun i v x hv hx => ?_).mono ?_
  · rw [List.getElem?_map] at hx
    cases hd : ds[i]? with
    | none => rw [hd] at hx; cases hx
    | some d =>
      rw [hd] at hx
      cases hx
      exact .d _ _ (hr i v d hv hd)
  · rintro e w' ⟨v, own', rfl, _, _, h1, h2, _⟩
    cases h1 with
    | d _ _ h3 =>
      cases h3
      exact ⟨rfl, h2.os, h2.output, h2.size, fun b hb => (h2.blk b hb (.inl rfl)).1⟩
end Go.Abs
namespace Go.Tev.S1
open Go.Abs Go.Proofs Go.RowKit
noncomputable def K0 : Zaa := fun f args h => bif Nat.beq f 37 then ZvM 59 args h else none
theorem Ydc : Zbq Tryz.prog K0 := by
  intro f args h r h' he
  unfold K0 at he
  cases hb : Nat.beq f 37 with
  | false => rw [hb] at he; cases he
  | true =>
    rw [hb] at he
    have : f = 37 := Nat.eq_of_beq_eq_true hb
    subst this
    exact Ycn he
theorem Zpp : Zcp K0 := by
  intro f args h hf
  unfold K0
  have : Nat.beq f 37 = false := beq_ne.2 fun e => hf (by subst e; decide)
  rw [this]; rfl
theorem Ycp : Zmj K0 := fun args h r he => he
theorem Zai : Zbj C.P := by
  have h : (Tryz.prog.funcs.all fun fn => !(fn.name == "runtime.NumGoroutine")) = true := by kernel_rfl
  intro f fn hf
  have := (Array.all_eq_true_iff_forall_mem.1 h) fn (Array.mem_of_getElem? hf)
  simpa using this
theorem mixed : C.P.follows .mixedOrders = true := by kernel_rfl
end Go.Tev.S1
namespace Go.Abs
theorem ZaT {α : Type} {l m : List (Nat × α)} {k : Nat} {v : α} (h : Zad l k = some v) : Zad (l ++ m) k = some v := by
  induction l with
  | nil => simp [Zad] at h
  | cons p l ih =>
    obtain ⟨i, x⟩ := p
    simp only [List.cons_append, Zad] at h ⊢
    cases hb : Nat.beq i k with
    | true => rw [hb] at h; exact h
    | false => rw [hb] at h; exact ih h
end Go.Abs
namespace Go.Tev.S1
open Go.Abs Go.Proofs
def Edge (G : Nd) (a b : List UInt8) : Prop := ∃ u, Za5 BEq.beq a G = some u ∧ b ∈ ZbK u ∧ (Za5 BEq.beq b G).isSome = true
inductive Path (G : Nd) : List UInt8 → List UInt8 → Prop where
  | one {a b : List UInt8} (h : Edge G a b) : Path G a b
  | step {a b c : List UInt8} (h : Edge G a b) (t : Path G b c) : Path G a c
structure WalkPost (G : Nd) (S : List (List UInt8)) (name : List UInt8) (S' : List (List UInt8)) : Prop where
  nd : S'.Nodup
  sub : ∀ m ∈ S, m ∈ S'
  ing : ∀ m ∈ S', (Za5 BEq.beq m G).isSome = true
  next : ∀ m, Edge G name m → m ∈ S'
  new : ∀ m ∈ S', m ∉ S → Path G name m ∧ ∀ k, Edge G m k → k ∈ S'
theorem Zjm {β : Type} {a : List UInt8} : ∀ {G : List (List UInt8 × β)}, (Za5 BEq.beq a G).isSome = true → a ∈ G.map Prod.fst
  | [], h => by simp [Za5] at h
  | (k, u) :: r, h => by
    simp only [Za5] at h
    cases e : (a == k) with
    | true => rw [beq_iff_eq] at e; subst e; exact List.mem_cons_self
    | false => rw [e] at h; exact List.mem_cons_of_mem _ (Zjm h)
theorem Ybv {G : Nd} {S : List (List UInt8)} (hn : S.Nodup) (h : ∀ m ∈ S, (Za5 BEq.beq m G).isSome = true) : S.length ≤ G.length := by
  have := hn.length_le_of_subset (l₂ := G.map Prod.fst) fun m hm => Zjm (h m hm)
  simpa using this
def R68 (G : Nd) (out : List (DV × AV)) (S : List (List UInt8)) (name : List UInt8) (r : AV) (h' : List AObj) : Prop := r = .d (.tup []) ∧ ∃ S', WalkPost G S name S' ∧ h' = H68 G out S'
structure Mid (G : Nd) (S : List (List UInt8)) (name : List UInt8) (u : Bm) (vis : List Nat) (S' : List (List UInt8)) : Prop where
  nd : S'.Nodup
  sub : ∀ m ∈ S, m ∈ S'
  ing : ∀ m ∈ S', (Za5 BEq.beq m G).isSome = true
  vis : ∀ j ∈ vis, ∀ nm b, u[j]? = some (nm, b) → (Za5 BEq.beq nm G).isSome = true → nm ∈ S'
  new : ∀ m ∈ S', m ∉ S → Path G name m ∧ ∀ k, Edge G m k → k ∈ S'
theorem YbD : okC (C.ann 73) (.region 3 (Go.Abs.ops YaH) false) = true := by kernel_rfl
theorem Ybq : okC (C.ann 73) (.region 4 (Go.Abs.ops Yaw) false) = true := by kernel_rfl
theorem o68_5 : (opZ (opsL ZoU)).guard = none ∧ (opZ (opsL ZoU)).dst = some 28 ∧ (opZ (opsL ZoU)).op = .call { callee := .value (.tmp 26), args := #[.tmp 27], argTypes := #[9] } := by
  refine ⟨?_, ?_, ?_⟩ <;> kernel_rfl
theorem ZxH : ∀ (n : Nat) (G : Nd) (out : List (DV × AV)) (S : List (List UInt8)) (name : List UInt8), S.Nodup → (∀ m ∈ S, (Za5 BEq.beq m G).isSome = true) → (Za5 BEq.beq name G).isSome = true → G.length - S.length < n →
    HasN Tryz.prog 73 (YcY name) (H68 G out S) (R68 G out S name) := by
  intro n
  induction n with
  | zero => intro G out S name _ _ _ h; omega
  | succ n ih =>
    intro G out S name hnd hing hname hlt
    obtain ⟨u, hu⟩ := Option.isSome_iff_exists.1 hname
    have hK : Zbq C.P (fun _ _ _ => none : Zaa) := fun f args h r h' he => by cases he
    refine Zf6 (C := C) (f := 73) (fn := Tryz.f73) Tryz.func73 Ycm (by kernel_rfl) ?_
    refine ZeQ (call := fun _ _ _ => none) Zai hK Yd5 (YbM G out S name u hu) o68_0.2.1 o68_0.1 o68_0.2.2 (by kernel_rfl) (by kernel_rfl) (show opA _ (.tmp 8) = some (.d (.fmap (ZfQ u))) from rfl) Yef fun p => ?_
    have he : ZhO (ZhC 0 (YcY name)) 9 (SV.val (.raw p)) = e68 name p := rfl
    show Ydk C (C.ann 73) 9 p (ZfQ u) _ ⟨ZhO (ZhC 0 (YcY name)) 9 (.val (.raw p)), [], H68 G out S⟩ _
    rw [he]
    refine Zlr (call := fun _ _ _ => none) Zai hK Yeg o68_1.2.1 o68_1.1 o68_1.2.2 (by kernel_rfl) (by kernel_rfl) Yeh o68_2.2.1 o68_2.1 o68_2.2.2 (by kernel_rfl) (by kernel_rfl)
      (fun vis s => ∃ S', s = ⟨e68 name p, [], H68 G out S'⟩ ∧ Mid G S name u vis S') ⟨S, rfl, hnd, fun m h => h, hing, fun j h => by simp at h, fun m h h2 => absurd h h2⟩ (fun vis s ⟨S', hs, _⟩ => by subst hs; exact ⟨rfl, rfl⟩) ?_ ?_
    ·
      rintro vis s ⟨S', rfl, hM⟩ hall
      refine ⟨_, Zxy name p _ false [], rfl, ?_⟩
      refine ⟨[], rfl, rfl, S', ⟨hM.nd, hM.sub, hM.ing, fun m hm => ?_, hM.new⟩, rfl⟩
      obtain ⟨u', h1, h2, h3⟩ := hm
      rw [hu] at h1
      cases h1
      obtain ⟨q, hq, rfl⟩ := List.mem_map.1 h2
      obtain ⟨j, hj, rfl⟩ := List.mem_iff_getElem.1 hq
      exact hM.vis j (hall j (by simp [ZfQ, hj])) u[j].1 u[j].2 (List.getElem?_eq_getElem hj) h3
    · rintro vis s j k v ⟨S', rfl, hM⟩ hj hjv
      rw [ZfQ, List.getElem?_map] at hj
      cases huj : u[j]? with
      | none => rw [huj] at hj; cases hj
      | some q =>
        obtain ⟨nx, bb⟩ := q
        rw [huj] at hj
        cases hj
        refine ⟨_, _, Zxy name p _ true [.str nx, .bool bb], rfl, rfl, Ybz name p _ (.str nx) (.bool bb), ?_⟩
        have hsub : ∀ (more : List (Nat × SV)) (S2 : List (List UInt8)), Sub ⟨e68 name p, [], H68 G out S2⟩ ((⟨e68 name p ++ more, [], H68 G out S2⟩ : St).trim (e68 name p ++ [(11, .val (.d (.bool true)))])) := by
          intro more S2
          refine ⟨fun kk vv hv => ?_, rfl, rfl⟩
          simp only [St.trim]
          rw [alook_trimE _ _ _ (by rw [ZaT hv]; rfl)]
          exact ZaT hv
        refine ZcD (Q1 := fun o => o = .norm ⟨e68 name p ++ [(11, .val (.d (.bool true))), (5, .val (.d (.str nx))), (23, .val (.d (.bool ((Za5 BEq.beq nx G).isSome && !decide (nx ∈ S')))))], [], H68 G out S'⟩) (ZcI (call := fun _ _ _ => none) Zai mixed hK YbD (Yb7 G out S' name nx p) rfl) ?_ (fun o h1 h2 => absurd h1 (h2 _))
        rintro s hs
        cases hs
        cases hc : ((Za5 BEq.beq nx G).isSome && !decide (nx ∈ S')) with
        | false =>
          refine Zhn (b := false) rfl (Zp1 ?_)
          simp only [Zba]
          refine ⟨_, ⟨S', rfl, hM.nd, hM.sub, hM.ing, fun i hi nm b hb hg => ?_, hM.new⟩, hsub _ S'⟩
          rcases List.mem_cons.1 hi with rfl | hi
          · rw [huj] at hb
            cases hb
            rw [hg] at hc
            simpa using hc
          · exact hM.vis i hi nm b hb hg
        | true =>
          rw [Bool.and_eq_true, Bool.not_eq_true', decide_eq_false_iff_not] at hc
          obtain ⟨hg, hns⟩ := hc
          have hnd2 : (S' ++ [nx]).Nodup := by
            rw [List.nodup_append]
            exact ⟨hM.nd, by simp, fun a ha b hb => by rw [List.mem_singleton] at hb; subst hb; exact fun e => hns (e ▸ ha)⟩
          have hing2 : ∀ m ∈ S' ++ [nx], (Za5 BEq.beq m G).isSome = true := fun m hm => by
            rcases List.mem_append.1 hm with hm | hm
            · exact hM.ing m hm
            · rw [List.mem_singleton] at hm; subst hm; exact hg
          have hedge : Edge G name nx := ⟨u, hu, List.mem_map.2 ⟨_, List.mem_of_getElem? huj, rfl⟩, hg⟩
          refine Zhn (b := true) rfl ?_
          simp only [cond_true]
          refine ZcD (Q1 := fun o => o = .norm ⟨e68 name p ++ [(11, .val (.d (.bool true))), (5, .val (.d (.str nx))), (23, .val (.d (.bool true)))], [], H68 G out (S' ++ [nx])⟩) (ZcI (call := fun _ _ _ => none) Zai mixed hK Ybq (YcB G out S' hns _ rfl rfl) rfl) ?_ (fun o h1 h2 => absurd h1 (h2 _))
          rintro s hs
          cases hs
          have hle : S.length ≤ S'.length := hnd.length_le_of_subset fun m hm => hM.sub m hm
          have hle2 := Ybv hnd2 hing2
          simp only [List.length_append, List.length_cons, List.length_nil] at hle2
          have hrec := ih G out (S' ++ [nx]) nx hnd2 hing2 hg (by simp only [List.length_append, List.length_cons, List.length_nil]; omega)
          refine ZgO (call := fun _ _ _ => none) Zai hK Yea (YbE G out (S' ++ [nx]) nx _ rfl rfl) o68_5.1
            (Zg9 Zai o68_5.2.2 rfl (fv := .fn 73 [.ptr 1 0, .ptr 4 0, .ptr 5 0]) (vs := [.d (.str nx)]) (caps := [.ptr 1 0, .ptr 4 0, .ptr 5 0]) rfl rfl rfl hrec (fun r h' _ => by
              rw [o68_5.2.1]
              exact ⟨_, rfl⟩)) ?_
          rintro s ⟨r, h', ⟨rfl, S2, hP, rfl⟩, hput⟩
          rw [o68_5.2.1] at hput
          cases hput
          simp only [Zba]
          have hnew : nx ∈ S2 := hP.sub nx (by simp)
          refine ⟨_, ⟨S2, rfl, hP.nd, fun m hm => hP.sub m (List.mem_append_left _ (hM.sub m hm)), hP.ing, fun i hi nm b hb hg2 => ?_, fun m hm hmS => ?_⟩, hsub _ S2⟩
          · rcases List.mem_cons.1 hi with rfl | hi
            · rw [huj] at hb
              cases hb
              exact hnew
            · exact hP.sub nm (List.mem_append_left _ (hM.vis i hi nm b hb hg2))
          · by_cases h1 : m ∈ S'
            · obtain ⟨g1, g2⟩ := hM.new m h1 hmS
              exact ⟨g1, fun k hk => hP.sub k (List.mem_append_left _ (g2 k hk))⟩
            · by_cases h2 : m = nx
              · subst h2
                exact ⟨.one hedge, fun k hk => hP.next k hk⟩
              · obtain ⟨g1, g2⟩ := hP.new m hm (by simp [h1, h2])
                exact ⟨.step hedge g1, g2⟩
end Go.Tev.S1
namespace Go.Abs
section
variable {C : Ctx} {call : Zaa} {fa : FA} {st s : St} {x y : Code} {Q : Out → Prop}
theorem ZaN (hn : Zbj C.P) (hm : C.P.follows .mixedOrders = true) (hK : Zbq C.P call) {n : Nat} (hok : okC fa x = true) (h : evQ C call fa n x st = some (.norm s)) (h2 : Tri C fa y s Q) : Tri C fa (.seq x y) st Q :=
  ZcD (Q1 := fun o => o = .norm s) (ZcI hn hm hK hok h rfl) (fun s' hs => by cases hs; exact h2) (fun o h1 h2 => absurd h1 (h2 _))
end
end Go.Abs
namespace Go.Tev.S1
open Go.Abs Go.Proofs
noncomputable abbrev B44 : Code := Zac Tryz.f62
noncomputable abbrev X44 : Code := sq1 (sq2 (sq2 B44))
noncomputable abbrev Y44 : Code := sq2 (sq2 (sq2 B44))
noncomputable abbrev Z44 : Code := sq1 (sq2 Y44)
noncomputable abbrev L44 : Code := inn (inn (sq2 X44))
noncomputable abbrev M44 : Code := inn (inn (sq2 Z44))
noncomputable abbrev K44 : Code := inn (sq1 (sq2 (sq2 M44)))
noncomputable abbrev Yag : Code := sq1 B44
noncomputable abbrev Zzb : Code := sq1 (sq2 B44)
noncomputable abbrev Yac : Code := sq1 X44
noncomputable abbrev Zz0 : Code := sq1 Y44
noncomputable abbrev Yaf : Code := sq1 Z44
noncomputable abbrev ZqP : Code := sq1 M44
noncomputable abbrev Zqk : Code := sq1 K44
noncomputable abbrev ZqI : Code := sq1 (sq2 K44)
noncomputable abbrev Zrv : Code := sq1 (sq2 (sq2 K44))
noncomputable abbrev Zqx : Code := sq1 (sq2 (sq2 (sq2 K44)))
noncomputable abbrev ZhX : Code := sq1 (sq2 (sq2 (sq2 (sq2 K44))))
noncomputable abbrev ZrF : Code := sq2 (sq2 (sq2 (sq2 (sq2 K44))))
noncomputable abbrev Zrq : Code := sq2 (sq2 (sq2 M44))
noncomputable abbrev Zuk : Code := sq1 (sq2 (sq2 Y44))
theorem YcK : Tryz.f62.body = some (.seq Yag (.seq Zzb (.seq (.seq Yac (.block 0 (.loop L44))) (.seq Zz0 (.seq (.seq Yaf (.block 2 (.loop (.seq ZqP (.seq (.cond (.tmp 34) .skip (.exit 2)) (.seq (.block 3 (.seq Zqk (.seq ZqI (.seq Zrv (.seq Zqx (.seq (.region 15 (Go.Abs.ops ZhX) false) ZrF)))))) Zrq)))))) (.seq Zuk .ret)))))) := by kernel_rfl
def Za8 (raw : List Cus) : Nd := raw.map fun x => (x.name, Zen [] x.val)
def d44 (raw : List Cus) : DV := .slc (raw.map Cus.enc)
def e44 (raw : List Cus) (i : Nat) : List (Nat × SV) := [(0, .val (.d (d44 raw))), (2, .val (.d .nilm)), (3, .val (.ptr 1 0)), (12, .val (.d (d44 raw))), (13, .val (.d (.int .i64 raw.length))), (14, .val (.d (.int .i64 i)))]
def h44 (G : Nd) : List AObj := [.map (ZpJ G), .var [.mp 0]]
theorem Zxu : C.elemSize 23 = some 2 := by kernel_rfl
theorem zz98 : C.zero 107 = some .nilm := by kernel_rfl
theorem zz61 : C.zero 62 = some .nilm := by kernel_rfl
theorem zz99 : C.zero 108 = some .nilf := by kernel_rfl
theorem sz98 : C.size 107 = some 1 := by kernel_rfl
theorem sz61 : C.size 62 = some 1 := by kernel_rfl
theorem sz99 : C.size 108 = some 1 := by kernel_rfl
theorem YcV : C.size 39 = some 2 := by kernel_rfl
theorem YcW : C.zero 39 = some (.agg [.str [], .slc []]) := by kernel_rfl
theorem Yc1 : C.isAgg 39 = some true := by kernel_rfl
theorem ag9 : C.isAgg 9 = some false := by kernel_rfl
theorem Ya4 : C.isAgg 22 = some false := by kernel_rfl
theorem Zjy : C.field 39 0 = some ⟨ "Name", 9, 0, false, "", "", 0⟩ := by kernel_rfl
theorem Zq2 : C.field 39 1 = some ⟨ "Value", 22, 1, false, "", "", 16⟩ := by kernel_rfl
theorem hz9 : C.hasSize 9 = true := by kernel_rfl
theorem Ya5 : C.hasSize 22 = true := by kernel_rfl
section
attribute [local simp] List.getElem?_cons_zero Option.bind_some Zyu ZeX Zdi Zbw ZhR Zfo Zed ZnG Zh0 Zfr ZhY ZhT ZnD ZhJ ZcA ZbM Zmo ZaQ Zbb ZnA ZaZ ZcK Zep ZeF Zcl has opx opd opA opD XV.flat XV.copy oD oA Zad ins Zob ZhE St.put St.putOwn St.lose St.loseEnv unal Zld Zlc Zso dUn ZhO ZaC ZcG Zbu Zbo ZaX Zc6 ZbQ ZcE Zju ZbN AV.cells AV.cellOk AV.single DV.cellOk Zyr Zyp Zyw DV.cells ZaP ZfX ZaO ZcC ZaM Za4 Zlm Za0 ZeI mapO AV.toD ZaF Zcc Zfp optD ZcB Zbh ZgG Zaz Zch Zb6 ZaI Zer ZdM ZbJ St.trim Out.st
theorem Ycy {call : Zaa} (raw : List Cus) : evQ C call (ann 62) 0 Yag ⟨ZhC 0 [.d (d44 raw)], [], []⟩ = some (.norm ⟨[(0, .val (.d (d44 raw))), (2, .val (.d .nilm))], [], []⟩) := by
  unfold Yag B44 Zac Tryz.f62
  simp only [Option.getD_some, sq1, ZhC]
  simp [-getElem?_pos, A62, Zau]
theorem YcI {call : Zaa} (raw : List Cus) : evQ C call (ann 62) 0 Zzb ⟨[(0, .val (.d (d44 raw))), (2, .val (.d .nilm))], [], []⟩ = some (.norm ⟨[(0, .val (.d (d44 raw))), (2, .val (.d .nilm)), (3, .val (.ptr 1 0))], [], h44 []⟩) := by
  unfold Zzb B44 Zac Tryz.f62 h44 ZpJ
  simp only [Option.getD_some, sq1, sq2]
  simp [-getElem?_pos, A62, Zau, m98, zz98, sz98, List.getElem?_append]
theorem Ycv {call : Zaa} (raw : List Cus) : evQ C call (ann 62) 0 Yac ⟨[(0, .val (.d (d44 raw))), (2, .val (.d .nilm)), (3, .val (.ptr 1 0))], [], h44 []⟩ = some (.norm ⟨e44 raw 0, [], h44 []⟩) := by
  unfold Yac X44 B44 Zac Tryz.f62 h44 e44 d44
  simp only [Option.getD_some, sq1, sq2]
  simp [-getElem?_pos, A62, Zau, Zxu]
end
theorem ZrW (a : List UInt8) (v : AV) : ∀ G : Nd, Za5 BEq.beq a G = none → Zsf (.str a) v (ZpJ G) = some (ZpJ G ++ [(.str a, v)])
  | [], _ => rfl
  | (k, u) :: r, h => by
    simp only [Za5] at h
    cases e : (a == k) with
    | true => rw [e] at h; cases h
    | false =>
      rw [e] at h
      have ih := ZrW a v r h
      simp only [ZpJ, List.map_cons, List.cons_append, Zsf, ZdQ, e] at ih ⊢
      simp only [ih, Option.map_some]
theorem ZrV (a : List UInt8) (v : AV) : ∀ G : Nd, Za5 BEq.beq a G = none → Zga (.str a) (ZpJ G ++ [(.str a, v)]) = some (some v)
  | [], _ => by simp [ZpJ, Zga, ZdQ]
  | (k, u) :: r, h => by
    simp only [Za5] at h
    cases e : (a == k) with
    | true => rw [e] at h; cases h
    | false =>
      rw [e] at h
      have ih := ZrV a v r h
      simp only [ZpJ, List.map_cons, List.cons_append, Zga, ZdQ, e] at ih ⊢
      exact ih
theorem ZnV {raw : List Cus} {i : Nat} {x : Cus} (h : raw[i]? = some x) : (raw.map Cus.enc)[i]? = some (.agg [.str x.name, .slc (x.val.map Val.enc)]) := by rw [List.getElem?_map, h]; rfl
theorem Yc2 {raw : List Cus} {i : Nat} (h : i < raw.length) : idx (i : Int) raw.length = some i := Yc3 h
section
attribute [local simp] List.getElem?_cons_zero Option.bind_some Zyu ZeX Zdi Zbw ZhR Zfo Zed ZnG Zh0 Zfr ZhY ZhT ZnD ZhJ ZcA ZbM Zmo ZaQ Zbb ZnA ZaZ ZcK Zep ZeF Zcl has opx opd opA opD XV.flat XV.copy oD oA Zad ins Zob ZhE St.put St.putOwn St.lose St.loseEnv unal Zld Zlc Zso dUn ZhO ZaC ZcG Zbu Zbo ZaX Zc6 ZbQ ZcE Zju ZbN AV.cells AV.cellOk AV.single DV.cellOk Zyr Zyp Zyw DV.cells ZaP ZfX ZaO ZcC ZaM Za4 Zlm Za0 ZeI mapO AV.toD ZaF Zcc Zfp optD ZcB Zbh ZgG Zaz Zch Zb6 ZaI Zer ZdM ZbJ St.trim Out.st
theorem YbQ {call : Zaa} (raw : List Cus) (i : Nat) (x : Cus) (hx : raw[i]? = some x) (hl : raw.length < 2 ^ 40) (G : Nd) (hG : Za5 BEq.beq x.name G = none) (h' : List AObj)
    (h34 : call 36 [.d (.slc (x.val.map Val.enc)), .mp 2] [.map (ZpJ G ++ [(.str x.name, .mp 2)]), .var [.mp 0], .map []] = some (.d (.tup []), h')) :
    evQ C call (ann 62) 0 L44 ⟨e44 raw i, [], h44 G⟩ = some (.norm ⟨e44 raw (i + 1) ++ [(15, .val (.d (.bool true)))], [], h'⟩) := by
  have hlt : i < raw.length := (List.getElem?_eq_some_iff.1 hx).1
  have hd : decide ((i : Int) < (raw.length : Int)) = true := dlt hlt
  have hw : IntKind.i64.wrap ((i : Int) + 1) = (i : Int) + 1 := Za6 (by omega)
  have hg := ZnV hx
  have hi := Yc2 hlt
  unfold L44 X44 B44 Zac Tryz.f62 e44 d44 h44
  simp only [Option.getD_some, sq1, sq2, inn]
  simp [-getElem?_pos, A62, Zau, Zxu, hlt, hw, hg, hi, Yc1, YcV, YcW, Zjy, Zq2, hz9, Ya5, ag9, Ya4, Yca, ZrW _ _ G hG, ZrV _ _ G hG, Zbf, z98, k98, YdJ, Zig, AV.toD, h34, St.trim, ZbJ, List.getElem?_append, AV.cellOk, -List.getElem?_map]
theorem YbN {call : Zaa} (raw : List Cus) (G : Nd) : evQ C call (ann 62) 0 L44 ⟨e44 raw raw.length, [], h44 G⟩ = some (.exit 0 ⟨e44 raw raw.length ++ [(15, .val (.d (.bool false)))], [], h44 G⟩) := by
  unfold L44 X44 B44 Zac Tryz.f62 e44 d44 h44
  simp only [Option.getD_some, sq1, sq2, inn]
  simp [-getElem?_pos, A62, Zau]
end
end Go.Tev.S1
namespace Go.Tev.S1
open Go.Abs Go.Proofs
def Zru (O : Bm) : List (DV × AV) := O.map fun p => (.str p.1, .d (.bool p.2))
def f44 (raw : List Cus) (i : Nat) : List (Nat × SV) := [(0, .val (.d (d44 raw))), (2, .val (.d .nilm)), (3, .val (.ptr 1 0)), (6, .val (.mp 2)), (31, .val (.d (d44 raw))), (32, .val (.d (.int .i64 raw.length))), (33, .val (.d (.int .i64 i)))]
def g44 (G : Nd) (O : Bm) : List AObj := [.map (ZpJ G), .var [.mp 0], .map (Zru O)]
def b44 (x : Cus) : Nat × SV := (8, .box [.str x.name, .slc (x.val.map Val.enc)])
theorem ZmC (a : List UInt8) (b : Bool) : ∀ O : Bm, a ∉ ZbK O → Zsf (.str a) (.d (.bool b)) (Zru O) = some (Zru (O ++ [(a, b)]))
  | [], _ => rfl
  | (k, c) :: r, h => by
    have ih := ZmC a b r (fun hm => h (List.mem_cons_of_mem _ hm))
    have e : (a == k) = false := by
      rw [beq_eq_false_iff_ne]
      intro e
      exact h (by rw [e]; exact List.mem_cons_self)
    simp only [Zru, List.map_cons, List.cons_append, Zsf, ZdQ, e] at ih ⊢
    simp only [ih, Option.map_some]
section
attribute [local simp] List.getElem?_cons_zero Option.bind_some Zyu ZeX Zdi Zbw ZhR Zfo Zed ZnG Zh0 Zfr ZhY ZhT ZnD ZhJ ZcA ZbM Zmo ZaQ Zbb ZnA ZaZ ZcK Zep ZeF Zcl has opx opd opA opD XV.flat XV.copy oD oA Zad ins Zob ZhE St.put St.putOwn St.lose St.loseEnv unal Zld Zlc Zso dUn ZhO ZaC ZcG Zbu Zbo ZaX Zc6 ZbQ ZcE Zju ZbN AV.cells AV.cellOk AV.single DV.cellOk Zyr Zyp Zyw DV.cells ZaP ZfX ZaO ZcC ZaM Za4 Zlm Za0 ZeI mapO AV.toD ZaF Zcc Zfp optD ZcB Zbh ZgG Zaz Zch Zb6 ZaI Zer ZdM ZbJ St.trim Out.st
theorem Ycc {call : Zaa} (raw : List Cus) (G : Nd) : evQ C call (ann 62) 0 Zz0 ⟨[(0, .val (.d (d44 raw))), (2, .val (.d .nilm)), (3, .val (.ptr 1 0))], [], h44 G⟩ = some (.norm ⟨[(0, .val (.d (d44 raw))), (2, .val (.d .nilm)), (3, .val (.ptr 1 0)), (6, .val (.mp 2))], [], g44 G []⟩) := by
  unfold Zz0 Y44 B44 Zac Tryz.f62 h44 g44 Zru
  simp only [Option.getD_some, sq1, sq2]
  simp [-getElem?_pos, A62, Zau, Yca]
theorem Ycg {call : Zaa} (raw : List Cus) (G : Nd) : evQ C call (ann 62) 0 Yaf ⟨[(0, .val (.d (d44 raw))), (2, .val (.d .nilm)), (3, .val (.ptr 1 0)), (6, .val (.mp 2))], [], g44 G []⟩ = some (.norm ⟨f44 raw 0, [], g44 G []⟩) := by
  unfold Yaf Z44 Y44 B44 Zac Tryz.f62 f44 d44
  simp only [Option.getD_some, sq1, sq2]
  simp [-getElem?_pos, A62, Zau, Zxu]
theorem ZtM {call : Zaa} (raw : List Cus) (i : Nat) (h : List AObj) : evQ C call (ann 62) 0 ZqP ⟨f44 raw i, [], h⟩ = some (.norm ⟨f44 raw i ++ [(34, .val (.d (.bool (decide ((i : Int) < (raw.length : Int))))))], [], h⟩) := by
  unfold ZqP M44 Z44 Y44 B44 Zac Tryz.f62 f44
  simp only [Option.getD_some, sq1, sq2, inn]
  simp [-getElem?_pos, A62, Zau]
theorem ZzG {call : Zaa} (raw : List Cus) (i : Nat) (x : Cus) (hx : raw[i]? = some x) (h : List AObj) (v : SV) : evQ C call (ann 62) 0 Zqk ⟨f44 raw i ++ [(34, v)], [], h⟩ = some (.norm ⟨f44 raw i ++ [(34, v), b44 x], [], h⟩) := by
  have hlt : i < raw.length := (List.getElem?_eq_some_iff.1 hx).1
  have hg := ZnV hx
  have hi := Yc2 hlt
  unfold Zqk K44 M44 Z44 Y44 B44 Zac Tryz.f62 f44 b44 d44
  simp only [Option.getD_some, sq1, sq2, inn]
  simp [-getElem?_pos, A62, Zau, Zxu, hg, hi, Yc1, YcV, YcW, -List.getElem?_map]
theorem Yas {call : Zaa} (raw : List Cus) (i : Nat) (x : Cus) (G : Nd) (O : Bm) (v : SV) : evQ C call (ann 62) 0 ZqI ⟨f44 raw i ++ [(34, v), b44 x], [], g44 G O⟩ = some (.norm ⟨f44 raw i ++ [(34, v), b44 x, (9, .val (.ptr 4 0))], [], g44 G O ++ [.map [], .var [.mp 3]]⟩) := by
  unfold ZqI K44 M44 Z44 Y44 B44 Zac Tryz.f62 f44 b44 g44
  simp only [Option.getD_some, sq1, sq2, inn]
  simp [-getElem?_pos, A62, Zau, Yca, zz61, sz61, AV.cellOk]
theorem ZzU {call : Zaa} (raw : List Cus) (i : Nat) (x : Cus) (G : Nd) (O : Bm) (v : SV) : evQ C call (ann 62) 0 Zrv ⟨f44 raw i ++ [(34, v), b44 x, (9, .val (.ptr 4 0))], [], g44 G O ++ [.map [], .var [.mp 3]]⟩ = some (.norm ⟨f44 raw i ++ [(34, v), b44 x, (9, .val (.ptr 4 0)), (10, .val (.ptr 5 0))], [], g44 G O ++ [.map [], .var [.mp 3], .var [.d .nilf]]⟩) := by
  unfold Zrv K44 M44 Z44 Y44 B44 Zac Tryz.f62 f44 b44 g44
  simp only [Option.getD_some, sq1, sq2, inn]
  simp [-getElem?_pos, A62, Zau, zz99, sz99, AV.cellOk]
theorem Zzk {call : Zaa} (raw : List Cus) (i : Nat) (x : Cus) (G : Nd) (O : Bm) (v : SV) : evQ C call (ann 62) 0 Zqx ⟨f44 raw i ++ [(34, v), b44 x, (9, .val (.ptr 4 0)), (10, .val (.ptr 5 0))], [], g44 G O ++ [.map [], .var [.mp 3], .var [.d .nilf]]⟩ = some (.norm ⟨f44 raw i ++ [(34, v), b44 x, (9, .val (.ptr 4 0)), (10, .val (.ptr 5 0))], [], H68 G (Zru O) []⟩) := by
  unfold Zqx K44 M44 Z44 Y44 B44 Zac Tryz.f62 f44 b44 g44 H68
  simp only [Option.getD_some, sq1, sq2, inn]
  simp [-getElem?_pos, A62, Zau, sz99, AV.cellOk, ZvL, AV.toD, ZsT]
theorem Yak {call : Zaa} {all : List Oper} (raw : List Cus) (i : Nat) (x : Cus) (G : Nd) (O : Bm) (v : SV) : Zau C call (ann 62) all ((opsL ZhX).take 3) ⟨f44 raw i ++ [(34, v), b44 x, (9, .val (.ptr 4 0)), (10, .val (.ptr 5 0))], [], H68 G (Zru O) []⟩ =
    some ⟨f44 raw i ++ [(34, v), b44 x, (9, .val (.ptr 4 0)), (10, .val (.ptr 5 0))], [(41, .a (.d (.str x.name))), (40, .sp 8 0), (39, .a (.fn 73 [.ptr 1 0, .ptr 4 0, .ptr 5 0]))], H68 G (Zru O) []⟩ := by
  unfold opsL Go.Abs.ops ZhX K44 M44 Z44 Y44 B44 Zac Tryz.f62 f44 b44 H68
  simp only [Option.getD_some, sq1, sq2, inn]
  simp [-getElem?_pos, A62, Zau, ag99, Zjy, hz9, ag9]
theorem Yda : (Go.Abs.ops ZhX).toList = (opsL ZhX).take 3 ++ [opZ (opsL ZhX)] := by kernel_rfl
theorem o44_15 : (opZ (opsL ZhX)).guard = none ∧ (opZ (opsL ZhX)).dst = some 42 ∧ (opZ (opsL ZhX)).op = .call { callee := .value (.tmp 39), args := #[.tmp 41], argTypes := #[9] } := by
  refine ⟨?_, ?_, ?_⟩ <;> kernel_rfl
theorem Yau {call : Zaa} (raw : List Cus) (i : Nat) (x : Cus) (G : Nd) (O : Bm) (S : List (List UInt8)) (v : SV) (hO : x.name ∉ ZbK O) : evQ C call (ann 62) 0 ZrF ⟨f44 raw i ++ [(34, v), b44 x, (9, .val (.ptr 4 0)), (10, .val (.ptr 5 0))], [], H68 G (Zru O) S⟩ =
    some (.norm ⟨f44 raw i ++ [(34, v), b44 x, (9, .val (.ptr 4 0)), (10, .val (.ptr 5 0))], [], H68 G (Zru (O ++ [(x.name, decide (x.name ∈ S))])) S⟩) := by
  unfold ZrF K44 M44 Z44 Y44 B44 Zac Tryz.f62 f44 b44 H68
  simp only [Option.getD_some, sq1, sq2, inn]
  by_cases hs : x.name ∈ S
  · simp [-getElem?_pos, A62, Zau, Zjy, hz9, ag9, YcZ, Zbf, z61, k61, ZfA, ZmC _ _ O hO, AV.cellOk, hs]
  · simp [-getElem?_pos, A62, Zau, Zjy, hz9, ag9, YcZ, Zbf, z61, k61, ZfA, ZmC _ _ O hO, AV.cellOk, hs]
theorem Yam {call : Zaa} (raw : List Cus) (i : Nat) (hl : i + 1 < 2 ^ 63) (h : List AObj) (v : SV) : evQ C call (ann 62) 0 Zrq ⟨f44 raw i ++ [(34, v)], [], h⟩ = some (.norm ⟨f44 raw (i + 1) ++ [(34, v)], [], h⟩) := by
  have hw : IntKind.i64.wrap ((i : Int) + 1) = (i : Int) + 1 := Za6 hl
  unfold Zrq M44 Z44 Y44 B44 Zac Tryz.f62 f44
  simp only [Option.getD_some, sq1, sq2, inn]
  simp [-getElem?_pos, A62, Zau, hw]
theorem Zzc {call : Zaa} (raw : List Cus) (i : Nat) (h : List AObj) : evQ C call (ann 62) 0 Zuk ⟨f44 raw i, [], h⟩ = some (.norm ⟨[(0, .val (.d (d44 raw))), (2, .val (.mp 2)), (3, .val (.ptr 1 0)), (6, .val (.mp 2)), (31, .val (.d (d44 raw))), (32, .val (.d (.int .i64 raw.length))), (33, .val (.d (.int .i64 i)))], [], h⟩) := by
  unfold Zuk Y44 B44 Zac Tryz.f62 f44
  simp only [Option.getD_some, sq1, sq2]
  simp [-getElem?_pos, A62, Zau]
end
end Go.Tev.S1
namespace Go.Abs
theorem sub_list {env1 e0 : List (Nat × SV)} {s : St} (h : ∀ p ∈ env1, Zad s.env p.1 = some p.2 ∧ (Zad e0 p.1).isSome = true) : Sub ⟨env1, [], s.heap⟩ (s.trim e0) := by
  refine ⟨fun k v hv => ?_, rfl, rfl⟩
  obtain ⟨h1, h2⟩ := h (k, v) (alook_mem0' hv)
  simp only [St.trim]
  rw [Go.Tev.alook_trimE _ _ _ h2]
  exact h1
where
  alook_mem0' {α : Type} : ∀ {l : List (Nat × α)} {t : Nat} {v : α}, Zad l t = some v → (t, v) ∈ l
    | [], t, v, h => by simp [Zad] at h
    | (k, u) :: l, t, v, h => by
      simp only [Zad] at h
      cases hb : Nat.beq k t with
      | true =>
        rw [hb] at h
        have := Nat.eq_of_beq_eq_true hb
        cases h
        subst this
        exact List.mem_cons_self
      | false =>
        rw [hb] at h
        exact List.mem_cons_of_mem _ (alook_mem0' h)
theorem Zug {s : St} (h : s.tmp = []) : Sub s s := ⟨fun _ _ h => h, h, rfl⟩
end Go.Abs
namespace Go.Tev.S1
open Go.Abs Go.Proofs
open Classical in
noncomputable def Za9 (raw : List Cus) : Bm := raw.map fun x => (x.name, decide (Path (Za8 raw) x.name x.name))
theorem Zar : Zbq C.P (Zab C K0) := Zmh Zai mixed Ydc
theorem YaQ : okC (C.ann 62) L44 = true := by kernel_rfl
theorem Zks (l : List Val) (hl : Zah l ≤ B) (a b : AObj) : ∃ h', Zab C K0 36 [.d (.slc (l.map Val.enc)), .mp 2] [a, b, .map []] = some (.d (.tup []), h') ∧ h'[0]? = some a ∧ h'[1]? = some b ∧ h'[2]? = some (.map ((ZfQ (Zen [] l)).map fun p => (p.1, .d p.2))) := by
  obtain ⟨d, h', h1, h2, h3, h4, h5⟩ := Zri (K := K0) Zpp [.l (X := X) 51 l] l [.slc (l.map Val.enc)] [2] [.d (.slc (l.map Val.enc)), .mp 2] ([], ()) [a, b, .map []] ((), (Zen [] l, ())) (fun _ => .tup []) rfl rfl rfl (by simp) ⟨⟨_, rfl, rfl⟩, trivial⟩ (ZsW hl) rfl
  cases h1
  obtain ⟨⟨ao, h6, h7⟩, _⟩ := h3
  have h7 : ao = .map ((Zen [] l).map fun p => (DV.str p.1, AV.d (DV.bool p.2))) := h7
  subst h7
  refine ⟨h', h2, ?_, ?_, ?_⟩
  · rw [h4 0 (by simp) (by simp)]; rfl
  · rw [h4 1 (by simp) (by simp)]; rfl
  · rw [h6, ZfQ, List.map_map]; rfl
theorem Zqg {a : List UInt8} : ∀ {G : Nd}, a ∉ G.map Prod.fst → Za5 BEq.beq a G = none
  | [], _ => rfl
  | (k, u) :: r, h => by
    simp only [List.map_cons, List.mem_cons, not_or] at h
    simp only [Za5]
    have : (a == k) = false := by simpa using h.1
    rw [this]
    exact Zqg h.2
theorem Zmx (raw : List Cus) : (Za8 raw).map Prod.fst = raw.map Cus.name := by simp [Za8, List.map_map, Function.comp_def]
theorem Zo1 {raw : List Cus} {i : Nat} {x : Cus} (hn : (raw.map Cus.name).Nodup) (hx : raw[i]? = some x) : x.name ∉ (raw.take i).map Cus.name := by
  intro hm
  obtain ⟨y, hy, he⟩ := List.mem_map.1 hm
  obtain ⟨j, hj, rfl⟩ := List.mem_iff_getElem.1 hy
  have hi : i < raw.length := (List.getElem?_eq_some_iff.1 hx).1
  have hxi : raw[i] = x := (List.getElem?_eq_some_iff.1 hx).2
  have hj1 : j < i := by simp at hj; omega
  have hj2 : j < raw.length := by omega
  rw [List.getElem_take] at he
  have := (List.getElem_inj hn (i := j) (j := i) (h₀ := by simpa using hj2) (h₁ := by simpa using hi)).1 (by simp [he, hxi])
  omega
theorem Zs9 {G : Nd} {S : List (List UInt8)} (hc : ∀ m ∈ S, ∀ k, Edge G m k → k ∈ S) {a b : List UInt8} (h : Path G a b) : a ∈ S → b ∈ S := by
  induction h with
  | one h => exact fun ha => hc _ ha _ h
  | step h t ih => exact fun ha => ih (hc _ ha _ h)
theorem Zxr {G : Nd} {a b : List UInt8} {S : List (List UInt8)} (h : WalkPost G [] a S) : b ∈ S ↔ Path G a b := by
  have hc : ∀ m ∈ S, ∀ k, Edge G m k → k ∈ S := fun m hm k hk => (h.new m hm (by simp)).2 k hk
  constructor
  · intro hb; exact (h.new b hb (by simp)).1
  · intro hp
    cases hp with
    | one e => exact h.next _ e
    | step e t => exact Zs9 hc t (h.next _ e)
def Ya8 (e : List (Nat × SV)) (h : List AObj) : Out → Prop := fun o => ∃ s, o = .norm s ∧ Sub ⟨e, [], h⟩ s
theorem Zhi {e : List (Nat × SV)} {h : List AObj} {c d : Code} {st : St} {fa : FA} {Q : Out → Prop} (h1 : Tri C fa c st (Ya8 e h)) (h2 : Tri C fa d ⟨e, [], h⟩ Q) : Tri C fa (.seq c d) st Q :=
  ZcD h1 (fun s ⟨s', hs, hsub⟩ => by cases hs; exact ZpG hsub h2) (fun o ⟨s, hs, _⟩ hne => absurd hs (hne s))
def p44 (raw : List Cus) : List (Nat × SV) := [(0, .val (.d (d44 raw))), (2, .val (.d .nilm)), (3, .val (.ptr 1 0))]
theorem ZyE (raw : List Cus) (hn : (raw.map Cus.name).Nodup) (hok : ZkO raw) : Tri C (C.ann 62) (.block 0 (.loop L44)) ⟨e44 raw 0, [], h44 []⟩ (Ya8 (p44 raw) (h44 (Za8 raw))) := by
  have hB : B = 2 ^ 36 := rfl
  have hV : V = 2 ^ 24 := rfl
  have hlen : raw.length < 2 ^ 40 := by have := hok.1; omega
  refine ZeO ?_
  refine ZiH (fun m s => ∃ i, i ≤ raw.length ∧ m = raw.length - i ∧ s = ⟨e44 raw i, [], h44 (Za8 (raw.take i))⟩) (n := raw.length) ⟨0, Nat.zero_le _, rfl, rfl⟩ ?_
  rintro m s ⟨i, hi, rfl, rfl⟩
  rcases Nat.lt_or_ge i raw.length with hlt | hge
  · have hx := List.getElem?_eq_getElem hlt
    have hnew := Zo1 hn hx
    have hG : Za5 BEq.beq raw[i].name (Za8 (raw.take i)) = none := Zqg (by rw [Zmx]; exact hnew)
    obtain ⟨h', g1, g2, g3, g4⟩ := Zks raw[i].val (Nat.le_trans (hok.2 raw[i] (List.getElem_mem hlt)) (by rw [hB, hV]; decide)) (.map (ZpJ (Za8 (raw.take i)) ++ [(.str raw[i].name, .mp 2)])) (.var [.mp 0])
    refine Zut (n := 2) (by simp [h44]) ?_
    refine ZcI (call := Zab C K0) Zai mixed Zar YaQ (YbQ raw i raw[i] hx hlen _ hG h' g1) ?_
    refine ⟨⟨e44 raw (i + 1), [], h44 (Za8 (raw.take (i + 1)))⟩, ⟨rfl, rfl, ?_, ?_⟩, ?_⟩
    · intro id o2 ho
      rcases id with _ | _ | id
      · refine ⟨_, g2, ?_⟩
        cases ho
        have hgr : ZpJ (Za8 (raw.take (i + 1))) = ZpJ (Za8 (raw.take i)) ++ [(.str raw[i].name, .d (.fmap (ZfQ (Zen [] raw[i].val))))] := by
          rw [Za3 hx]; simp only [Za8, ZpJ, List.map_append, List.map_cons, List.map_nil]
        rw [hgr]
        refine .map _ _ (by simp) fun j a b ha hb => ?_
        rcases Nat.lt_or_ge j (ZpJ (Za8 (raw.take i))).length with hj | hj
        · rw [List.getElem?_append_left hj] at ha hb
          rw [ha] at hb
          cases hb
          refine ⟨rfl, ?_⟩
          have hm := List.mem_of_getElem? ha
          obtain ⟨p, _, rfl⟩ := List.mem_map.1 hm
          exact .d _
        · rw [List.getElem?_append_right hj] at ha hb
          have hj0 : j - (ZpJ (Za8 (raw.take i))).length = 0 := by
            have := (List.getElem?_eq_some_iff.1 ha).1
            simp at this; omega
          rw [hj0] at ha hb
          cases ha
          cases hb
          exact ⟨rfl, .frz 2 _ (Nat.le_refl _) g4⟩
      · refine ⟨_, g3, ?_⟩
        cases ho
        refine .var _ _ rfl fun j a b ha hb => ?_
        rcases j with _ | j
        · cases ha; cases hb; exact .mp 0 (by decide)
        · simp at ha
      · simp [h44] at ho
    · intro k v2 hv
      refine ⟨v2, ZaT hv, ?_⟩
      have hm := sub_list.alook_mem0' hv
      simp only [e44, List.mem_cons, List.not_mem_nil, or_false, Prod.mk.injEq] at hm
      rcases hm with ⟨_, rfl⟩ | ⟨_, rfl⟩ | ⟨_, rfl⟩ | ⟨_, rfl⟩ | ⟨_, rfl⟩ | ⟨_, rfl⟩
      · exact .val _ _ (.d _)
      · exact .val _ _ (.d _)
      · exact .val _ _ (.ptr 1 0 (by decide))
      · exact .val _ _ (.d _)
      · exact .val _ _ (.d _)
      · exact .val _ _ (.d _)
    · exact ⟨_, _, by omega, ⟨i + 1, hlt, rfl, rfl⟩, Zug rfl⟩
  · have he : i = raw.length := by omega
    subst he
    refine ZcI (call := Zab C K0) Zai mixed Zar YaQ (YbN raw _) ?_
    simp only [Zba]
    refine ⟨_, rfl, ?_⟩
    rw [List.take_length]
    refine sub_list (s := ⟨e44 raw raw.length ++ [(15, .val (.d (.bool false)))], [], h44 (Za8 raw)⟩) fun p hp => ?_
    simp only [p44, List.mem_cons, List.not_mem_nil, or_false] at hp
    rcases hp with rfl | rfl | rfl <;> exact ⟨rfl, rfl⟩
theorem YdD : okC (C.ann 62) Yag = true ∧ okC (C.ann 62) Zzb = true ∧ okC (C.ann 62) Yac = true ∧ okC (C.ann 62) Zz0 = true ∧ okC (C.ann 62) Yaf = true ∧ okC (C.ann 62) ZqP = true ∧ okC (C.ann 62) Zqk = true ∧ okC (C.ann 62) ZqI = true ∧
    okC (C.ann 62) Zrv = true ∧ okC (C.ann 62) Zqx = true ∧ okC (C.ann 62) ZrF = true ∧ okC (C.ann 62) Zrq = true ∧ okC (C.ann 62) Zuk = true := by
  refine ⟨?_, ?_, ?_, ?_, ?_, ?_, ?_, ?_, ?_, ?_, ?_, ?_, ?_⟩ <;> kernel_rfl
noncomputable abbrev LB44 : Code := .seq ZqP (.seq (.cond (.tmp 34) .skip (.exit 2)) (.seq (.block 3 (.seq Zqk (.seq ZqI (.seq Zrv (.seq Zqx (.seq (.region 15 (Go.Abs.ops ZhX) false) ZrF)))))) Zrq))
theorem ZvB {raw : List Cus} {i : Nat} {x : Cus} (hx : raw[i]? = some x) : ∃ b : Bool, (Za9 raw).take (i + 1) = (Za9 raw).take i ++ [(x.name, b)] ∧ (b = true ↔ Path (Za8 raw) x.name x.name) := by
  classical
  refine ⟨decide (Path (Za8 raw) x.name x.name), ?_, by simp⟩
  have h : (Za9 raw)[i]? = some (x.name, decide (Path (Za8 raw) x.name x.name)) := by
    unfold Za9
    rw [List.getElem?_map, hx]
    simp only [Option.map_some]
  exact Za3 h
theorem ZuW {raw : List Cus} {x : Cus} (hx : x ∈ raw) : (Za5 BEq.beq x.name (Za8 raw)).isSome = true := by
  unfold Za8
  induction raw with
  | nil => cases hx
  | cons y r ih =>
    simp only [List.map_cons, Za5]
    cases e : (x.name == y.name) with
    | true => rfl
    | false =>
      rcases List.mem_cons.1 hx with rfl | hx
      · simp at e
      · exact ih hx
theorem Zzo (raw : List Cus) (hn : (raw.map Cus.name).Nodup) (hok : ZkO raw) : Tri C (C.ann 62) (.block 2 (.loop LB44)) ⟨f44 raw 0, [], g44 (Za8 raw) []⟩ (Ya8 (f44 raw raw.length) (g44 (Za8 raw) (Za9 raw))) := by
  have hB : B = 2 ^ 36 := rfl
  obtain ⟨_, _, _, _, _, k10, k11, k12, k13, k14, k16, k17, _⟩ := YdD
  have hlen : raw.length < 2 ^ 40 := by have := hok.1; omega
  refine ZeO ?_
  refine ZiH (fun m s => ∃ i, i ≤ raw.length ∧ m = raw.length - i ∧ s = ⟨f44 raw i, [], g44 (Za8 raw) ((Za9 raw).take i)⟩) (n := raw.length) ⟨0, Nat.zero_le _, rfl, rfl⟩ ?_
  rintro m s ⟨i, hi, rfl, rfl⟩
  rcases Nat.lt_or_ge i raw.length with hlt | hge
  · have hx := List.getElem?_eq_getElem hlt
    have hnew := Zo1 hn hx
    have hO : raw[i].name ∉ ZbK ((Za9 raw).take i) := by
      have : ZbK ((Za9 raw).take i) = (raw.take i).map Cus.name := by
        unfold ZbK Za9
        rw [← List.map_take, List.map_map]; rfl
      rw [this]; exact hnew
    have hd : decide ((i : Int) < (raw.length : Int)) = true := dlt hlt
    refine Zut (n := 3) (by simp [g44]) ?_
    refine ZaN (call := Zab C K0) Zai mixed Zar k10 (ZtM raw i _) ?_
    rw [hd]
    refine ZcD (Q1 := fun o => o = .norm ⟨f44 raw i ++ [(34, .val (.d (.bool true)))], [], g44 (Za8 raw) ((Za9 raw).take i)⟩) (Zhn (b := true) rfl (Zp1 rfl)) ?_ (fun o h1 h2 => absurd h1 (h2 _))
    rintro s hs
    cases hs
    refine ZcD (Q1 := fun o => ∃ S', WalkPost (Za8 raw) [] raw[i].name S' ∧ Ya8 (f44 raw i ++ [(34, .val (.d (.bool true)))]) (H68 (Za8 raw) (Zru ((Za9 raw).take i ++ [(raw[i].name, decide (raw[i].name ∈ S'))])) S') o) ?_ ?_ (fun o ⟨S', _, s, hs, _⟩ h2 => absurd hs (h2 s))
    · refine ZeO ?_
      refine ZaN (call := Zab C K0) Zai mixed Zar k11 (ZzG raw i _ hx _ _) ?_
      refine ZaN (call := Zab C K0) Zai mixed Zar k12 (Yas raw i raw[i] _ _ _) ?_
      refine ZaN (call := Zab C K0) Zai mixed Zar k13 (ZzU raw i raw[i] _ _ _) ?_
      refine ZaN (call := Zab C K0) Zai mixed Zar k14 (Zzk raw i raw[i] _ _ _) ?_
      have hw := ZxH ((Za8 raw).length + 1) (Za8 raw) (Zru ((Za9 raw).take i)) [] raw[i].name List.nodup_nil (fun m hm => by simp at hm) (ZuW (List.getElem_mem hlt)) (by simp)
      refine ZcD (Q1 := fun o => ∃ S', WalkPost (Za8 raw) [] raw[i].name S' ∧ o = .norm ⟨f44 raw i ++ [(34, .val (.d (.bool true))), b44 raw[i], (9, .val (.ptr 4 0)), (10, .val (.ptr 5 0))], [], H68 (Za8 raw) (Zru ((Za9 raw).take i)) S'⟩)
        (ZgO (call := Zab C K0) Zai Zar Yda (Yak raw i raw[i] _ _ _) o44_15.1
          (Zg9 Zai o44_15.2.2 rfl (fv := .fn 73 [.ptr 1 0, .ptr 4 0, .ptr 5 0]) (vs := [.d (.str raw[i].name)]) (caps := [.ptr 1 0, .ptr 4 0, .ptr 5 0]) rfl rfl rfl hw (fun r h' _ => by
            rw [o44_15.2.1]
            exact ⟨_, rfl⟩)) ?_) ?_ (fun o ⟨S', _, hs⟩ h2 => absurd hs (h2 _))
      · rintro s ⟨r, h', ⟨rfl, S2, hP, rfl⟩, hput⟩
        rw [o44_15.2.1] at hput
        cases hput
        exact ⟨S2, hP, rfl⟩
      · rintro s ⟨S', hP, hs⟩
        cases hs
        refine ZcI (call := Zab C K0) Zai mixed Zar k16 (Yau raw i raw[i] _ _ S' _ hO) ?_
        simp only [Zba]
        refine ⟨S', hP, _, rfl, ?_⟩
        refine sub_list (s := ⟨f44 raw i ++ [(34, .val (.d (.bool true))), b44 raw[i], (9, .val (.ptr 4 0)), (10, .val (.ptr 5 0))], [], H68 (Za8 raw) (Zru ((Za9 raw).take i ++ [(raw[i].name, decide (raw[i].name ∈ S'))])) S'⟩) fun p hp => ?_
        simp only [f44, List.cons_append, List.nil_append, List.mem_cons, List.not_mem_nil, or_false] at hp
        rcases hp with rfl | rfl | rfl | rfl | rfl | rfl | rfl | rfl <;> exact ⟨rfl, rfl⟩
    · rintro s ⟨S', hP, s', hs, hsub⟩
      cases hs
      refine ZpG hsub ?_
      refine ZcI (call := Zab C K0) Zai mixed Zar k17 (Yam raw i (by omega) _ _) ?_
      obtain ⟨b, hb1, hb2⟩ := ZvB hx
      have hbe : decide (raw[i].name ∈ S') = b := by
        rw [Bool.eq_iff_iff, decide_eq_true_iff, Zxr hP, hb2]
      rw [hbe, ← hb1]
      refine ⟨⟨f44 raw (i + 1), [], g44 (Za8 raw) ((Za9 raw).take (i + 1))⟩, ⟨rfl, rfl, ?_, ?_⟩, ?_⟩
      · intro id o2 ho
        rcases id with _ | _ | _ | id
        · refine ⟨_, rfl, ?_⟩
          cases ho
          refine .map _ _ rfl fun j a b ha hb => ?_
          rw [ha] at hb
          cases hb
          have hm := List.mem_of_getElem? ha
          obtain ⟨p, _, rfl⟩ := List.mem_map.1 hm
          exact ⟨rfl, .d _⟩
        · refine ⟨_, rfl, ?_⟩
          cases ho
          refine .var _ _ rfl fun j a b ha hb => ?_
          rcases j with _ | j
          · cases ha; cases hb; exact .mp 0 (by decide)
          · simp at ha
        · refine ⟨_, rfl, ?_⟩
          cases ho
          refine .map _ _ rfl fun j a b ha hb => ?_
          rw [ha] at hb
          cases hb
          have hm := List.mem_of_getElem? ha
          obtain ⟨p, _, rfl⟩ := List.mem_map.1 hm
          exact ⟨rfl, .d _⟩
        · simp [g44] at ho
      · intro k v2 hv
        refine ⟨v2, ZaT hv, ?_⟩
        have hm := sub_list.alook_mem0' hv
        simp only [f44, List.mem_cons, List.not_mem_nil, or_false, Prod.mk.injEq] at hm
        rcases hm with ⟨_, rfl⟩ | ⟨_, rfl⟩ | ⟨_, rfl⟩ | ⟨_, rfl⟩ | ⟨_, rfl⟩ | ⟨_, rfl⟩ | ⟨_, rfl⟩
        · exact .val _ _ (.d _)
        · exact .val _ _ (.d _)
        · exact .val _ _ (.ptr 1 0 (by decide))
        · exact .val _ _ (.mp 2 (by decide))
        · exact .val _ _ (.d _)
        · exact .val _ _ (.d _)
        · exact .val _ _ (.d _)
      · exact ⟨_, _, by omega, ⟨i + 1, hlt, rfl, rfl⟩, Zug rfl⟩
  · have he : i = raw.length := by omega
    subst he
    refine ZaN (call := Zab C K0) Zai mixed Zar k10 (ZtM raw _ _) ?_
    rw [ZnJ]
    refine ZcD (Q1 := fun o => o = .exit 2 ⟨f44 raw raw.length ++ [(34, .val (.d (.bool false)))], [], g44 (Za8 raw) ((Za9 raw).take raw.length)⟩) (Zhn (b := false) rfl (Zuz rfl)) (fun s hs => by cases hs) ?_
    rintro o rfl _
    simp only [Zba]
    refine ⟨_, rfl, ?_⟩
    rw [List.take_of_length_le (by simp [Za9])]
    refine sub_list (s := ⟨f44 raw raw.length ++ [(34, .val (.d (.bool false)))], [], g44 (Za8 raw) (Za9 raw)⟩) fun p hp => ?_
    simp only [f44, List.mem_cons, List.not_mem_nil, or_false] at hp
    rcases hp with rfl | rfl | rfl | rfl | rfl | rfl | rfl <;> exact ⟨rfl, rfl⟩
theorem Zs0 (raw : List Cus) (hn : (raw.map Cus.name).Nodup) (hok : ZkO raw) : Has Tryz.prog 62 [.d (d44 raw)] [] (.d (.fmap (ZfQ (Za9 raw)))) [] := by
  obtain ⟨k0, k1, k2, k8, k9, _, _, _, _, _, _, _, k18⟩ := YdD
  have h : HasN Tryz.prog 62 [.d (d44 raw)] [] (fun r h' => r = .mp 2 ∧ h' = g44 (Za8 raw) (Za9 raw)) := by
    refine Zf6 (C := C) (f := 62) (fn := Tryz.f62) Tryz.func62 YcK (by kernel_rfl) ?_
    refine ZaN (call := Zab C K0) Zai mixed Zar k0 (Ycy raw) ?_
    refine ZaN (call := Zab C K0) Zai mixed Zar k1 (YcI raw) ?_
    refine Zhi (ZaN (call := Zab C K0) Zai mixed Zar k2 (Ycv raw) (ZyE raw hn hok)) ?_
    refine ZaN (call := Zab C K0) Zai mixed Zar k8 (Ycc raw _) ?_
    refine Zhi (ZaN (call := Zab C K0) Zai mixed Zar k9 (Ycg raw _) (Zzo raw hn hok)) ?_
    refine ZaN (call := Zab C K0) Zai mixed Zar k18 (Zzc raw _ _) ?_
    refine ZcI (call := Zab C K0) (n := 0) Zai mixed Zar rfl rfl ?_
    exact ⟨[.mp 2], rfl, rfl, rfl⟩
  refine HasN.frozen (ds := [d44 raw]) h ?_
  rintro r h' ⟨rfl, rfl⟩
  refine ⟨2, ?_⟩
  have : ∀ O : Bm, mapO (fun e : DV × AV => (Abs.freeze (g44 (Za8 raw) (Za9 raw)) 1 e.2).map fun v => (e.1, v)) (Zru O) = some (ZfQ O) := by
    intro O
    induction O with
    | nil => rfl
    | cons p O ih =>
      simp only [Zru, List.map_cons, mapO, ZfQ] at ih ⊢
      simp only [Abs.freeze, Option.map_some, ih]
  simp only [Abs.freeze]
  show (match (g44 (Za8 raw) (Za9 raw))[2]? with
    | some (.map es) => (mapO (fun e : DV × AV => (Abs.freeze (g44 (Za8 raw) (Za9 raw)) 1 e.2).map fun v => (e.1, v)) es).map DV.fmap
    | _ => none) = _
  show (mapO (fun e : DV × AV => (Abs.freeze (g44 (Za8 raw) (Za9 raw)) 1 e.2).map fun v => (e.1, v)) (Zru (Za9 raw))).map DV.fmap = _
  rw [this]; rfl
end Go.Tev.S1
namespace Go.Abs
theorem A35 : (ann 35).nt = 20 ∧ (ann 35).keep = [0, 2, 3, 5, 7, 8, 9, 10] ∧ (ann 35).take = [] ∧ (ann 35).heapy = [] ∧ (ann 35).frz = [] ∧ (ann 35).lend = [] := ⟨rfl, rfl, rfl, rfl, rfl, rfl⟩
section
variable {C : Ctx} {call : Zaa} {fa : FA} {st st1 s : St} {x y : Code} {Q : Out → Prop}
theorem ZhS (hn : Zbj C.P) (hK : Zbq C.P call) {id : Nat} {pre post : List Oper} {o : Oper} {ops : Array Oper} (hops : ops.toList = pre ++ o :: post) (he : Zau C call fa (pre ++ o :: post) pre st = some st1) (hg : o.guard = none) {Q2 : St → Prop}
    (ho : Yck C fa o st1 Q2) (hq : ∀ s, Q2 s → ∃ s2, Zau C call fa (pre ++ o :: post) post s = some s2 ∧ Q (.norm { s2 with tmp := [] })) : Tri C fa (.region id ops false) st Q := by
  intro own a w S
  refine wp_region_list ?_
  rw [hops]
  have hall : (pre ++ o :: post).toArray = ops := by rw [← hops]
  have key : wpList C.P (pre ++ o :: post).toArray (fun e a' w' => ∃ out, Q out ∧ OutRel C.P fa own st.heap w out e a' w') (pre ++ o :: post) a w := by
    refine ZiU hn hK pre st own a w he S fun a1 w1 own1 S1 F1 E1 => ?_
    simp only [wpList]
    have hw : Region.wanted o (yielded (pre ++ o :: post).toArray a1.tmps) = true := by
      unfold Region.wanted
      rw [hg]
    rw [if_pos hw]
    left
    refine ho own1 a1 w1 S1 _ _ fun a2 w2 s2 own2 hq2 S2 F2 E2 => ?_
    obtain ⟨s3, e3, hq3⟩ := hq s2 hq2
    exact ZdU hn hK post s2 own2 a2 w2 e3 S2 fun a3 w3 own3 S3 F3 E3 => ⟨_, hq3, rfl, own3, S3.dropTmp, (F1.trans F2).trans F3, (E1.trans E2).trans E3⟩
  rw [hall] at key
  exact key
end
end Go.Abs
namespace Go.Tev.S1
open Go.Abs Go.Proofs
abbrev Mv := List (List UInt8 × List Val)
def ZhL (M : Mv) : List (DV × AV) := M.map fun p => (.str p.1, .d (.slc (p.2.map Val.enc)))
def Zon (raw : List Cus) : Mv := raw.map fun x => (x.name, x.val)
theorem ZgC (a : List UInt8) (v : List Val) : ∀ M : Mv, a ∉ M.map Prod.fst → Zsf (.str a) (.d (.slc (v.map Val.enc))) (ZhL M) = some (ZhL (M ++ [(a, v)]))
  | [], _ => rfl
  | (k, c) :: r, h => by
    have ih := ZgC a v r (fun hm => h (List.mem_cons_of_mem _ hm))
    have e : (a == k) = false := by
      rw [beq_eq_false_iff_ne]
      intro e
      exact h (by rw [e]; exact List.mem_cons_self)
    simp only [ZhL, List.map_cons, List.cons_append, Zsf, ZdQ, e] at ih ⊢
    simp only [ih, Option.map_some]
noncomputable abbrev B40 : Code := Zac Tryz.f35
noncomputable abbrev X40 : Code := sq1 (sq2 (sq2 B40))
noncomputable abbrev L40 : Code := inn (inn (sq2 X40))
noncomputable abbrev Yan : Code := sq1 B40
noncomputable abbrev Zy4 : Code := sq1 (sq2 B40)
noncomputable abbrev YaD : Code := sq1 X40
noncomputable abbrev YaF : Code := sq1 (sq2 (sq2 (sq2 B40)))
theorem Ybb : Tryz.f35.body = some (.seq Yan (.seq Zy4 (.seq (.seq YaD (.block 0 (.loop L40))) (.seq YaF .ret)))) := by kernel_rfl
theorem Yd4 : okC (C.ann 35) Yan = true ∧ okC (C.ann 35) Zy4 = true ∧ okC (C.ann 35) YaD = true ∧ okC (C.ann 35) L40 = true ∧ okC (C.ann 35) YaF = true := by
  refine ⟨?_, ?_, ?_, ?_, ?_⟩ <;> kernel_rfl
theorem m70 : C.isMap 60 = true := by kernel_rfl
theorem z70 : C.mapZero 60 = some (.slc []) := by kernel_rfl
theorem k70 (a : List UInt8) : C.keyOk 60 (.str a) = true := by
  have h : C.P.underlying 60 = some (.map 9 22) := by kernel_rfl
  have h2 : C.P.underlying 9 = some .string := by kernel_rfl
  simp only [Ctx.keyOk, h, h2]
def e40 (raw : List Cus) (i : Nat) : List (Nat × SV) := [(0, .val (.d (d44 raw))), (2, .val (.d .nilm)), (3, .val (.mp 1)), (7, .val (.d (d44 raw))), (8, .val (.d (.int .i64 raw.length))), (9, .val (.d (.int .i64 i)))]
section
attribute [local simp] List.getElem?_cons_zero Option.bind_some Zyu ZeX Zdi Zbw ZhR Zfo Zed ZnG Zh0 Zfr ZhY ZhT ZnD ZhJ ZcA ZbM Zmo ZaQ Zbb ZnA ZaZ ZcK Zep ZeF Zcl has opx opd opA opD XV.flat XV.copy oD oA Zad ins Zob ZhE St.put St.putOwn St.lose St.loseEnv unal Zld Zlc Zso dUn ZhO ZaC ZcG Zbu Zbo ZaX Zc6 ZbQ ZcE Zju ZbN AV.cells AV.cellOk AV.single DV.cellOk Zyr Zyp Zyw DV.cells ZaP ZfX ZaO ZcC ZaM Za4 Zlm Za0 ZeI mapO AV.toD ZaF Zcc Zfp optD ZcB Zbh ZgG Zaz Zch Zb6 ZaI Zer ZdM ZbJ St.trim Out.st
theorem Yb4 {call : Zaa} (raw : List Cus) (o : AObj) : evQ C call (ann 35) 0 Yan ⟨ZhC 0 [.d (d44 raw)], [], [o]⟩ = some (.norm ⟨[(0, .val (.d (d44 raw))), (2, .val (.d .nilm))], [], [o]⟩) := by
  unfold Yan B40 Zac Tryz.f35
  simp only [Option.getD_some, sq1, ZhC]
  simp [-getElem?_pos, A35, Zau]
theorem YbV {call : Zaa} (raw : List Cus) (o : AObj) : evQ C call (ann 35) 0 Zy4 ⟨[(0, .val (.d (d44 raw))), (2, .val (.d .nilm))], [], [o]⟩ = some (.norm ⟨[(0, .val (.d (d44 raw))), (2, .val (.d .nilm)), (3, .val (.mp 1))], [], [o, .map []]⟩) := by
  unfold Zy4 B40 Zac Tryz.f35
  simp only [Option.getD_some, sq1, sq2]
  simp [-getElem?_pos, A35, Zau, m70]
theorem Yby {call : Zaa} (raw : List Cus) (o : AObj) : evQ C call (ann 35) 0 YaD ⟨[(0, .val (.d (d44 raw))), (2, .val (.d .nilm)), (3, .val (.mp 1))], [], [o, .map []]⟩ = some (.norm ⟨e40 raw 0, [], [o, .map (ZhL [])]⟩) := by
  unfold YaD X40 B40 Zac Tryz.f35 e40 d44 ZhL
  simp only [Option.getD_some, sq1, sq2]
  simp [-getElem?_pos, A35, Zau, Zxu]
theorem YcT {call : Zaa} (raw : List Cus) (i : Nat) (x : Cus) (hx : raw[i]? = some x) (hl : raw.length < 2 ^ 40) (M : Mv) (hM : x.name ∉ M.map Prod.fst) (o : AObj) :
    evQ C call (ann 35) 0 L40 ⟨e40 raw i, [], [o, .map (ZhL M)]⟩ = some (.norm ⟨e40 raw (i + 1) ++ [(10, .val (.d (.bool true)))], [], [o, .map (ZhL (M ++ [(x.name, x.val)]))]⟩) := by
  have hlt : i < raw.length := (List.getElem?_eq_some_iff.1 hx).1
  have hw : IntKind.i64.wrap ((i : Int) + 1) = (i : Int) + 1 := Za6 (by omega)
  have hg := ZnV hx
  have hi := Yc2 hlt
  unfold L40 X40 B40 Zac Tryz.f35 e40 d44
  simp only [Option.getD_some, sq1, sq2, inn]
  simp [-getElem?_pos, A35, Zau, Zxu, hlt, hw, hg, hi, Yc1, YcV, YcW, Zjy, Zq2, hz9, Ya5, ag9, Ya4, z70, k70, ZgC _ _ M hM, St.trim, ZbJ, AV.cellOk, -List.getElem?_map]
theorem Ybt {call : Zaa} (raw : List Cus) (h : List AObj) : evQ C call (ann 35) 0 L40 ⟨e40 raw raw.length, [], h⟩ = some (.exit 0 ⟨e40 raw raw.length ++ [(10, .val (.d (.bool false)))], [], h⟩) := by
  unfold L40 X40 B40 Zac Tryz.f35 e40 d44
  simp only [Option.getD_some, sq1, sq2, inn]
  simp [-getElem?_pos, A35, Zau]
theorem YbL {call : Zaa} (raw : List Cus) (h : List AObj) (i : Nat) : evQ C call (ann 35) 0 YaF ⟨e40 raw i, [], h⟩ = some (.norm ⟨[(0, .val (.d (d44 raw))), (2, .val (.mp 1)), (3, .val (.mp 1)), (7, .val (.d (d44 raw))), (8, .val (.d (.int .i64 raw.length))), (9, .val (.d (.int .i64 i)))], [], h⟩) := by
  unfold YaF B40 Zac Tryz.f35 e40
  simp only [Option.getD_some, sq1, sq2]
  simp [-getElem?_pos, A35, Zau]
end
theorem Zj1 (raw : List Cus) : (Zon raw).map Prod.fst = raw.map Cus.name := by simp [Zon, List.map_map, Function.comp_def]
theorem Zvw (raw : List Cus) (hn : (raw.map Cus.name).Nodup) (hl : raw.length < 2 ^ 40) (o : AObj) : HasN Tryz.prog 35 [.d (d44 raw)] [o] (fun r h' => r = .mp 1 ∧ h' = [o, .map (ZhL (Zon raw))]) := by
  obtain ⟨k0, k1, k2, kL, k7⟩ := Yd4
  refine Zf6 (C := C) (f := 35) (fn := Tryz.f35) Tryz.func35 Ybb (by kernel_rfl) ?_
  refine ZaN (call := Zab C K0) Zai mixed Zar k0 (Yb4 raw o) ?_
  refine ZaN (call := Zab C K0) Zai mixed Zar k1 (YbV raw o) ?_
  refine Zhi (e := e40 raw raw.length) (h := [o, .map (ZhL (Zon raw))]) (ZaN (call := Zab C K0) Zai mixed Zar k2 (Yby raw o) (ZeO (ZiH (fun m s => ∃ i, i ≤ raw.length ∧ m = raw.length - i ∧ s = ⟨e40 raw i, [], [o, .map (ZhL ((Zon raw).take i))]⟩) (n := raw.length) ⟨0, Nat.zero_le _, rfl, rfl⟩ ?_))) ?_
  · rintro m s ⟨i, hi, rfl, rfl⟩
    rcases Nat.lt_or_ge i raw.length with hlt | hge
    · have hx := List.getElem?_eq_getElem hlt
      have hM : raw[i].name ∉ ((Zon raw).take i).map Prod.fst := by
        rw [List.map_take, Zj1, ← List.map_take]
        exact Zo1 hn hx
      refine ZcI (call := Zab C K0) Zai mixed Zar kL (YcT raw i _ hx hl _ hM o) ?_
      refine ⟨raw.length - (i + 1), ⟨e40 raw (i + 1), [], _⟩, by omega, ⟨i + 1, hlt, rfl, rfl⟩, fun k v hv => ?_, rfl, ?_⟩
      · exact ZaT hv
      · have : (Zon raw)[i]? = some (raw[i].name, raw[i].val) := by unfold Zon; rw [List.getElem?_map, hx]; rfl
        rw [Za3 this]
    · have he : i = raw.length := by omega
      subst he
      refine ZcI (call := Zab C K0) Zai mixed Zar kL (Ybt raw _) ?_
      simp only [Zba]
      refine ⟨_, rfl, ?_⟩
      rw [List.take_of_length_le (by simp [Zon])]
      refine sub_list (s := ⟨e40 raw raw.length ++ [(10, .val (.d (.bool false)))], [], [o, .map (ZhL (Zon raw))]⟩) fun p hp => ?_
      simp only [e40, List.mem_cons, List.not_mem_nil, or_false] at hp
      rcases hp with rfl | rfl | rfl | rfl | rfl | rfl <;> exact ⟨rfl, rfl⟩
  · refine ZaN (call := Zab C K0) Zai mixed Zar k7 (YbL raw _ _) ?_
    refine ZcI (call := Zab C K0) (n := 0) Zai mixed Zar rfl rfl ?_
    exact ⟨[.mp 1], rfl, rfl, rfl⟩
end Go.Tev.S1
namespace Go.Tev.S1
open Go.Abs Go.Proofs
noncomputable abbrev B25 : Code := Zac Tryz.f43
noncomputable abbrev S25 : Code := inn (sq2 B25)
noncomputable abbrev W25 : Code := sq1 (sq2 (sq2 (sq2 S25)))
noncomputable abbrev Zxp : Code := inn (inn (sq2 W25))
noncomputable abbrev Zy0 : Code := inn (sq2 (sq2 Zxp))
noncomputable abbrev T25 : Code := sq2 (sq2 (sq2 (sq2 (sq2 S25))))
noncomputable abbrev U25 : Code := sq1 T25
noncomputable abbrev Zgx : Code := inn (inn (sq2 U25))
noncomputable abbrev ZhF : Code := inn (sq1 (sq2 (sq2 Zgx)))
noncomputable abbrev Zh9 : Code := sq2 (sq2 ZhF)
noncomputable abbrev G25 : Code := sq1 (sq2 (sq2 (sq2 Zh9)))
noncomputable abbrev ZwC : Code := inn (inn (sq2 G25))
noncomputable abbrev ZyZ : Code := inn (sq2 (sq2 ZwC))
noncomputable abbrev ZxT : Code := sq2 (sq2 (sq2 (sq2 Zh9)))
noncomputable abbrev Yab : Code := sq2 ZxT
noncomputable abbrev N25 : Code := sq1 (sq2 (sq2 T25))
noncomputable abbrev ZoC : Code := inn (inn (sq2 N25))
noncomputable abbrev Yai : Code := sq1 B25
noncomputable abbrev Zk9 : Code := sq1 S25
noncomputable abbrev Yay : Code := sq1 (sq2 S25)
noncomputable abbrev Zk8 : Code := sq1 (sq2 (sq2 S25))
noncomputable abbrev Zor : Code := sq1 W25
noncomputable abbrev Zpr : Code := sq1 Zxp
noncomputable abbrev Zo0 : Code := sq1 Zy0
noncomputable abbrev Zzm : Code := sq2 Zy0
noncomputable abbrev Zxe : Code := sq1 U25
noncomputable abbrev ZuA : Code := sq1 Zgx
noncomputable abbrev Zuu : Code := sq2 (sq2 (sq2 Zgx))
noncomputable abbrev Ztw : Code := sq1 ZhF
noncomputable abbrev Zn4 : Code := sq1 (sq2 ZhF)
noncomputable abbrev ZtG : Code := sq1 Zh9
noncomputable abbrev ZuJ : Code := sq1 (sq2 Zh9)
noncomputable abbrev ZtC : Code := sq1 (sq2 (sq2 Zh9))
noncomputable abbrev Zjh : Code := sq1 G25
noncomputable abbrev Zjn : Code := sq1 ZwC
noncomputable abbrev ZiJ : Code := sq1 ZyZ
noncomputable abbrev Zt2 : Code := sq2 ZyZ
noncomputable abbrev ZqO : Code := sq1 ZxT
noncomputable abbrev Ztz : Code := sq1 Yab
noncomputable abbrev ZtW : Code := sq1 (sq2 Yab)
noncomputable abbrev ZuC : Code := sq1 (sq2 T25)
noncomputable abbrev Zsb : Code := sq1 N25
noncomputable abbrev Zur : Code := sq1 (sq2 (sq2 (sq2 T25)))
theorem Yb3 : Tryz.f43.body = some (.seq Yai (.scope S25)) := by kernel_rfl
noncomputable abbrev YaK : Code := .seq (.region 4 (Go.Abs.ops Zor) false) (.block 0 (.loop (.seq (.region 5 (Go.Abs.ops Zpr) false) (.seq (.cond (.tmp 32) .skip (.exit 0)) (.block 1 (.seq (.region 6 (Go.Abs.ops Zo0) false) Zzm))))))
noncomputable abbrev YaP : Code := .seq (.region 17 (Go.Abs.ops Zjh) false) (.block 4 (.loop (.seq (.region 18 (Go.Abs.ops Zjn) false) (.seq (.cond (.tmp 62) .skip (.exit 4)) (.block 5 (.seq (.region 19 (Go.Abs.ops ZiJ) false) Zt2))))))
noncomputable abbrev BD25 : Code := .seq Ztw (.seq Zn4 (.seq ZtG (.seq ZuJ (.seq ZtC (.seq YaP (.seq ZqO (.seq Ztz (.seq ZtW (.goto 0)))))))))
noncomputable abbrev LP25 : Code := .block 2 (.loop (.seq ZuA (.seq (.cond (.tmp 42) .skip (.exit 2)) (.seq (.block 3 BD25) Zuu))))
noncomputable abbrev YdZ : Code := .seq (.seq Zxe LP25) (.seq ZuC (.seq (.seq Zsb (.block 6 (.loop ZoC))) (.seq Zur .ret)))
theorem YaA : S25 = .seq (.region 1 (Go.Abs.ops Zk9) false) (.seq Yay (.seq (.region 3 (Go.Abs.ops Zk8) false) (.seq YaK (.seq (.label 0) YdZ)))) := by kernel_rfl
theorem ZtX : okC (C.ann 43) Yai = true ∧ okC (C.ann 43) Yay = true ∧ okC (C.ann 43) Zzm = true ∧ okC (C.ann 43) Zxe = true ∧ okC (C.ann 43) ZuA = true ∧ okC (C.ann 43) Ztw = true ∧ okC (C.ann 43) Zn4 = true ∧ okC (C.ann 43) ZtG = true ∧ okC (C.ann 43) ZuJ = true := by
  refine ⟨?_, ?_, ?_, ?_, ?_, ?_, ?_, ?_, ?_⟩ <;> kernel_rfl
theorem Zsd : okC (C.ann 43) ZtC = true ∧ okC (C.ann 43) Zt2 = true ∧ okC (C.ann 43) ZqO = true ∧ okC (C.ann 43) Ztz = true ∧ okC (C.ann 43) ZtW = true ∧ okC (C.ann 43) Zuu = true ∧ okC (C.ann 43) ZuC = true ∧ okC (C.ann 43) Zsb = true ∧ okC (C.ann 43) ZoC = true ∧ okC (C.ann 43) Zur = true := by
  refine ⟨?_, ?_, ?_, ?_, ?_, ?_, ?_, ?_, ?_, ?_⟩ <;> kernel_rfl
def E25 (raw : List Cus) (D : Bm) : List (Nat × SV) := [(0, .val (.d (d44 raw))), (2, .val (.d (.slc []))), (3, .val (.d (.fmap (ZfQ D)))), (4, .val (.mp 0)), (5, .val (.mp 1))]
def H25 (Sv Op : Mv) : List AObj := [.map (ZhL Sv), .map (ZhL Op)]
theorem ZdY (a : List UInt8) : ∀ M : Mv, Zga (.str a) (ZhL M) = some ((Za5 BEq.beq a M).map fun v => .d (.slc (v.map Val.enc)))
  | [] => rfl
  | (k, u) :: r => by
    have ih := ZdY a r
    simp only [ZhL, List.map_cons, Zga, ZdQ, Za5] at ih ⊢
    cases (a == k)
    · simpa using ih
    · rfl
def rmv (a : List UInt8) (M : Mv) : Mv := M.filter fun p => !(a == p.1)
theorem Zln (a : List UInt8) : ∀ M : Mv, (M.map Prod.fst).Nodup → Zyn (.str a) (ZhL M) = some (ZhL (rmv a M))
  | [], _ => rfl
  | (k, u) :: r, h => by
    rw [List.map_cons, List.nodup_cons] at h
    have ih := Zln a r h.2
    simp only [ZhL, List.map_cons, Zyn, ZdQ, rmv] at ih ⊢
    cases e : (a == k) with
    | false =>
      simp only [ih, Option.map_some, List.filter_cons, e, Bool.not_false, if_true, List.map_cons]
    | true =>
      rw [beq_iff_eq] at e
      subst e
      have : r.filter (fun p => !(a == p.1)) = r := by
        rw [List.filter_eq_self]
        intro p hp
        have : a ≠ p.1 := fun e => h.1 (by rw [e]; exact List.mem_map.2 ⟨p, hp, rfl⟩)
        simpa using this
      simp only [List.filter_cons, beq_self_eq_true, Bool.not_true, Bool.false_eq_true, if_false, this]
section
attribute [local simp] List.getElem?_cons_zero Option.bind_some Zyu ZeX Zdi Zbw ZhR Zfo Zed ZnG Zh0 Zfr ZhY ZhT ZnD ZhJ ZcA ZbM Zmo ZaQ Zbb ZnA ZaZ ZcK Zep ZeF Zcl has opx opd opA opD XV.flat XV.copy oD oA Zad ins Zob ZhE St.put St.putOwn St.lose St.loseEnv unal Zld Zlc Zso dUn ZhO ZaC ZcG Zbu Zbo ZaX Zc6 ZbQ ZcE Zju ZbN AV.cells AV.cellOk AV.single DV.cellOk Zyr Zyp Zyw DV.cells ZaP ZfX ZaO ZcC ZaM Za4 Zlm Za0 ZeI mapO AV.toD ZaF Zcc Zfp optD ZcB Zbh ZgG Zaz Zch Zb6 ZaI Zer ZdM ZbJ St.trim Out.st
theorem Ycb {call : Zaa} (raw : List Cus) : evQ C call (ann 43) 0 Yai ⟨ZhC 0 [.d (d44 raw)], [], []⟩ = some (.norm ⟨[(0, .val (.d (d44 raw))), (2, .val (.d (.slc [])))], [], []⟩) := by
  unfold Yai B25 Zac Tryz.f43
  simp only [Option.getD_some, sq1, ZhC]
  simp [-getElem?_pos, A43, Zau]
theorem Yee : (Go.Abs.ops Zk9).toList = (opsL Zk9).take 1 ++ (opsL Zk9).getD 1 (op0 []) :: (opsL Zk9).drop 2 := by kernel_rfl
theorem o25_1 : ((opsL Zk9).getD 1 (op0 [])).guard = none ∧ ((opsL Zk9).getD 1 (op0 [])).dst = some 25 ∧ ((opsL Zk9).getD 1 (op0 [])).op = .call { callee := .value (.func 62), args := #[.tmp 24], argTypes := #[23] } := by
  refine ⟨?_, ?_, ?_⟩ <;> kernel_rfl
theorem Yd3 : (Go.Abs.ops Zk8).toList = (opsL Zk8).take 1 ++ (opsL Zk8).getD 1 (op0 []) :: (opsL Zk8).drop 2 := by kernel_rfl
theorem o25_3 : ((opsL Zk8).getD 1 (op0 [])).guard = none ∧ ((opsL Zk8).getD 1 (op0 [])).dst = some 28 ∧ ((opsL Zk8).getD 1 (op0 [])).op = .call { callee := .value (.func 35), args := #[.tmp 27], argTypes := #[23] } := by
  refine ⟨?_, ?_, ?_⟩ <;> kernel_rfl
theorem YbS {call : Zaa} {all : List Oper} (raw : List Cus) : Zau C call (ann 43) all ((opsL Zk9).take 1) ⟨[(0, .val (.d (d44 raw))), (2, .val (.d (.slc [])))], [], []⟩ = some ⟨[(0, .val (.d (d44 raw))), (2, .val (.d (.slc [])))], [(24, .a (.d (d44 raw)))], []⟩ := by
  unfold opsL Go.Abs.ops Zk9 S25 B25 Zac Tryz.f43
  simp only [Option.getD_some, sq1, sq2, inn]
  simp [-getElem?_pos, A43, Zau]
theorem ZyG {call : Zaa} {all : List Oper} (raw : List Cus) (D : Bm) : Zau C call (ann 43) all ((opsL Zk9).drop 2) ⟨[(0, .val (.d (d44 raw))), (2, .val (.d (.slc [])))], [(25, .a (.d (.fmap (ZfQ D)))), (24, .a (.d (d44 raw)))], []⟩ =
    some ⟨[(0, .val (.d (d44 raw))), (2, .val (.d (.slc []))), (3, .val (.d (.fmap (ZfQ D))))], [(25, .a (.d (.fmap (ZfQ D)))), (24, .a (.d (d44 raw)))], []⟩ := by
  unfold opsL Go.Abs.ops Zk9 S25 B25 Zac Tryz.f43
  simp only [Option.getD_some, sq1, sq2, inn]
  simp [-getElem?_pos, A43, Zau]
theorem YbH {call : Zaa} (raw : List Cus) (D : Bm) : evQ C call (ann 43) 0 Yay ⟨[(0, .val (.d (d44 raw))), (2, .val (.d (.slc []))), (3, .val (.d (.fmap (ZfQ D))))], [], []⟩ = some (.norm ⟨[(0, .val (.d (d44 raw))), (2, .val (.d (.slc []))), (3, .val (.d (.fmap (ZfQ D)))), (4, .val (.mp 0))], [], [.map []]⟩) := by
  unfold Yay S25 B25 Zac Tryz.f43
  simp only [Option.getD_some, sq1, sq2, inn]
  simp [-getElem?_pos, A43, Zau, m70]
theorem Ych {call : Zaa} {all : List Oper} (raw : List Cus) (D : Bm) : Zau C call (ann 43) all ((opsL Zk8).take 1) ⟨[(0, .val (.d (d44 raw))), (2, .val (.d (.slc []))), (3, .val (.d (.fmap (ZfQ D)))), (4, .val (.mp 0))], [], [.map []]⟩ =
    some ⟨[(0, .val (.d (d44 raw))), (2, .val (.d (.slc []))), (3, .val (.d (.fmap (ZfQ D)))), (4, .val (.mp 0))], [(27, .a (.d (d44 raw)))], [.map []]⟩ := by
  unfold opsL Go.Abs.ops Zk8 S25 B25 Zac Tryz.f43
  simp only [Option.getD_some, sq1, sq2, inn]
  simp [-getElem?_pos, A43, Zau]
theorem Zyy {call : Zaa} {all : List Oper} (raw : List Cus) (D : Bm) (h : List AObj) : Zau C call (ann 43) all ((opsL Zk8).drop 2) ⟨[(0, .val (.d (d44 raw))), (2, .val (.d (.slc []))), (3, .val (.d (.fmap (ZfQ D)))), (4, .val (.mp 0))], [(28, .a (.mp 1)), (27, .a (.d (d44 raw)))], h⟩ =
    some ⟨E25 raw D, [(28, .a (.mp 1)), (27, .a (.d (d44 raw)))], h⟩ := by
  unfold opsL Go.Abs.ops Zk8 S25 B25 Zac Tryz.f43 E25
  simp only [Option.getD_some, sq1, sq2, inn]
  simp [-getElem?_pos, A43, Zau]
theorem Yej : (Go.Abs.ops Zor).toList = (opsL Zor).take 1 ++ [opZ (opsL Zor)] := by kernel_rfl
theorem o25_4 : (opZ (opsL Zor)).op = .range 62 (.tmp 29) ∧ (opZ (opsL Zor)).guard = none ∧ (opZ (opsL Zor)).dst = some 30 := by
  refine ⟨?_, ?_, ?_⟩ <;> kernel_rfl
theorem Yb0 {call : Zaa} {all : List Oper} (raw : List Cus) (D : Bm) (h : List AObj) : Zau C call (ann 43) all ((opsL Zor).take 1) ⟨E25 raw D, [], h⟩ = some ⟨E25 raw D, [(29, .a (.d (.fmap (ZfQ D))))], h⟩ := by
  unfold opsL Go.Abs.ops Zor W25 S25 B25 Zac Tryz.f43 E25
  simp only [Option.getD_some, sq1, sq2, inn]
  simp [-getElem?_pos, A43, Zau]
theorem Yek : (Go.Abs.ops Zpr).toList = op0 (opsL Zpr) :: (opsL Zpr).drop 1 := by kernel_rfl
theorem o25_5 : (op0 (opsL Zpr)).op = .next (.tmp 30) false ∧ (op0 (opsL Zpr)).guard = none ∧ (op0 (opsL Zpr)).dst = some 31 := by
  refine ⟨?_, ?_, ?_⟩ <;> kernel_rfl
theorem Yet : (Go.Abs.ops Zo0).toList = op0 (opsL Zo0) :: (opsL Zo0).drop 1 := by kernel_rfl
theorem o25_6 : (op0 (opsL Zo0)).op = .entry (.tmp 30) ∧ (op0 (opsL Zo0)).guard = none ∧ (op0 (opsL Zo0)).dst = some 33 := by
  refine ⟨?_, ?_, ?_⟩ <;> kernel_rfl
def Zv2 (raw : List Cus) (D : Bm) (p : Value) : List (Nat × SV) := E25 raw D ++ [(30, .val (.raw p))]
theorem Zxl {call : Zaa} {all : List Oper} (raw : List Cus) (D : Bm) (p : Value) (h : List AObj) (b : Bool) (vs : List DV) :
    Zau C call (ann 43) all ((opsL Zpr).drop 1) ⟨Zv2 raw D p, [(31, .a (.d (.tup (.bool b :: vs))))], h⟩ = some ⟨Zv2 raw D p ++ [(32, .val (.d (.bool b)))], [(31, .a (.d (.tup (.bool b :: vs))))], h⟩ := by
  unfold opsL Go.Abs.ops Zpr Zxp W25 S25 B25 Zac Tryz.f43 Zv2 E25
  simp only [Option.getD_some, sq1, sq2, inn]
  simp [-getElem?_pos, A43, Zau]
theorem Ybi {call : Zaa} {all : List Oper} (raw : List Cus) (D : Bm) (p : Value) (h : List AObj) (k v : DV) :
    Zau C call (ann 43) all ((opsL Zo0).drop 1) ⟨Zv2 raw D p ++ [(32, .val (.d (.bool true)))], [(33, .a (.d (.tup [k, v])))], h⟩ = some ⟨Zv2 raw D p ++ [(32, .val (.d (.bool true))), (6, .val (.d k)), (7, .val (.d v))], [(35, .a (.d v)), (34, .a (.d k)), (33, .a (.d (.tup [k, v])))], h⟩ := by
  unfold opsL Go.Abs.ops Zo0 Zy0 Zxp W25 S25 B25 Zac Tryz.f43 Zv2 E25
  simp only [Option.getD_some, sq1, sq2, inn]
  simp [-getElem?_pos, A43, Zau]
theorem YbW {call : Zaa} (raw : List Cus) (D : Bm) (p : Value) (Sv Op : Mv) (hO : (Op.map Prod.fst).Nodup) (a : List UInt8) (b : Bool) :
    evQ C call (ann 43) 0 Zzm ⟨Zv2 raw D p ++ [(32, .val (.d (.bool true))), (6, .val (.d (.str a))), (7, .val (.d (.bool b)))], [], H25 Sv Op⟩ =
      some (.norm ⟨Zv2 raw D p ++ [(32, .val (.d (.bool true))), (6, .val (.d (.str a))), (7, .val (.d (.bool b))), (36, .val (.d (.bool b)))], [], H25 Sv (bif b then rmv a Op else Op)⟩) := by
  unfold Zzm Zy0 Zxp W25 S25 B25 Zac Tryz.f43 Zv2 E25 H25
  simp only [Option.getD_some, sq1, sq2, inn]
  cases b
  · simp [-getElem?_pos, A43, Zau]
  · simp [-getElem?_pos, A43, Zau, Zhl, z70, k70, Zln a Op hO]
end
end Go.Tev.S1
namespace Go.Tev.S1
open Go.Abs Go.Proofs
def F25 (raw : List Cus) (D : Bm) (i : Nat) : List (Nat × SV) := E25 raw D ++ [(39, .val (.d (d44 raw))), (40, .val (.d (.int .i64 raw.length))), (41, .val (.d (.int .i64 i)))]
def x25 (x : Cus) : Nat × SV := (9, .box [.str x.name, .slc (x.val.map Val.enc)])
section
attribute [local simp] List.getElem?_cons_zero Option.bind_some Zyu ZeX Zdi Zbw ZhR Zfo Zed ZnG Zh0 Zfr ZhY ZhT ZnD ZhJ ZcA ZbM Zmo ZaQ Zbb ZnA ZaZ ZcK Zep ZeF Zcl has opx opd opA opD XV.flat XV.copy oD oA Zad ins Zob ZhE St.put St.putOwn St.lose St.loseEnv unal Zld Zlc Zso dUn ZhO ZaC ZcG Zbu Zbo ZaX Zc6 ZbQ ZcE Zju ZbN AV.cells AV.cellOk AV.single DV.cellOk Zyr Zyp Zyw DV.cells ZaP ZfX ZaO ZcC ZaM Za4 Zlm Za0 ZeI mapO AV.toD ZaF Zcc Zfp optD ZcB Zbh ZgG Zaz Zch Zb6 ZaI Zer ZdM ZbJ St.trim Out.st
theorem YcH {call : Zaa} (raw : List Cus) (D : Bm) (h : List AObj) : evQ C call (ann 43) 0 Zxe ⟨E25 raw D, [], h⟩ = some (.norm ⟨F25 raw D 0, [], h⟩) := by
  unfold Zxe U25 T25 S25 B25 Zac Tryz.f43 F25 E25 d44
  simp only [Option.getD_some, sq1, sq2, inn]
  simp [-getElem?_pos, A43, Zau, Zxu]
theorem Zz1 {call : Zaa} (raw : List Cus) (D : Bm) (i : Nat) (h : List AObj) : evQ C call (ann 43) 0 ZuA ⟨F25 raw D i, [], h⟩ = some (.norm ⟨F25 raw D i ++ [(42, .val (.d (.bool (decide ((i : Int) < (raw.length : Int))))))], [], h⟩) := by
  unfold ZuA Zgx U25 T25 S25 B25 Zac Tryz.f43 F25 E25
  simp only [Option.getD_some, sq1, sq2, inn]
  simp [-getElem?_pos, A43, Zau]
theorem Zzy {call : Zaa} (raw : List Cus) (D : Bm) (i : Nat) (hl : i + 1 < 2 ^ 63) (v : SV) (h : List AObj) : evQ C call (ann 43) 0 Zuu ⟨F25 raw D i ++ [(42, v)], [], h⟩ = some (.norm ⟨F25 raw D (i + 1) ++ [(42, v)], [], h⟩) := by
  have hw : IntKind.i64.wrap ((i : Int) + 1) = (i : Int) + 1 := Za6 hl
  unfold Zuu Zgx U25 T25 S25 B25 Zac Tryz.f43 F25 E25
  simp only [Option.getD_some, sq1, sq2, inn]
  simp [-getElem?_pos, A43, Zau, hw]
theorem Yaz {call : Zaa} (raw : List Cus) (D : Bm) (i : Nat) (x : Cus) (hx : raw[i]? = some x) (v : SV) (h : List AObj) : evQ C call (ann 43) 0 Ztw ⟨F25 raw D i ++ [(42, v)], [], h⟩ = some (.norm ⟨F25 raw D i ++ [(42, v), x25 x], [], h⟩) := by
  have hlt : i < raw.length := (List.getElem?_eq_some_iff.1 hx).1
  have hg := ZnV hx
  have hi := Yc2 hlt
  unfold Ztw ZhF Zgx U25 T25 S25 B25 Zac Tryz.f43 F25 E25 x25 d44
  simp only [Option.getD_some, sq1, sq2, inn]
  simp [-getElem?_pos, A43, Zau, Zxu, hg, hi, Yc1, YcV, YcW, -List.getElem?_map]
theorem Zv8 {call : Zaa} (raw : List Cus) (D : Bm) (i : Nat) (x : Cus) (v : SV) (Sv Op : Mv) (hO : Za5 BEq.beq x.name Op = none) : evQ C call (ann 43) 0 Zn4 ⟨F25 raw D i ++ [(42, v), x25 x], [], H25 Sv Op⟩ =
    some (.exit 3 ⟨F25 raw D i ++ [(42, v), x25 x, (11, .val (.d (.bool false))), (53, .val (.d (.bool true)))], [], H25 Sv Op⟩) := by
  unfold Zn4 ZhF Zgx U25 T25 S25 B25 Zac Tryz.f43 F25 E25 x25 H25
  simp only [Option.getD_some, sq1, sq2, inn]
  simp [-getElem?_pos, A43, Zau, Zjy, hz9, ag9, Zbf, z70, k70, ZdY, hO]
theorem ZwV {call : Zaa} (raw : List Cus) (D : Bm) (i : Nat) (x : Cus) (v : SV) (Sv Op : Mv) {u : List Val} (hO : Za5 BEq.beq x.name Op = some u) : evQ C call (ann 43) 0 Zn4 ⟨F25 raw D i ++ [(42, v), x25 x], [], H25 Sv Op⟩ =
    some (.norm ⟨F25 raw D i ++ [(42, v), x25 x, (11, .val (.d (.bool true))), (53, .val (.d (.bool false)))], [], H25 Sv Op⟩) := by
  unfold Zn4 ZhF Zgx U25 T25 S25 B25 Zac Tryz.f43 F25 E25 x25 H25
  simp only [Option.getD_some, sq1, sq2, inn]
  simp [-getElem?_pos, A43, Zau, Zjy, hz9, ag9, Zbf, z70, k70, ZdY, hO, ZdM, ZeI, mapO, AV.toD]
def b25 (raw : List Cus) (D : Bm) (i : Nat) (x : Cus) : List (Nat × SV) := F25 raw D i ++ [(42, .val (.d (.bool true))), x25 x, (11, .val (.d (.bool true))), (53, .val (.d (.bool false)))]
theorem ZzI {call : Zaa} (raw : List Cus) (D : Bm) (i : Nat) (x : Cus) (Sv Op : Mv) : evQ C call (ann 43) 0 ZtG ⟨b25 raw D i x, [], H25 Sv Op⟩ = some (.norm ⟨b25 raw D i x ++ [(12, .val (.mp 2))], [], H25 Sv Op ++ [.map []]⟩) := by
  unfold ZtG Zh9 ZhF Zgx U25 T25 S25 B25 Zac Tryz.f43 b25 F25 E25 x25 H25
  simp only [Option.getD_some, sq1, sq2, inn]
  simp [-getElem?_pos, A43, Zau, Yca]
theorem YaG {call : Zaa} (raw : List Cus) (D : Bm) (i : Nat) (x : Cus) (Sv Op : Mv) (h' : List AObj) (h34 : call 36 [.d (.slc (x.val.map Val.enc)), .mp 2] [.map (ZhL Sv), .map (ZhL Op), .map []] = some (.d (.tup []), h')) :
    evQ C call (ann 43) 0 ZuJ ⟨b25 raw D i x ++ [(12, .val (.mp 2))], [], H25 Sv Op ++ [.map []]⟩ = some (.norm ⟨b25 raw D i x ++ [(12, .val (.mp 2))], [], h'⟩) := by
  unfold ZuJ Zh9 ZhF Zgx U25 T25 S25 B25 Zac Tryz.f43 b25 F25 E25 x25 H25
  simp only [Option.getD_some, sq1, sq2, inn]
  simp [-getElem?_pos, A43, Zau, Zq2, Ya5, Ya4, Zig, AV.toD, h34]
theorem ZyF {call : Zaa} (raw : List Cus) (D : Bm) (i : Nat) (x : Cus) (u : SV) (h : List AObj) : evQ C call (ann 43) 0 ZtC ⟨b25 raw D i x ++ [(12, u)], [], h⟩ = some (.norm ⟨b25 raw D i x ++ [(12, u), (13, .val (.d (.bool false)))], [], h⟩) := by
  unfold ZtC Zh9 ZhF Zgx U25 T25 S25 B25 Zac Tryz.f43 b25 F25 E25 x25
  simp only [Option.getD_some, sq1, sq2, inn]
  simp [-getElem?_pos, A43, Zau]
def c25 (raw : List Cus) (D : Bm) (i : Nat) (x : Cus) (b : Bool) : List (Nat × SV) := b25 raw D i x ++ [(12, .val (.d (.fmap (ZfQ (Zen [] x.val))))), (13, .val (.d (.bool b)))]
theorem Ydi : (Go.Abs.ops Zjh).toList = (opsL Zjh).take 1 ++ [opZ (opsL Zjh)] := by kernel_rfl
theorem o25_17 : (opZ (opsL Zjh)).op = .range 62 (.tmp 59) ∧ (opZ (opsL Zjh)).guard = none ∧ (opZ (opsL Zjh)).dst = some 60 := by
  refine ⟨?_, ?_, ?_⟩ <;> kernel_rfl
theorem Zze {call : Zaa} {all : List Oper} (raw : List Cus) (D : Bm) (i : Nat) (x : Cus) (b : Bool) (h : List AObj) : Zau C call (ann 43) all ((opsL Zjh).take 1) ⟨c25 raw D i x b, [], h⟩ = some ⟨c25 raw D i x b, [(59, .a (.d (.fmap (ZfQ (Zen [] x.val)))))], h⟩ := by
  unfold opsL Go.Abs.ops Zjh G25 Zh9 ZhF Zgx U25 T25 S25 B25 Zac Tryz.f43 c25 b25 F25 E25 x25
  simp only [Option.getD_some, sq1, sq2, inn]
  simp [-getElem?_pos, A43, Zau]
theorem YdP : (Go.Abs.ops Zjn).toList = op0 (opsL Zjn) :: (opsL Zjn).drop 1 := by kernel_rfl
theorem o25_18 : (op0 (opsL Zjn)).op = .next (.tmp 60) false ∧ (op0 (opsL Zjn)).guard = none ∧ (op0 (opsL Zjn)).dst = some 61 := by
  refine ⟨?_, ?_, ?_⟩ <;> kernel_rfl
theorem YdQ : (Go.Abs.ops ZiJ).toList = op0 (opsL ZiJ) :: (opsL ZiJ).drop 1 := by kernel_rfl
theorem o25_19 : (op0 (opsL ZiJ)).op = .entry (.tmp 60) ∧ (op0 (opsL ZiJ)).guard = none ∧ (op0 (opsL ZiJ)).dst = some 63 := by
  refine ⟨?_, ?_, ?_⟩ <;> kernel_rfl
def g25 (raw : List Cus) (D : Bm) (i : Nat) (x : Cus) (b : Bool) (p : Value) : List (Nat × SV) := c25 raw D i x b ++ [(60, .val (.raw p))]
theorem Zus {call : Zaa} {all : List Oper} (raw : List Cus) (D : Bm) (i : Nat) (x : Cus) (bb : Bool) (p : Value) (h : List AObj) (b : Bool) (vs : List DV) :
    Zau C call (ann 43) all ((opsL Zjn).drop 1) ⟨g25 raw D i x bb p, [(61, .a (.d (.tup (.bool b :: vs))))], h⟩ = some ⟨g25 raw D i x bb p ++ [(62, .val (.d (.bool b)))], [(61, .a (.d (.tup (.bool b :: vs))))], h⟩ := by
  unfold opsL Go.Abs.ops Zjn ZwC G25 Zh9 ZhF Zgx U25 T25 S25 B25 Zac Tryz.f43 g25 c25 b25 F25 E25 x25
  simp only [Option.getD_some, sq1, sq2, inn]
  simp [-getElem?_pos, A43, Zau]
theorem Zz5 {call : Zaa} {all : List Oper} (raw : List Cus) (D : Bm) (i : Nat) (x : Cus) (bb : Bool) (p : Value) (h : List AObj) (k v : DV) :
    Zau C call (ann 43) all ((opsL ZiJ).drop 1) ⟨g25 raw D i x bb p ++ [(62, .val (.d (.bool true)))], [(63, .a (.d (.tup [k, v])))], h⟩ = some ⟨g25 raw D i x bb p ++ [(62, .val (.d (.bool true))), (14, .val (.d k))], [(64, .a (.d k)), (63, .a (.d (.tup [k, v])))], h⟩ := by
  unfold opsL Go.Abs.ops ZiJ ZyZ ZwC G25 Zh9 ZhF Zgx U25 T25 S25 B25 Zac Tryz.f43 g25 c25 b25 F25 E25 x25
  simp only [Option.getD_some, sq1, sq2, inn]
  simp [-getElem?_pos, A43, Zau]
theorem Zy1 {call : Zaa} (raw : List Cus) (D : Bm) (i : Nat) (x : Cus) (bb : Bool) (p : Value) (Sv Op : Mv) (nm : List UInt8) :
    evQ C call (ann 43) 0 Zt2 ⟨g25 raw D i x bb p ++ [(62, .val (.d (.bool true))), (14, .val (.d (.str nm)))], [], H25 Sv Op⟩ =
      some (.norm ⟨g25 raw D i x (bb || (Za5 BEq.beq nm Op).isSome) p ++ [(62, .val (.d (.bool true))), (14, .val (.d (.str nm))), (16, .val (.d (.bool (Za5 BEq.beq nm Op).isSome))), (71, .val (.d (.bool (Za5 BEq.beq nm Op).isSome)))], [], H25 Sv Op⟩) := by
  unfold Zt2 ZyZ ZwC G25 Zh9 ZhF Zgx U25 T25 S25 B25 Zac Tryz.f43 g25 c25 b25 F25 E25 x25 H25
  simp only [Option.getD_some, sq1, sq2, inn]
  cases hO : Za5 BEq.beq nm Op with
  | none => simp [-getElem?_pos, A43, Zau, Zbf, z70, k70, ZdY, hO, ZdM, ZeI, mapO, AV.toD]
  | some u => simp [-getElem?_pos, A43, Zau, Zbf, z70, k70, ZdY, hO, ZdM, ZeI, mapO, AV.toD]
theorem Zuj {call : Zaa} (raw : List Cus) (D : Bm) (i : Nat) (x : Cus) (h : List AObj) : evQ C call (ann 43) 0 ZqO ⟨c25 raw D i x false, [], h⟩ = some (.norm ⟨c25 raw D i x false ++ [(72, .val (.d (.bool false)))], [], h⟩) ∧
    evQ C call (ann 43) 0 ZqO ⟨c25 raw D i x true, [], h⟩ = some (.exit 3 ⟨c25 raw D i x true ++ [(72, .val (.d (.bool true)))], [], h⟩) := by
  unfold ZqO ZxT Zh9 ZhF Zgx U25 T25 S25 B25 Zac Tryz.f43 c25 b25 F25 E25 x25
  simp only [Option.getD_some, sq1, sq2, inn]
  constructor <;> simp [-getElem?_pos, A43, Zau]
theorem Yaa {call : Zaa} (raw : List Cus) (D : Bm) (i : Nat) (x : Cus) (Sv Op : Mv) (hO : (Op.map Prod.fst).Nodup) : evQ C call (ann 43) 0 Ztz ⟨c25 raw D i x false ++ [(72, .val (.d (.bool false)))], [], H25 Sv Op⟩ = some (.norm ⟨c25 raw D i x false ++ [(72, .val (.d (.bool false)))], [], H25 Sv (rmv x.name Op)⟩) := by
  unfold Ztz Yab ZxT Zh9 ZhF Zgx U25 T25 S25 B25 Zac Tryz.f43 c25 b25 F25 E25 x25 H25
  simp only [Option.getD_some, sq1, sq2, inn]
  simp [-getElem?_pos, A43, Zau, Zjy, hz9, ag9, Zhl, z70, k70, Zln _ Op hO]
def YcU (Sv : Mv) : List (DV × DV) := Sv.map fun p => (.str p.1, .slc (p.2.map Val.enc))
end
theorem ZtI {α β γ : Type} {f : β → Option γ} {g : α → β} {k : α → γ} (h : ∀ x, f (g x) = some (k x)) : ∀ l : List α, mapO f (l.map g) = some (l.map k)
  | [] => rfl
  | x :: r => by
    have ih := ZtI h r
    rw [List.map_cons, List.map_cons]
    simp only [mapO, h, ih]
theorem Yeb (d : DV) : (AV.d d).toD = some d := by simp [AV.toD]
theorem Zxz (Sv : Mv) : mapO (fun e : DV × AV => e.2.toD.map fun v => (e.1, v)) (ZhL Sv) = some (YcU Sv) :=
  ZtI (fun p => by show (AV.d _).toD.map _ = _; rw [Yeb]; rfl) Sv
theorem Ydd (v : List Val) : DV.noMapL (v.map Val.enc) = true := by
  have := ok.noMap 22 v rfl
  exact this
end Go.Tev.S1
namespace Go.Tev.S1
open Go.Abs Go.Proofs
def d25 (raw : List Cus) (D : Bm) (i : Nat) (x : Cus) : List (Nat × SV) := c25 raw D i x false ++ [(72, .val (.d (.bool false)))]
theorem ZwD (Sv Op : Mv) (u : DV) : ZdR [.map (ZhL Sv), .map (ZhL Op)] [.d u, .mp 0] = some ([u, .fmap (YcU Sv)], 1) := by
  have h : Zqs [.map (ZhL Sv), .map (ZhL Op)] (.mp 0) = some (.fmap (YcU Sv), 1) := by
    show (mapO (fun e : DV × AV => e.2.toD.map fun v => (e.1, v)) (ZhL Sv)).map (fun l => (DV.fmap l, 1)) = _
    rw [Zxz]; rfl
  simp only [ZdR, h]
  rfl
theorem ZsD (v : List Val) (e : Int) : Zr7 1 (.tup [.slc (v.map Val.enc), .int .i64 e]) = true := by
  simp only [Zr7, DV.noMap, DV.noMapL, Ydd, Bool.and_self]
section
attribute [local simp] List.getElem?_cons_zero Option.bind_some Zyu ZeX Zdi Zbw ZhR Zfo Zed ZnG Zh0 Zfr ZhY ZhT ZnD ZhJ ZcA ZbM Zmo ZaQ Zbb ZnA ZaZ ZcK Zep ZeF Zcl has opx opd opA opD XV.flat XV.copy oD oA Zad ins Zob ZhE St.put St.putOwn St.lose St.loseEnv unal Zld Zlc Zso dUn ZhO ZaC ZcG Zbu Zbo ZaX Zc6 ZbQ ZcE Zju ZbN AV.cells AV.cellOk AV.single DV.cellOk Zyr Zyp Zyw DV.cells ZaP ZfX ZaO ZcC ZaM Za4 Zlm Za0 ZeI mapO AV.toD ZaF Zcc Zfp optD ZcB Zbh ZgG Zaz Zch Zb6 ZaI Zer ZdM ZbJ St.trim Out.st
theorem Zzf {call : Zaa} (raw : List Cus) (D : Bm) (i : Nat) (x : Cus) (Sv Op : Mv) (v : List Val) (e n : Int) (hS : x.name ∉ Sv.map Prod.fst)
    (h39 : ZcL call false 34 [.slc (x.val.map Val.enc), .fmap (YcU Sv)] = some (.tup [.slc (v.map Val.enc), .int .i64 e])) (h30 : e = 0 → ZcL call true 44 [.slc (v.map Val.enc)] = some (.int .i64 n)) :
    evQ C call (ann 43) 0 ZtW ⟨d25 raw D i x, [], H25 Sv Op⟩ = some (.norm ⟨d25 raw D i x ++ [(17, .val (.d (.slc (v.map Val.enc)))), (18, .val (.d (.int .i64 e))), (89, .val (.d (.bool (decide (e = 0) && decide (n ≤ 2000)))))], [], H25 (bif decide (e = 0) && decide (n ≤ 2000) then Sv ++ [(x.name, v)] else Sv) Op⟩) := by
  unfold ZtW Yab ZxT Zh9 ZhF Zgx U25 T25 S25 B25 Zac Tryz.f43 d25 c25 b25 F25 E25 x25 H25
  simp only [Option.getD_some, sq1, sq2, inn]
  by_cases he : e = 0
  · subst he
    have h30 := h30 rfl
    by_cases hn : n ≤ 2000
    · simp [-getElem?_pos, A43, Zau, Zjy, Zq2, hz9, Ya5, ag9, Ya4, z70, k70, ZwD, h39, h30, ZsD, hn, ZgC _ _ Sv hS]
    · simp [-getElem?_pos, A43, Zau, Zjy, Zq2, hz9, Ya5, ag9, Ya4, z70, k70, ZwD, h39, h30, ZsD, hn, ZgC _ _ Sv hS]
  · have he2 : (e == 0) = false := by simpa using he
    simp [-getElem?_pos, A43, Zau, Zjy, Zq2, hz9, Ya5, ag9, Ya4, z70, k70, ZwD, h39, ZsD, he, he2, ZgC _ _ Sv hS]
theorem ZzD {call : Zaa} (raw : List Cus) (D : Bm) (h : List AObj) : evQ C call (ann 43) 0 ZuC ⟨E25 raw D, [], h⟩ = some (.norm ⟨E25 raw D ++ [(19, .own [])], [], h⟩) := by
  unfold ZuC T25 S25 B25 Zac Tryz.f43 E25
  simp only [Option.getD_some, sq1, sq2, inn]
  simp [-getElem?_pos, A43, Zau]
def n25 (raw : List Cus) (D : Bm) (es : List Cus) (i : Nat) : List (Nat × SV) := E25 raw D ++ [(19, .own (es.map Cus.enc)), (95, .val (.d (d44 raw))), (96, .val (.d (.int .i64 raw.length))), (97, .val (.d (.int .i64 i)))]
theorem ZyR {call : Zaa} (raw : List Cus) (D : Bm) (h : List AObj) : evQ C call (ann 43) 0 Zsb ⟨E25 raw D ++ [(19, .own [])], [], h⟩ = some (.norm ⟨n25 raw D [] 0, [], h⟩) := by
  unfold Zsb N25 T25 S25 B25 Zac Tryz.f43 n25 E25 d44
  simp only [Option.getD_some, sq1, sq2, inn]
  simp [-getElem?_pos, A43, Zau, Zxu]
theorem Zzg {call : Zaa} (raw : List Cus) (D : Bm) (es : List Cus) (h : List AObj) : evQ C call (ann 43) 0 ZoC ⟨n25 raw D es raw.length, [], h⟩ = some (.exit 6 ⟨n25 raw D es raw.length ++ [(98, .val (.d (.bool false)))], [], h⟩) := by
  unfold ZoC N25 T25 S25 B25 Zac Tryz.f43 n25 E25
  simp only [Option.getD_some, sq1, sq2, inn]
  simp [-getElem?_pos, A43, Zau]
theorem YaE {call : Zaa} (raw : List Cus) (D : Bm) (es : List Cus) (i : Nat) (h : List AObj) : ∃ s, evQ C call (ann 43) 0 Zur ⟨n25 raw D es i, [], h⟩ = some (.norm s) ∧ Zdi C s Tryz.f43.results.toList = some [.d (.slc (es.map Cus.enc))] := by
  have hr : Tryz.f43.results.toList = [.tmp 2] := rfl
  rw [hr]
  unfold Zur T25 S25 B25 Zac Tryz.f43 n25 E25
  simp only [Option.getD_some, sq1, sq2, inn]
  simp [-getElem?_pos, A43, Zau]
theorem pl53 : C.places 39 = some (fun i => [(0, 1), (1, 1)][i]?) := by kernel_rfl
theorem hz22 : C.hasZero 23 = true := by kernel_rfl
theorem el22 : C.elemOk 23 2 = true := by kernel_rfl
theorem eb22 : ∃ b, C.elemBytes 23 = some b ∧ b ≤ 100 := ⟨40, by kernel_rfl, by decide⟩
end
theorem rm22 {n : Nat} (h : n ≤ 2 ^ 40) : Zdf C 23 n = true := by
  obtain ⟨b, hb, hl⟩ := eb22
  simp only [Zdf, hb, Bool.and_eq_true, Nat.ble_eq]
  have : n * b ≤ 2 ^ 40 * 100 := Nat.mul_le_mul h hl
  exact ⟨by omega, by omega⟩
theorem cs53 (es : List Cus) : ZaI 2 ((es.map Cus.enc).take 1) = true := by
  cases es with
  | nil => rfl
  | cons x es => rfl
section
attribute [local simp] List.getElem?_cons_zero Option.bind_some Zyu ZeX Zdi Zbw ZhR Zfo Zed ZnG Zh0 Zfr ZhY ZhT ZnD ZhJ ZcA ZbM Zmo ZaQ Zbb ZnA ZaZ ZcK Zep ZeF Zcl has opx opd opA opD XV.flat XV.copy oD oA Zad ins Zob ZhE St.put St.putOwn St.lose St.loseEnv unal Zld Zlc Zso dUn ZhO ZaC ZcG Zbu Zbo ZaX Zc6 ZbQ ZcE Zju ZbN AV.cells AV.cellOk AV.single DV.cellOk Zyr Zyp Zyw DV.cells ZaP ZfX ZaO ZcC ZaM Za4 Zlm Za0 ZeI mapO AV.toD ZaF Zcc Zfp optD ZcB Zbh ZgG Zaz Zch Zb6 ZaI Zer ZdM ZbJ St.trim Out.st
theorem Zy2 {call : Zaa} (raw : List Cus) (D : Bm) (es : List Cus) (i : Nat) (x : Cus) (hx : raw[i]? = some x) (hl : raw.length < 2 ^ 40) (Sv Op : Mv) (hS : Za5 BEq.beq x.name Sv = none) :
    evQ C call (ann 43) 0 ZoC ⟨n25 raw D es i, [], H25 Sv Op⟩ = some (.norm ⟨n25 raw D es (i + 1) ++ [(98, .val (.d (.bool true)))], [], H25 Sv Op⟩) := by
  have hlt : i < raw.length := (List.getElem?_eq_some_iff.1 hx).1
  have hw : IntKind.i64.wrap ((i : Int) + 1) = (i : Int) + 1 := Za6 (by omega)
  have hg := ZnV hx
  have hi := Yc2 hlt
  unfold ZoC N25 T25 S25 B25 Zac Tryz.f43 n25 E25 H25 d44
  simp only [Option.getD_some, sq1, sq2, inn]
  simp [-getElem?_pos, A43, Zau, Zxu, hlt, hw, hg, hi, Yc1, YcV, YcW, Zjy, Zq2, hz9, Ya5, ag9, Ya4, Zbf, z70, k70, ZdY, hS, -List.getElem?_map]
theorem Zy3 {call : Zaa} (raw : List Cus) (D : Bm) (es : List Cus) (i : Nat) (x : Cus) (hx : raw[i]? = some x) (hl : raw.length < 2 ^ 40) (he : es.length ≤ i) (Sv Op : Mv) {v : List Val} (hS : Za5 BEq.beq x.name Sv = some v) :
    evQ C call (ann 43) 0 ZoC ⟨n25 raw D es i, [], H25 Sv Op⟩ = some (.norm ⟨n25 raw D (es ++ [⟨x.name, v⟩]) (i + 1) ++ [(98, .val (.d (.bool true)))], [], H25 Sv Op⟩) := by
  have hlt : i < raw.length := (List.getElem?_eq_some_iff.1 hx).1
  have hw : IntKind.i64.wrap ((i : Int) + 1) = (i : Int) + 1 := Za6 (by omega)
  have hg := ZnV hx
  have hi := Yc2 hlt
  have hrm : Zdf C 23 (es.length + 1) = true := rm22 (by omega)
  unfold ZoC N25 T25 S25 B25 Zac Tryz.f43 n25 E25 H25 d44
  simp only [Option.getD_some, sq1, sq2, inn]
  simp [-getElem?_pos, A43, Zau, Zxu, hlt, hw, hg, hi, Yc1, YcV, YcW, Zjy, Zq2, hz9, Ya5, ag9, Ya4, Zbf, z70, k70, ZdY, hS, pl53, hz22, el22, cs53, hrm, -List.getElem?_map]
  rfl
end
end Go.Tev.S1
namespace Go.Abs
section
variable {C : Ctx} {call : Zaa} {fa : FA} {st s1 s2 s3 : St} {x y z : Code} {Q : Out → Prop}
theorem ZqU (hn : Zbj C.P) (hm : C.P.follows .mixedOrders = true) (hK : Zbq C.P call) {n k1 k2 : Nat} (okx : okC fa x = true) (oky : okC fa y = true) (hx : evQ C call fa k1 x st = some (.norm s1)) (hy : evQ C call fa k2 y s1 = some (.norm s2))
    (hs : Sheds n s2 s3) (hl : st.heap.length ≤ n) (h : Tri C fa z s3 Q) : Tri C fa (.seq x (.seq y z)) st Q := by
  intro own a w S
  refine wp_seq (wp_mono (ZgR hn hm hK k1 x st _ own a w (Zhx k1 x st _ okx hx) S) ?_)
  rintro e a1 w1 ⟨he, own1, S1, F1, E1⟩
  subst he
  refine wp_seq (wp_mono (ZgR hn hm hK k2 y s1 _ own1 a1 w1 (Zhx k2 y s1 _ oky hy) S1) ?_)
  rintro e a2 w2 ⟨he, own2, S2, F2, E2⟩
  subst he
  have F := (F1.trans F2).shed (n := n)
  have E := (E1.trans E2).shed hs hl
  exact wp_mono (h _ a2 w2 (S2.shed hs)) fun e a3 w3 ⟨o, k1, k2⟩ => ⟨o, k1, k2.after F E⟩
end
end Go.Abs
namespace Go.Tev.S1
open Go.Abs Go.Proofs
def Zb8 (Op : Mv) (x : Cus) : Bool := (Za5 BEq.beq x.name Op).isSome && !((Zen [] x.val).any fun p => (Za5 BEq.beq p.1 Op).isSome)
def ZvC (Sv : Mv) (x : Cus) : Mv := bif decide ((ZgA (lkM Sv) x.val).2 = 0) && decide ((Zah (ZgA (lkM Sv) x.val).1 : Int) ≤ 2000) then Sv ++ [(x.name, (ZgA (lkM Sv) x.val).1)] else Sv
def Zkr (raw : List Cus) : Nat → Mv → Mv → Mv
  | 0, Sv, _ => Sv
  | n + 1, Sv, Op => match raw.find? (Zb8 Op) with
    | some x => Zkr raw n (ZvC Sv x) (rmv x.name Op)
    | none => Sv
def OkS (Sv : Mv) : Prop := ∀ p ∈ Sv, Zah p.2 ≤ 2000 ∧ ZaW p.2 = false
theorem Zwu {Sv : Mv} (h : OkS Sv) : YdK (lkM Sv) := by
  intro n x hx
  have hV : V = 2 ^ 24 := rfl
  have : ∀ M : Mv, Za5 BEq.beq n M = some x → ∃ k, (k, x) ∈ M := by
    intro M
    induction M with
    | nil => intro h; simp [Za5] at h
    | cons p M ih =>
      obtain ⟨k, u⟩ := p
      intro h
      simp only [Za5] at h
      cases e : (n == k) with
      | true => rw [e] at h; cases h; exact ⟨k, List.mem_cons_self⟩
      | false => rw [e] at h; obtain ⟨k', hk⟩ := ih h; exact ⟨k', List.mem_cons_of_mem _ hk⟩
  obtain ⟨k, hk⟩ := this Sv hx
  obtain ⟨h1, h2⟩ := h _ hk
  exact ⟨Nat.le_trans h1 (by rw [hV]; decide), h2⟩
theorem Zr9 {Sv : Mv} (hS : OkS Sv) {l : List Val} (hl : Zah l ≤ B) : ZcL (Zab C K0) false 34 [.slc (l.map Val.enc), .fmap (YcU Sv)] = some (.tup [.slc ((ZgA (lkM Sv) l).1.map Val.enc), .int .i64 (ZgA (lkM Sv) l).2]) := by
  have hV : V = 2 ^ 24 := rfl
  obtain ⟨d, h1, h2⟩ := ZqD Zpp [.l 51 l, .m 9 22 Sv] (l, Sv) (ZgA (lkM Sv) l) [.slc (l.map Val.enc), .fmap (YcU Sv)] _ rfl rfl (ZlB ⟨hl, Zwu hS⟩ fun p hp => Nat.le_trans (hS p hp).1 (by rw [hV]; decide)) rfl
  cases h1
  exact h2
theorem Zwc {Sv : Mv} (hS : OkS Sv) {l : List Val} (hl : Zah l ≤ B) (h0 : (ZgA (lkM Sv) l).2 = 0) : Zah (ZgA (lkM Sv) l).1 ≤ B := by
  unfold ZgA at h0 ⊢
  split
  · simp [Zah]
  · rename_i n hn
    split
    · simp [Zah]
    · rename_i h2
      split
      · exact (ZwO ⟨hl, Zwu hS⟩ hn h2).2
      · simp [Zah]
theorem Ztl {l : List Val} (hl : Zah l ≤ B) : ZcL (Zab C K0) true 44 [.slc (l.map Val.enc)] = some (.int .i64 (Zah l)) := by
  obtain ⟨d, h1, h2⟩ := ZwK Zpp [.l 51 l] l _ [.slc (l.map Val.enc)] _ rfl rfl (Zhs hl) rfl
  cases h1
  exact ZlZ h2
theorem YcL {lk : Lk} (h : YdK lk) : ∀ l, ZaW (ZdW lk l) = false := by
  refine Zhr _ ?_ ?_
  · rw [Zfc]; rfl
  · intro v r h1 h2 h3
    rw [Zej, Zkl, h1, Bool.or_false]
    unfold ZvW
    split
    · split
      · rename_i x hx; exact (h _ _ hx).2
      · exact h3
    · rename_i hv
      rw [Bool.not_eq_true] at hv
      rw [ZaW, Val.hasv_eq]
      have e1 : (Val.mk v.tok (ZdW lk v.l)).ref = v.ref := rfl
      have e2 : (Val.mk v.tok (ZdW lk v.l)).l = ZdW lk v.l := rfl
      rw [e1, e2, hv, h2]
      rfl
theorem Yao {Sv : Mv} (hS : OkS Sv) (l : List Val) : ZaW (ZgA (lkM Sv) l).1 = false := by
  unfold ZgA
  split
  · rfl
  · split
    · rfl
    · split
      · exact YcL (Zwu hS) l
      · rfl
theorem Ycx {Sv : Mv} (hS : OkS Sv) (x : Cus) : OkS (ZvC Sv x) := by
  unfold ZvC
  cases h : decide ((ZgA (lkM Sv) x.val).2 = 0) && decide ((Zah (ZgA (lkM Sv) x.val).1 : Int) ≤ 2000) with
  | false => exact hS
  | true =>
    rw [Bool.and_eq_true, decide_eq_true_eq, decide_eq_true_eq] at h
    intro p hp
    rw [cond_true] at hp
    rcases List.mem_append.1 hp with hp | hp
    · exact hS p hp
    · rw [List.mem_singleton] at hp
      subst hp
      exact ⟨Int.ofNat_le.1 h.2, Yao hS _⟩
theorem ZnN (Sv : Mv) (x : Cus) : ∀ a ∈ (ZvC Sv x).map Prod.fst, a ∈ Sv.map Prod.fst ∨ a = x.name := by
  intro a ha
  unfold ZvC at ha
  cases h : decide ((ZgA (lkM Sv) x.val).2 = 0) && decide ((Zah (ZgA (lkM Sv) x.val).1 : Int) ≤ 2000) with
  | false => rw [h] at ha; exact .inl ha
  | true =>
    rw [h, cond_true, List.map_append] at ha
    rcases List.mem_append.1 ha with h | h
    · exact .inl h
    · exact .inr (by simpa using h)
theorem rmv_names {a : List UInt8} {M : Mv} {b : List UInt8} : b ∈ (rmv a M).map Prod.fst ↔ b ∈ M.map Prod.fst ∧ b ≠ a := by
  simp only [rmv, List.mem_map, List.mem_filter]
  constructor
  · rintro ⟨p, ⟨h1, h2⟩, rfl⟩
    exact ⟨⟨p, h1, rfl⟩, fun e => by simp [e] at h2⟩
  · rintro ⟨⟨p, h1, rfl⟩, h2⟩
    exact ⟨p, ⟨h1, by simpa using fun e => h2 e.symm⟩, rfl⟩
theorem Zx2 {a : List UInt8} {M : Mv} (h : (M.map Prod.fst).Nodup) : ((rmv a M).map Prod.fst).Nodup := (List.Sublist.map _ List.filter_sublist).nodup h
theorem YaT {a : List UInt8} {M : Mv} (h : a ∈ M.map Prod.fst) : (rmv a M).length < M.length := by
  obtain ⟨p, hp, rfl⟩ := List.mem_map.1 h
  have : ∀ M : Mv, p ∈ M → (rmv p.1 M).length < M.length := by
    intro M
    induction M with
    | nil => intro h; simp at h
    | cons q M ih =>
      intro hp
      have hle : (rmv p.1 M).length ≤ M.length := List.length_filter_le _ _
      simp only [rmv, List.filter_cons] at ih hle ⊢
      rcases List.mem_cons.1 hp with rfl | hp
      · simp only [beq_self_eq_true, Bool.not_true, Bool.false_eq_true, if_false, List.length_cons]; omega
      · have := ih hp
        split <;> simp only [List.length_cons] <;> omega
  exact this M hp
end Go.Tev.S1
namespace Go.Tev.S1
open Go.Abs Go.Proofs
open Classical in
noncomputable def Zk0 (raw : List Cus) : Mv := (Zon raw).filter fun q => decide ((q.1, true) ∉ Za9 raw)
def Zmc (raw : List Cus) (D : Bm) (vis : List Nat) : Mv := (Zon raw).filter fun q => decide (∀ j ∈ vis, D[j]? ≠ some (q.1, true))
theorem Zvt (raw : List Cus) (D : Bm) (vis : List Nat) (j : Nat) (a : List UInt8) (b : Bool) (hj : D[j]? = some (a, b)) : Zmc raw D (j :: vis) = (bif b then rmv a (Zmc raw D vis) else Zmc raw D vis) := by
  cases b with
  | false =>
    simp only [cond_false, Zmc]
    refine List.filter_congr fun q _ => ?_
    simp only [List.mem_cons, forall_eq_or_imp, hj, decide_eq_decide]
    constructor
    · exact fun h => h.2
    · exact fun h => ⟨by simp, h⟩
  | true =>
    simp only [cond_true, Zmc, rmv, List.filter_filter]
    refine List.filter_congr fun q _ => ?_
    rw [Bool.eq_iff_iff]
    simp only [List.mem_cons, forall_eq_or_imp, hj, decide_eq_true_eq, Bool.and_eq_true, Bool.not_eq_true', beq_eq_false_iff_ne, ne_eq, Option.some.injEq, Prod.mk.injEq, and_true]
theorem ZxL (raw : List Cus) (vis : List Nat) (h : ∀ j, j < (Za9 raw).length → j ∈ vis) : Zmc raw (Za9 raw) vis = Zk0 raw := by
  unfold Zmc Zk0
  refine List.filter_congr fun q _ => ?_
  rw [Bool.eq_iff_iff]
  simp only [decide_eq_true_eq]
  constructor
  · intro h1 hm
    obtain ⟨j, hj, he⟩ := List.mem_iff_getElem.1 hm
    exact h1 j (h j hj) (by rw [List.getElem?_eq_getElem hj, he])
  · intro h1 j _ he
    exact h1 (List.mem_of_getElem? he)
theorem ZsI (raw : List Cus) (hn : (raw.map Cus.name).Nodup) (D : Bm) (vis : List Nat) : ((Zmc raw D vis).map Prod.fst).Nodup := by
  have : ((Zon raw).map Prod.fst).Nodup := by rw [Zj1]; exact hn
  exact (List.Sublist.map _ List.filter_sublist).nodup this
theorem ZyD (raw : List Cus) (hn : (raw.map Cus.name).Nodup) : Tri C (C.ann 43) YaK ⟨E25 raw (Za9 raw), [], H25 [] (Zon raw)⟩ (Ya8 (E25 raw (Za9 raw)) (H25 [] (Zk0 raw))) := by
  obtain ⟨_, _, k7, _, _, _, _, _, _⟩ := ZtX
  refine ZeQ (call := Zab C K0) Zai Zar Yej (Yb0 raw (Za9 raw) _) o25_4.2.1 o25_4.1 o25_4.2.2 (by kernel_rfl) (by kernel_rfl) (show opA _ (.tmp 29) = some (.d (.fmap (ZfQ (Za9 raw)))) from rfl) Yef fun p => ?_
  show Ydk C (C.ann 43) 30 p (ZfQ (Za9 raw)) _ ⟨Zv2 raw (Za9 raw) p, [], H25 [] (Zon raw)⟩ _
  refine Zlr (call := Zab C K0) Zai Zar Yek o25_5.2.1 o25_5.1 o25_5.2.2 (by kernel_rfl) (by kernel_rfl) Yet o25_6.2.1 o25_6.1 o25_6.2.2 (by kernel_rfl) (by kernel_rfl)
    (fun vis s => s = ⟨Zv2 raw (Za9 raw) p, [], H25 [] (Zmc raw (Za9 raw) vis)⟩) ?_ (fun vis s hs => by subst hs; exact ⟨rfl, rfl⟩) ?_ ?_
  · have : Zmc raw (Za9 raw) [] = Zon raw := by
      unfold Zmc
      rw [List.filter_eq_self]
      intro q _
      simp
    rw [this]
  · rintro vis s rfl hall
    refine ⟨_, Zxl raw _ p _ false [], rfl, ?_⟩
    refine ⟨_, rfl, ?_⟩
    rw [ZxL raw vis (fun j hj => hall j (by simpa [ZfQ] using hj))]
    refine sub_list (s := ⟨Zv2 raw (Za9 raw) p ++ [(32, .val (.d (.bool false)))], [], H25 [] (Zk0 raw)⟩) fun q hq => ?_
    simp only [E25, List.mem_cons, List.not_mem_nil, or_false] at hq
    rcases hq with rfl | rfl | rfl | rfl | rfl <;> exact ⟨rfl, rfl⟩
  · rintro vis s j k v rfl hj hjv
    rw [ZfQ, List.getElem?_map] at hj
    cases huj : (Za9 raw)[j]? with
    | none => rw [huj] at hj; cases hj
    | some q =>
      obtain ⟨a, b⟩ := q
      rw [huj] at hj
      cases hj
      refine ⟨_, _, Zxl raw _ p _ true [.str a, .bool b], rfl, rfl, Ybi raw _ p _ (.str a) (.bool b), ?_⟩
      refine ZcI (call := Zab C K0) Zai mixed Zar k7 (YbW raw _ p [] _ (ZsI raw hn _ vis) a b) ?_
      simp only [Zba]
      refine ⟨_, rfl, ?_⟩
      rw [Zvt raw _ vis j a b huj]
      refine ⟨fun kk vv hv => ?_, rfl, rfl⟩
      simp only [St.trim]
      rw [alook_trimE _ _ _ (by rw [ZaT hv]; rfl)]
      exact ZaT hv
def Zys (u : Bm) (Op : Mv) (vis : List Nat) : Bool := decide (∃ j ∈ vis, ∃ q, u[j]? = some q ∧ (Za5 BEq.beq q.1 Op).isSome = true)
end Go.Tev.S1
namespace Go.Tev.S1
open Go.Abs Go.Proofs
def YcQ (u : Bm) (Op : Mv) : Bool := u.any fun p => (Za5 BEq.beq p.1 Op).isSome
theorem Zz7 (raw : List Cus) (D : Bm) (i : Nat) (x : Cus) (Sv Op : Mv) : Tri C (C.ann 43) YaP ⟨c25 raw D i x false, [], H25 Sv Op⟩ (Ya8 (c25 raw D i x (YcQ (Zen [] x.val) Op)) (H25 Sv Op)) := by
  obtain ⟨_, k20, _, _, _, _, _, _, _, _⟩ := Zsd
  refine ZeQ (call := Zab C K0) Zai Zar Ydi (Zze raw D i x false _) o25_17.2.1 o25_17.1 o25_17.2.2 (by kernel_rfl) (by kernel_rfl) (show opA _ (.tmp 59) = some (.d (.fmap (ZfQ (Zen [] x.val)))) from rfl) Yef fun p => ?_
  show Ydk C (C.ann 43) 60 p (ZfQ (Zen [] x.val)) _ ⟨g25 raw D i x false p, [], H25 Sv Op⟩ _
  refine Zlr (call := Zab C K0) Zai Zar YdP o25_18.2.1 o25_18.1 o25_18.2.2 (by kernel_rfl) (by kernel_rfl) YdQ o25_19.2.1 o25_19.1 o25_19.2.2 (by kernel_rfl) (by kernel_rfl)
    (fun vis s => s = ⟨g25 raw D i x (Zys (Zen [] x.val) Op vis) p, [], H25 Sv Op⟩) ?_ (fun vis s hs => by subst hs; exact ⟨rfl, rfl⟩) ?_ ?_
  · have : Zys (Zen [] x.val) Op [] = false := by simp [Zys]
    rw [this]
  · rintro vis s rfl hall
    refine ⟨_, Zus raw D i x _ p _ false [], rfl, ?_⟩
    refine ⟨_, rfl, ?_⟩
    have : Zys (Zen [] x.val) Op vis = YcQ (Zen [] x.val) Op := by
      rw [Bool.eq_iff_iff]
      unfold Zys YcQ
      rw [decide_eq_true_eq, List.any_eq_true]
      constructor
      · rintro ⟨j, _, q, hq, h⟩; exact ⟨q, List.mem_of_getElem? hq, h⟩
      · rintro ⟨q, hq, h⟩
        obtain ⟨j, hj, rfl⟩ := List.mem_iff_getElem.1 hq
        exact ⟨j, hall j (by simpa [ZfQ] using hj), _, List.getElem?_eq_getElem hj, h⟩
    rw [this]
    refine sub_list (s := ⟨g25 raw D i x (YcQ (Zen [] x.val) Op) p ++ [(62, .val (.d (.bool false)))], [], H25 Sv Op⟩) fun q hq => ?_
    simp only [c25, b25, F25, E25, x25, List.cons_append, List.nil_append, List.mem_cons, List.not_mem_nil, or_false] at hq
    rcases hq with rfl | rfl | rfl | rfl | rfl | rfl | rfl | rfl | rfl | rfl | rfl | rfl | rfl | rfl <;> exact ⟨rfl, rfl⟩
  · rintro vis s j k v rfl hj hjv
    rw [ZfQ, List.getElem?_map] at hj
    cases huj : (Zen [] x.val)[j]? with
    | none => rw [huj] at hj; cases hj
    | some q =>
      obtain ⟨a, b⟩ := q
      rw [huj] at hj
      cases hj
      refine ⟨_, _, Zus raw D i x _ p _ true [.str a, .bool b], rfl, rfl, Zz5 raw D i x _ p _ (.str a) (.bool b), ?_⟩
      refine ZcI (call := Zab C K0) Zai mixed Zar k20 (Zy1 raw D i x _ p Sv Op a) ?_
      simp only [Zba]
      refine ⟨_, rfl, ?_⟩
      have : Zys (Zen [] x.val) Op (j :: vis) = (Zys (Zen [] x.val) Op vis || (Za5 BEq.beq a Op).isSome) := by
        rw [Bool.eq_iff_iff]
        unfold Zys
        simp only [List.mem_cons, Bool.or_eq_true, decide_eq_true_eq]
        constructor
        · rintro ⟨j', rfl | h1, q, hq, h⟩
          · rw [huj] at hq; cases hq; exact .inr h
          · exact .inl ⟨j', h1, q, hq, h⟩
        · rintro (⟨j', h1, q, hq, h⟩ | h)
          · exact ⟨j', .inr h1, q, hq, h⟩
          · exact ⟨j, .inl rfl, _, huj, h⟩
      rw [this]
      refine ⟨fun kk vv hv => ?_, rfl, rfl⟩
      simp only [St.trim]
      have hv2 : Zad (g25 raw D i x (Zys (Zen [] x.val) Op vis || (Za5 BEq.beq a Op).isSome) p ++ [(62, .val (.d (.bool true)))]) kk = some vv := ZaT hv
      have hk : (Zad (g25 raw D i x (Zys (Zen [] x.val) Op vis) p ++ [(62, .val (.d (.bool true)))]) kk).isSome = true := by
        have hm := sub_list.alook_mem0' hv2
        simp only [g25, c25, b25, F25, E25, x25, List.cons_append, List.nil_append, List.mem_cons, List.not_mem_nil, or_false, Prod.mk.injEq] at hm
        rcases hm with ⟨rfl, _⟩ | ⟨rfl, _⟩ | ⟨rfl, _⟩ | ⟨rfl, _⟩ | ⟨rfl, _⟩ | ⟨rfl, _⟩ | ⟨rfl, _⟩ | ⟨rfl, _⟩ | ⟨rfl, _⟩ | ⟨rfl, _⟩ | ⟨rfl, _⟩ | ⟨rfl, _⟩ | ⟨rfl, _⟩ | ⟨rfl, _⟩ | ⟨rfl, _⟩ | ⟨rfl, _⟩ <;> rfl
      rw [alook_trimE _ _ _ hk]
      exact ZaT hv
theorem Yc4 (raw : List Cus) (D : Bm) (i : Nat) (x : Cus) (Sv Op : Mv) (h' : List AObj) (g2 : h'[0]? = some (.map (ZhL Sv))) (g3 : h'[1]? = some (.map (ZhL Op))) (g4 : h'[2]? = some (.map ((ZfQ (Zen [] x.val)).map fun p => (p.1, .d p.2)))) :
    Sheds 2 ⟨b25 raw D i x ++ [(12, .val (.mp 2))], [], h'⟩ ⟨b25 raw D i x ++ [(12, .val (.d (.fmap (ZfQ (Zen [] x.val)))))], [], H25 Sv Op⟩ := by
  have hd : ∀ M : Mv, ShedO 2 h' (.map (ZhL M)) (.map (ZhL M)) := fun M => .map _ _ rfl fun j a b ha hb => by
    rw [ha] at hb
    cases hb
    obtain ⟨p, _, rfl⟩ := List.mem_map.1 (List.mem_of_getElem? ha)
    exact ⟨rfl, .d _⟩
  refine ⟨rfl, rfl, ?_, ?_⟩
  · intro id o2 ho
    rcases id with _ | _ | id
    · cases ho; exact ⟨_, g2, hd Sv⟩
    · cases ho; exact ⟨_, g3, hd Op⟩
    · simp [H25] at ho
  · intro k v2 hv
    have hm := sub_list.alook_mem0' hv
    have key : ∀ (k : Nat) (v2 v : SV), Zad (b25 raw D i x ++ [(12, SV.val (.mp 2))]) k = some v → ShedSV 2 h' v v2 → ∃ v, Zad (b25 raw D i x ++ [(12, SV.val (.mp 2))]) k = some v ∧ ShedSV 2 h' v v2 := fun k v2 v h1 h2 => ⟨v, h1, h2⟩
    simp only [b25, F25, E25, x25, List.cons_append, List.nil_append, List.mem_cons, List.not_mem_nil, or_false, Prod.mk.injEq] at hm
    rcases hm with ⟨rfl, rfl⟩ | ⟨rfl, rfl⟩ | ⟨rfl, rfl⟩ | ⟨rfl, rfl⟩ | ⟨rfl, rfl⟩ | ⟨rfl, rfl⟩ | ⟨rfl, rfl⟩ | ⟨rfl, rfl⟩ | ⟨rfl, rfl⟩ | ⟨rfl, rfl⟩ | ⟨rfl, rfl⟩ | ⟨rfl, rfl⟩ | ⟨rfl, rfl⟩
    · exact key _ _ _ rfl (.val _ _ (.d _))
    · exact key _ _ _ rfl (.val _ _ (.d _))
    · exact key _ _ _ rfl (.val _ _ (.d _))
    · exact key _ _ _ rfl (.val _ _ (.mp 0 (by decide)))
    · exact key _ _ _ rfl (.val _ _ (.mp 1 (by decide)))
    · exact key _ _ _ rfl (.val _ _ (.d _))
    · exact key _ _ _ rfl (.val _ _ (.d _))
    · exact key _ _ _ rfl (.val _ _ (.d _))
    · exact key _ _ _ rfl (.val _ _ (.d _))
    · exact key _ _ _ rfl (.box _)
    · exact key _ _ _ rfl (.val _ _ (.d _))
    · exact key _ _ _ rfl (.val _ _ (.d _))
    · exact key _ _ _ rfl (.val _ _ (.frz 2 _ (Nat.le_refl _) g4))
end Go.Tev.S1
namespace Go.Tev.S1
open Go.Abs Go.Proofs
def QB (raw : List Cus) (D : Bm) (i : Nat) (x : Cus) (Sv Op : Mv) : Out → Prop := fun o => (Zb8 Op x = false ∧ ∃ s, o = .norm s ∧ Sub ⟨F25 raw D i ++ [(42, .val (.d (.bool true)))], [], H25 Sv Op⟩ s) ∨
  (Zb8 Op x = true ∧ ∃ s, o = .goto 0 s ∧ Sub ⟨E25 raw D, [], H25 (ZvC Sv x) (rmv x.name Op)⟩ s)
theorem Zr2 {Op : Mv} {x : Cus} (h : Za5 BEq.beq x.name Op = none) : Zb8 Op x = false := by simp [Zb8, h]
theorem Zkk {Op : Mv} {x : Cus} {u} (h : Za5 BEq.beq x.name Op = some u) : Zb8 Op x = !YcQ (Zen [] x.val) Op := by simp [Zb8, h, YcQ]
theorem ZxC (raw : List Cus) (D : Bm) (i : Nat) (Sv Op : Mv) (more : List (Nat × SV)) : Sub ⟨F25 raw D i ++ [(42, .val (.d (.bool true)))], [], H25 Sv Op⟩ ((⟨F25 raw D i ++ [(42, .val (.d (.bool true)))] ++ more, [], H25 Sv Op⟩ : St).trim (F25 raw D i ++ [(42, .val (.d (.bool true)))])) := by
  refine ⟨fun k v hv => ?_, rfl, rfl⟩
  simp only [St.trim]
  rw [alook_trimE _ _ _ (by rw [hv]; rfl)]
  exact ZaT hv
theorem Ydu (raw : List Cus) (D : Bm) (i : Nat) (x : Cus) (hx : raw[i]? = some x) (hl : Zah x.val ≤ B) (Sv Op : Mv) (hS : OkS Sv) (hO : (Op.map Prod.fst).Nodup) (hd : ∀ a ∈ Op.map Prod.fst, a ∉ Sv.map Prod.fst) :
    Tri C (C.ann 43) (.block 3 BD25) ⟨F25 raw D i ++ [(42, .val (.d (.bool true)))], [], H25 Sv Op⟩ (QB raw D i x Sv Op) := by
  obtain ⟨_, _, _, _, _, k11, k12, k14, k15⟩ := ZtX
  obtain ⟨k16, _, k23, k24, k25, _, _, _, _, _⟩ := Zsd
  refine ZeO ?_
  refine ZaN (call := Zab C K0) Zai mixed Zar k11 (Yaz raw D i x hx _ _) ?_
  cases hm : Za5 BEq.beq x.name Op with
  | none =>
    refine ZcD (Q1 := fun o => o = .exit 3 ⟨F25 raw D i ++ [(42, .val (.d (.bool true))), x25 x, (11, .val (.d (.bool false))), (53, .val (.d (.bool true)))], [], H25 Sv Op⟩) (ZcI (call := Zab C K0) Zai mixed Zar k12 (Zv8 raw D i x _ Sv Op hm) rfl) (fun s hs => by cases hs) ?_
    rintro o rfl _
    refine .inl ⟨Zr2 hm, _, rfl, ?_⟩
    exact ZxC raw D i Sv Op [x25 x, (11, .val (.d (.bool false))), (53, .val (.d (.bool true)))]
  | some u =>
    refine ZaN (call := Zab C K0) Zai mixed Zar k12 (ZwV raw D i x _ Sv Op hm) ?_
    obtain ⟨h', g1, g2, g3, g4⟩ := Zks x.val hl (.map (ZhL Sv)) (.map (ZhL Op))
    refine ZqU (call := Zab C K0) Zai mixed Zar k14 k15 (ZzI raw D i x Sv Op) (YaG raw D i x Sv Op h' g1) (Yc4 raw D i x Sv Op h' g2 g3 g4) (by simp [H25]) ?_
    refine ZaN (call := Zab C K0) Zai mixed Zar k16 (ZyF raw D i x _ _) ?_
    refine Zhi (Zz7 raw D i x Sv Op) ?_
    cases ha : YcQ (Zen [] x.val) Op with
    | true =>
      refine ZcD (Q1 := fun o => o = .exit 3 ⟨c25 raw D i x true ++ [(72, .val (.d (.bool true)))], [], H25 Sv Op⟩) (ZcI (call := Zab C K0) Zai mixed Zar k23 (Zuj raw D i x _).2 rfl) (fun s hs => by cases hs) ?_
      rintro o rfl _
      refine .inl ⟨by rw [Zkk hm, ha]; rfl, _, rfl, ?_⟩
      exact ZxC raw D i Sv Op [x25 x, (11, .val (.d (.bool true))), (53, .val (.d (.bool false))), (12, .val (.d (.fmap (ZfQ (Zen [] x.val))))), (13, .val (.d (.bool true))), (72, .val (.d (.bool true)))]
    | false =>
      have hS' : x.name ∉ Sv.map Prod.fst := hd _ (Zjm (by rw [hm]; rfl))
      refine ZaN (call := Zab C K0) Zai mixed Zar k23 (Zuj raw D i x _).1 ?_
      refine ZaN (call := Zab C K0) Zai mixed Zar k24 (Yaa raw D i x Sv Op hO) ?_
      refine ZaN (call := Zab C K0) Zai mixed Zar k25 (Zzf raw D i x Sv (rmv x.name Op) _ _ (Zah (ZgA (lkM Sv) x.val).1) hS' (Zr9 hS hl) fun h0 => Ztl (Zwc hS hl h0)) ?_
      refine ZcI (call := Zab C K0) (n := 0) Zai mixed Zar rfl rfl ?_
      refine .inr ⟨by rw [Zkk hm, ha]; rfl, _, rfl, ?_⟩
      refine ⟨fun k v hv => ?_, rfl, rfl⟩
      show Zad (d25 raw D i x ++ _) k = some v
      unfold d25 c25 b25 F25
      exact ZaT (ZaT (ZaT (ZaT (ZaT hv))))
def QL (raw : List Cus) (D : Bm) (Sv Op : Mv) : Out → Prop := fun o => (raw.find? (Zb8 Op) = none ∧ ∃ s, o = .norm s ∧ Sub ⟨E25 raw D, [], H25 Sv Op⟩ s) ∨
  (∃ x, raw.find? (Zb8 Op) = some x ∧ ∃ s, o = .goto 0 s ∧ Sub ⟨E25 raw D, [], H25 (ZvC Sv x) (rmv x.name Op)⟩ s)
theorem Ya9 {raw : List Cus} {f : Cus → Bool} : ∀ {i : Nat} {x : Cus}, raw[i]? = some x → f x = true → (∀ j y, j < i → raw[j]? = some y → f y = false) → raw.find? f = some x := by
  induction raw with
  | nil => intro i x hx; simp at hx
  | cons y r ih =>
    intro i x hx hf h
    cases i with
    | zero => cases hx; exact List.find?_cons_of_pos hf
    | succ i =>
      rw [List.find?_cons_of_neg (by rw [h 0 y (Nat.succ_pos _) rfl]; decide)]
      exact ih (by simpa using hx) hf fun j z hj hz => h (j + 1) z (by omega) (by simpa using hz)
theorem Zz9 (raw : List Cus) (hok : ZkO raw) (Sv Op : Mv) (D : Bm) (hS : OkS Sv) (hO : (Op.map Prod.fst).Nodup) (hd : ∀ a ∈ Op.map Prod.fst, a ∉ Sv.map Prod.fst) :
    Tri C (C.ann 43) (.seq Zxe LP25) ⟨E25 raw D, [], H25 Sv Op⟩ (QL raw D Sv Op) := by
  obtain ⟨_, _, _, k9, k10, _, _, _, _⟩ := ZtX
  obtain ⟨_, _, _, _, _, k28, _, _, _, _⟩ := Zsd
  have hB : B = 2 ^ 36 := rfl
  have hV : V = 2 ^ 24 := rfl
  have hlen : raw.length < 2 ^ 40 := Nat.lt_of_le_of_lt hok.1 (by rw [hB]; decide)
  have e0 : ∀ (i : Nat) (s : St), Sub ⟨E25 raw D, [], H25 Sv Op⟩ ((⟨F25 raw D i ++ [(42, .val (.d (.bool false)))], [], H25 Sv Op⟩ : St).trim (F25 raw D 0)) := fun i s => by
    refine sub_list (s := ⟨F25 raw D i ++ [(42, .val (.d (.bool false)))], [], H25 Sv Op⟩) fun q hq => ?_
    simp only [E25, List.mem_cons, List.not_mem_nil, or_false] at hq
    rcases hq with rfl | rfl | rfl | rfl | rfl <;> exact ⟨rfl, rfl⟩
  refine ZaN (call := Zab C K0) Zai mixed Zar k9 (YcH raw D _) ?_
  refine ZeO ?_
  refine ZiH (fun m s => ∃ i, i ≤ raw.length ∧ m = raw.length - i ∧ s = ⟨F25 raw D i, [], H25 Sv Op⟩ ∧ ∀ j y, j < i → raw[j]? = some y → Zb8 Op y = false) (n := raw.length) ⟨0, Nat.zero_le _, rfl, rfl, fun j y hj => absurd hj (Nat.not_lt_zero _)⟩ ?_
  rintro m s ⟨i, hi, rfl, rfl, hno⟩
  refine ZaN (call := Zab C K0) Zai mixed Zar k10 (Zz1 raw D i _) ?_
  rcases Nat.lt_or_ge i raw.length with hlt | hge
  · have hx := List.getElem?_eq_getElem hlt
    have hdt : decide ((i : Int) < (raw.length : Int)) = true := by simpa using hlt
    rw [hdt]
    refine ZcD (Q1 := fun o => o = .norm ⟨F25 raw D i ++ [(42, .val (.d (.bool true)))], [], H25 Sv Op⟩) (Zhn (b := true) rfl (Zp1 rfl)) ?_ (fun o h1 h2 => absurd h1 (h2 _))
    rintro s hs
    cases hs
    refine ZcD (Ydu raw D i raw[i] hx (Nat.le_trans (hok.2 raw[i] (List.getElem_mem hlt)) (by rw [hB, hV]; decide)) Sv Op hS hO hd) ?_ ?_
    · rintro s (⟨hr, s', hs, hsub⟩ | ⟨hr, s', hs, hsub⟩)
      · cases hs
        refine ZpG hsub ?_
        refine ZcI (call := Zab C K0) Zai mixed Zar k28 (Zzy raw D i (by omega) _ _) ?_
        refine ⟨raw.length - (i + 1), ⟨F25 raw D (i + 1), [], H25 Sv Op⟩, by omega, ⟨i + 1, hlt, rfl, rfl, fun j y hj hy => ?_⟩, fun k v hv => ZaT hv, rfl, rfl⟩
        rcases Nat.lt_or_ge j i with h | h
        · exact hno j y h hy
        · have : j = i := by omega
          subst this
          rw [hx] at hy
          cases hy
          exact hr
      · cases hs
    · rintro o (⟨hr, s', rfl, hsub⟩ | ⟨hr, s', rfl, hsub⟩) hne
      · exact absurd rfl (hne s')
      · simp only [Zba]
        exact .inr ⟨raw[i], Ya9 hx hr hno, s', rfl, hsub⟩
  · have he : i = raw.length := by omega
    subst he
    rw [show decide ((raw.length : Int) < (raw.length : Int)) = false by simp]
    refine ZcD (Q1 := fun o => o = .exit 2 ⟨F25 raw D raw.length ++ [(42, .val (.d (.bool false)))], [], H25 Sv Op⟩) (Zhn (b := false) rfl (Zuz rfl)) (fun s hs => by cases hs) ?_
    rintro o rfl _
    simp only [Zba]
    refine .inl ⟨?_, _, rfl, e0 _ ⟨[], [], []⟩⟩
    rw [List.find?_eq_none]
    intro y hy
    obtain ⟨j, hj, rfl⟩ := List.mem_iff_getElem.1 hy
    rw [hno j _ hj (List.getElem?_eq_getElem hj)]
    decide
end Go.Tev.S1
namespace Go.Abs
theorem Has.hasn {P : Program} {f : FuncId} {args : List AV} {h : List AObj} {r : AV} {h' : List AObj} (H : Has P f args h r h') : HasN P f args h (fun r2 h2 => r2 = r ∧ h2 = h') :=
  ⟨H.1, fun w own vs H1 H2 H3 H4 => (H.2 w own vs H1 H2 H3 H4).mono fun e w' ⟨v, own', h1, h2, h3, h4, h5, h6⟩ => ⟨v, own', r, h', ⟨rfl, rfl⟩, h1, h2, h3, h4, h5, h6⟩⟩
end Go.Abs
namespace Go.Tev.S1
open Go.Abs Go.Proofs
def Zp8 (raw : List Cus) (Sv : Mv) : List Cus := raw.filterMap fun x => (Za5 BEq.beq x.name Sv).map fun v => ⟨x.name, v⟩
theorem Zy7 (raw : List Cus) (Sv : Mv) : (Zp8 raw Sv).length ≤ raw.length := List.length_filterMap_le _ _
theorem Zzl (raw : List Cus) (hl : raw.length < 2 ^ 40) (D : Bm) (Sv Op : Mv) : Tri C (C.ann 43) (.seq Zsb (.block 6 (.loop ZoC))) ⟨E25 raw D ++ [(19, .own [])], [], H25 Sv Op⟩ (Ya8 (n25 raw D (Zp8 raw Sv) raw.length) (H25 Sv Op)) := by
  obtain ⟨_, _, _, _, _, _, _, k30, kL, _⟩ := Zsd
  refine ZaN (call := Zab C K0) Zai mixed Zar k30 (ZyR raw D _) ?_
  refine ZeO ?_
  refine ZiH (fun m s => ∃ i, i ≤ raw.length ∧ m = raw.length - i ∧ s = ⟨n25 raw D (Zp8 (raw.take i) Sv) i, [], H25 Sv Op⟩) (n := raw.length) ⟨0, Nat.zero_le _, rfl, rfl⟩ ?_
  rintro m s ⟨i, hi, rfl, rfl⟩
  rcases Nat.lt_or_ge i raw.length with hlt | hge
  · have hx := List.getElem?_eq_getElem hlt
    have hle : (Zp8 (raw.take i) Sv).length ≤ i := Nat.le_trans (Zy7 _ _) (List.length_take_le _ _)
    have htk : Zp8 (raw.take (i + 1)) Sv = Zp8 (raw.take i) Sv ++ (match Za5 BEq.beq raw[i].name Sv with | some v => [⟨raw[i].name, v⟩] | none => []) := by
      rw [Za3 hx]
      unfold Zp8
      rw [List.filterMap_append]
      congr 1
      simp only [List.filterMap_cons, List.filterMap_nil]
      cases Za5 BEq.beq raw[i].name Sv <;> rfl
    cases hS : Za5 BEq.beq raw[i].name Sv with
    | none =>
      rw [hS, List.append_nil] at htk
      refine ZcI (call := Zab C K0) Zai mixed Zar kL (Zy2 raw D _ i _ hx hl Sv Op hS) ?_
      refine ⟨raw.length - (i + 1), ⟨n25 raw D (Zp8 (raw.take i) Sv) (i + 1), [], _⟩, by omega, ⟨i + 1, hlt, rfl, by rw [htk]⟩, fun k v hv => ZaT hv, rfl, rfl⟩
    | some v =>
      rw [hS] at htk
      have hst : (⟨n25 raw D (Zp8 (raw.take i) Sv ++ [⟨raw[i].name, v⟩]) (i + 1), [], H25 Sv Op⟩ : St) = ⟨n25 raw D (Zp8 (raw.take (i + 1)) Sv) (i + 1), [], H25 Sv Op⟩ := by rw [htk]
      refine ZcI (call := Zab C K0) Zai mixed Zar kL (Zy3 raw D _ i _ hx hl hle Sv Op hS) ?_
      refine ⟨raw.length - (i + 1), ⟨n25 raw D (Zp8 (raw.take i) Sv ++ [⟨raw[i].name, v⟩]) (i + 1), [], H25 Sv Op⟩, by omega, ⟨i + 1, hlt, rfl, hst⟩, ?_⟩
      exact ⟨fun k v hv => ZaT hv, rfl, rfl⟩
  · have he : i = raw.length := by omega
    subst he
    refine ZcI (call := Zab C K0) Zai mixed Zar kL (Zzg raw D _ _) ?_
    simp only [Zba]
    refine ⟨_, rfl, ?_⟩
    rw [List.take_length]
    refine ⟨fun k v hv => ?_, rfl, rfl⟩
    have hk : (Zad (n25 raw D [] 0) k).isSome = true := by
      have hm := sub_list.alook_mem0' hv
      simp only [n25, E25, List.cons_append, List.nil_append, List.mem_cons, List.not_mem_nil, or_false, Prod.mk.injEq] at hm
      rcases hm with ⟨rfl, _⟩ | ⟨rfl, _⟩ | ⟨rfl, _⟩ | ⟨rfl, _⟩ | ⟨rfl, _⟩ | ⟨rfl, _⟩ | ⟨rfl, _⟩ | ⟨rfl, _⟩ | ⟨rfl, _⟩ <;> rfl
    simp only [St.trim]
    rw [alook_trimE _ _ _ hk]
    exact ZaT hv
def QP (raw : List Cus) (D : Bm) (Sv Op : Mv) : Out → Prop := fun o => (raw.find? (Zb8 Op) = none ∧ ∃ s, o = .ret s ∧ Zdi C s Tryz.f43.results.toList = some [.d (.slc ((Zp8 raw Sv).map Cus.enc))]) ∨
  (∃ x, raw.find? (Zb8 Op) = some x ∧ ∃ s, o = .goto 0 s ∧ Sub ⟨E25 raw D, [], H25 (ZvC Sv x) (rmv x.name Op)⟩ s)
theorem Ydr (raw : List Cus) (hok : ZkO raw) (Sv Op : Mv) (D : Bm) (hS : OkS Sv) (hO : (Op.map Prod.fst).Nodup) (hd : ∀ a ∈ Op.map Prod.fst, a ∉ Sv.map Prod.fst) :
    Tri C (C.ann 43) YdZ ⟨E25 raw D, [], H25 Sv Op⟩ (QP raw D Sv Op) := by
  obtain ⟨_, _, _, _, _, _, k29, _, _, k37⟩ := Zsd
  have hB : B = 2 ^ 36 := rfl
  have hlen : raw.length < 2 ^ 40 := Nat.lt_of_le_of_lt hok.1 (by rw [hB]; decide)
  refine ZcD (Zz9 raw hok Sv Op D hS hO hd) ?_ ?_
  · rintro s (⟨hr, s', hs, hsub⟩ | ⟨x, hr, s', hs, hsub⟩)
    · cases hs
      refine ZpG hsub ?_
      refine ZaN (call := Zab C K0) Zai mixed Zar k29 (ZzD raw D _) ?_
      refine Zhi (Zzl raw hlen D Sv Op) ?_
      obtain ⟨s1, e1, e2⟩ := YaE (call := Zab C K0) raw D (Zp8 raw Sv) raw.length (H25 Sv Op)
      refine ZaN (call := Zab C K0) Zai mixed Zar k37 e1 ?_
      refine ZcI (call := Zab C K0) (n := 0) Zai mixed Zar rfl rfl ?_
      exact .inl ⟨hr, s1, rfl, e2⟩
    · cases hs
  · rintro o (⟨hr, s', rfl, hsub⟩ | ⟨x, hr, s', rfl, hsub⟩) hne
    · exact absurd rfl (hne s')
    · exact .inr ⟨x, hr, s', rfl, hsub⟩
noncomputable def Zkx (raw : List Cus) : Mv := Zkr raw (Zk0 raw).length [] (Zk0 raw)
theorem Ycq : findLabel S25 0 = some (.seq .skip YdZ) := by kernel_rfl
set_option maxRecDepth 4000 in
theorem Zx8 (raw : List Cus) (hn : (raw.map Cus.name).Nodup) (hok : ZkO raw) : Has Tryz.prog 43 [.d (d44 raw)] [] (.d (.slc ((Zp8 raw (Zkx raw)).map Cus.enc))) [] := by
  obtain ⟨k0, k2, _, _, _, _, _, _, _⟩ := ZtX
  have hB : B = 2 ^ 36 := rfl
  have hlen : raw.length < 2 ^ 40 := Nat.lt_of_le_of_lt hok.1 (by rw [hB]; decide)
  have h : HasN Tryz.prog 43 [.d (d44 raw)] [] (fun r h' => r = .d (.slc ((Zp8 raw (Zkx raw)).map Cus.enc))) := by
    refine Zf6 (C := C) (f := 43) (fn := Tryz.f43) Tryz.func43 Yb3 (by kernel_rfl) ?_
    refine ZaN (call := Zab C K0) Zai mixed Zar k0 (Ycb raw) ?_
    let I : Nat → St → Prop := fun m s => ∃ Sv Op n, s = ⟨E25 raw (Za9 raw), [], H25 Sv Op⟩ ∧ m = Op.length ∧ OkS Sv ∧ (Op.map Prod.fst).Nodup ∧ (∀ a ∈ Op.map Prod.fst, a ∉ Sv.map Prod.fst) ∧ Op.length ≤ n ∧ Zkr raw n Sv Op = Zkx raw
    have pass : ∀ m s, I m s → Tri C (C.ann 43) YdZ s fun o => match o with
        | .goto l' s' => l' = 0 ∧ ∃ k s2, k < m ∧ I k s2 ∧ Sub s2 s'
        | o => endQ C Tryz.f43 (fun r h' => r = .d (.slc ((Zp8 raw (Zkx raw)).map Cus.enc))) o := by
      rintro m s ⟨Sv, Op, n, rfl, rfl, hS, hO, hd, hle, hs⟩
      refine ZuK (Ydr raw hok Sv Op (Za9 raw) hS hO hd) ?_
      rintro o (⟨hr, s', rfl, he⟩ | ⟨x, hr, s', rfl, hsub⟩)
      · refine ⟨_, he, ?_⟩
        have : Zkr raw n Sv Op = Sv := by
          cases n with
          | zero => rfl
          | succ n => simp only [Zkr, hr]
        rw [← hs, this]; rfl
      · have hx := List.find?_some hr
        have hxo : x.name ∈ Op.map Prod.fst := by
          simp only [Zb8, Bool.and_eq_true] at hx
          exact Zjm hx.1
        have hlt := YaT hxo
        cases n with
        | zero => omega
        | succ n =>
          simp only [Zkr, hr] at hs
          exact ⟨rfl, (rmv x.name Op).length, _, hlt, ⟨ZvC Sv x, rmv x.name Op, n, rfl, rfl, Ycx hS x, Zx2 hO, fun a ha hb => by
            obtain ⟨h1, h2⟩ := rmv_names.1 ha
            rcases ZnN Sv x a hb with h3 | h3
            · exact hd a h1 h3
            · exact h2 h3, by omega, hs⟩, hsub⟩
    have first : I (Zk0 raw).length ⟨E25 raw (Za9 raw), [], H25 [] (Zk0 raw)⟩ := by
      refine ⟨[], Zk0 raw, (Zk0 raw).length, rfl, rfl, fun p hp => by simp at hp, ?_, fun a _ hb => by simp at hb, Nat.le_refl _, rfl⟩
      have : ((Zon raw).map Prod.fst).Nodup := by rw [Zj1]; exact hn
      exact (List.Sublist.map _ List.filter_sublist).nodup this
    refine Zx6 Ycq I ?_ ?_
    · rw [YaA]
      refine ZcD (Q1 := fun o => o = .norm ⟨[(0, .val (.d (d44 raw))), (2, .val (.d (.slc []))), (3, .val (.d (.fmap (ZfQ (Za9 raw)))))], [], []⟩) ?_ ?_ (fun o h1 h2 => absurd h1 (h2 _))
      · refine ZhS (call := Zab C K0) Zai Zar Yee (YbS raw) o25_1.1 (Q2 := fun s => s = ⟨[(0, .val (.d (d44 raw))), (2, .val (.d (.slc [])))], [(25, .a (.d (.fmap (ZfQ (Za9 raw))))), (24, .a (.d (d44 raw)))], []⟩) ?_ ?_
        · intro own a w S K X hKK
          refine Zg9 (C := C) (st := ⟨[(0, .val (.d (d44 raw))), (2, .val (.d (.slc [])))], [(24, .a (.d (d44 raw)))], []⟩) Zai o25_1.2.2 rfl (fv := .d (.fn 62 [])) (vs := [.d (d44 raw)]) (caps := []) rfl rfl rfl (Zs0 raw hn hok).hasn (fun r h' ⟨h1, h2⟩ => by
            subst h1 h2
            rw [o25_1.2.1]
            exact ⟨_, rfl⟩) own a w S K X ?_
          rintro a' w' st' own' ⟨r, h', ⟨rfl, rfl⟩, hput⟩
          rw [o25_1.2.1] at hput
          cases hput
          exact hKK a' w' _ own' rfl
        · rintro s rfl
          exact ⟨_, ZyG raw (Za9 raw), rfl⟩
      · rintro s hs
        cases hs
        refine ZaN (call := Zab C K0) Zai mixed Zar k2 (YbH raw (Za9 raw)) ?_
        refine ZcD (Q1 := fun o => o = .norm ⟨E25 raw (Za9 raw), [], H25 [] (Zon raw)⟩) ?_ ?_ (fun o h1 h2 => absurd h1 (h2 _))
        · refine ZhS (call := Zab C K0) Zai Zar Yd3 (Ych raw (Za9 raw)) o25_3.1 (Q2 := fun s => s = ⟨[(0, .val (.d (d44 raw))), (2, .val (.d (.slc []))), (3, .val (.d (.fmap (ZfQ (Za9 raw))))), (4, .val (.mp 0))], [(28, .a (.mp 1)), (27, .a (.d (d44 raw)))], H25 [] (Zon raw)⟩) ?_ ?_
          · intro own a w S K X hKK
            refine Zg9 (C := C) (st := ⟨[(0, .val (.d (d44 raw))), (2, .val (.d (.slc []))), (3, .val (.d (.fmap (ZfQ (Za9 raw))))), (4, .val (.mp 0))], [(27, .a (.d (d44 raw)))], [.map []]⟩) Zai o25_3.2.2 rfl (fv := .d (.fn 35 [])) (vs := [.d (d44 raw)]) (caps := []) rfl rfl rfl (Zvw raw hn hlen (.map [])) (fun r h' ⟨h1, h2⟩ => by
              subst h1 h2
              rw [o25_3.2.1]
              exact ⟨_, rfl⟩) own a w S K X ?_
            rintro a' w' st' own' ⟨r, h', ⟨rfl, rfl⟩, hput⟩
            rw [o25_3.2.1] at hput
            cases hput
            exact hKK a' w' _ own' rfl
          · rintro s rfl
            exact ⟨_, Zyy raw (Za9 raw) _, rfl⟩
        · rintro s hs
          cases hs
          refine Zhi (ZyD raw hn) ?_
          refine ZaN (call := Zab C K0) (n := 0) Zai mixed Zar rfl rfl ?_
          refine ZuK (pass _ _ first) ?_
          intro o ho
          cases o with
          | goto l s => obtain ⟨h1, k, s2, _, h2, h3⟩ := ho; exact ⟨h1, k, s2, h2, h3⟩
          | _ => exact ho
    · rintro m s hI
      have : s.tmp = [] := by obtain ⟨_, _, _, rfl, _⟩ := hI; rfl
      refine ZaN (call := Zab C K0) (n := 0) Zai mixed Zar rfl rfl ?_
      exact pass m s hI
  refine HasN.frozen (ds := [d44 raw]) h ?_
  rintro r h' rfl
  exact ⟨0, rfl⟩
end Go.Tev.S1
namespace Go.Tev.S1
open Go.Abs Go.Proofs
end Go.Tev.S1
namespace Go.Tev.S1
open Go.Abs Go.Proofs
theorem mem_usesL {n : List UInt8} {l : List Val} : n ∈ Zb2 l ↔ ∃ v ∈ l, n ∈ v.uses := by
  induction l with
  | nil => simp [Zb2]
  | cons v l ih => simp [Zb2, ih]
theorem Zqw {v : Val} : ∀ {l : List Val}, v ∈ spL l → v ∈ l
  | [], h => h
  | w :: r, h => by
    unfold spL at h
    split at h
    · exact List.mem_cons_of_mem _ (Zqw h)
    · exact h
theorem Ybx {v : Val} {l : List Val} (h : v ∈ trL l) : v ∈ l := by
  unfold trL trR at h
  rw [List.mem_reverse] at h
  have := Zqw h
  rw [List.mem_reverse] at this
  exact Zqw this
theorem ZxA {v : Val} {l : List Val} (h : v ∈ (Zax l).2.1) : v ∈ l := by
  unfold Zax at h
  split at h
  · simp at h
  · rename_i x r e
    split at h
    · split at h
      · simp at h
      · rename_i y s e2
        split at h
        · have h1 : v ∈ s := Ybx h
          have h2 : v ∈ spL r := by rw [e2]; exact List.mem_cons_of_mem _ h1
          have h3 : v ∈ spL l := by rw [e]; exact List.mem_cons_of_mem _ (Zqw h2)
          exact Zqw h3
        · simp at h
    · simp at h
def Agree (lk lk' : Lk) (l : List Val) : Prop := lk [] = lk' [] ∧ ∀ n ∈ Zb2 l, lk n = lk' n
theorem Agree.parts {lk lk' : Lk} {v : Val} {r : List Val} (h : Agree lk lk' (v :: r)) : Agree lk lk' r ∧ Agree lk lk' v.l ∧ Agree lk lk' (Zax v.l).2.1 ∧ (v.ref = true → lk (Zax v.l).1 = lk' (Zax v.l).1) := by
  obtain ⟨h0, h⟩ := h
  have h1 : ∀ n ∈ v.uses, lk n = lk' n := fun n hn => h n (by rw [Zb2]; exact List.mem_append_left _ hn)
  have h2 : ∀ n ∈ Zb2 v.l, lk n = lk' n := fun n hn => h1 n (by rw [Val.uses_eq]; exact List.mem_append_right _ hn)
  refine ⟨⟨h0, fun n hn => h n (by rw [Zb2]; exact List.mem_append_right _ hn)⟩, ⟨h0, h2⟩, ⟨h0, fun n hn => ?_⟩, fun hr => ?_⟩
  · obtain ⟨w, hw, hn⟩ := mem_usesL.1 hn
    exact h2 n (mem_usesL.2 ⟨w, ZxA hw, hn⟩)
  · by_cases e : (Zax v.l).1 = []
    · rw [e]; exact h0
    · refine h1 _ ?_
      rw [Val.uses_eq]
      refine List.mem_append_left _ ?_
      have : (v.ref && ((Zax v.l).1 != [])) = true := by rw [hr]; simpa using e
      rw [if_pos this]
      exact List.mem_singleton.2 rfl
theorem ZwW {lk lk' : Lk} : ∀ l, Agree lk lk' l → ZeP lk l = ZeP lk' l ∧ ZdW lk l = ZdW lk' l := by
  refine Zhr _ ?_ ?_
  · intro _; exact ⟨by rw [Zdy, Zdy], by rw [Zfc, Zfc]⟩
  · intro v r h1 h2 h3 ha
    obtain ⟨a1, a2, a3, a4⟩ := ha.parts
    obtain ⟨b1, c1⟩ := h1 a1
    obtain ⟨b2, c2⟩ := h2 a2
    obtain ⟨b3, c3⟩ := h3 a3
    rw [ZcH, ZcH, Zej, Zej, b1, c1]
    cases hr : v.ref with
    | false =>
      rw [ZpM hr, ZpM hr, Zti hr, Zti hr, b2, c2]
      exact ⟨rfl, rfl⟩
    | true =>
      have a4 := a4 hr
      unfold Zsp ZvW
      rw [if_pos hr, if_pos hr, if_pos hr, if_pos hr, a4, b3, c3]
      exact ⟨rfl, rfl⟩
theorem Zxf {lk lk' : Lk} {l : List Val} (h : Agree lk lk' l) : ZgA lk l = ZgA lk' l := by
  obtain ⟨h1, h2⟩ := ZwW l h
  unfold ZgA
  rw [h1, h2]
def Zyo (lk : Lk) (x : Cus) : Option (List Val) := bif decide ((ZgA lk x.val).2 = 0) && decide ((Zah (ZgA lk x.val).1 : Int) ≤ 2000) then some (ZgA lk x.val).1 else none
theorem Zj0 {lk lk' : Lk} {x : Cus} (h : Agree lk lk' x.val) : Zyo lk x = Zyo lk' x := by unfold Zyo; rw [Zxf h]
theorem Zxt {α : Type} {R : α → α → Prop} (tr : ∀ {a b c}, R a b → R b c → R a c) : ∀ S : List α, S ≠ [] → (∀ a ∈ S, ¬ R a a) → ∃ m ∈ S, ∀ b ∈ S, ¬ R m b
  | [], h, _ => absurd rfl h
  | a :: S, _, h => by
    have ha := h a List.mem_cons_self
    cases S with
    | nil =>
      refine ⟨a, List.mem_cons_self, fun b hb => ?_⟩
      rw [List.mem_singleton] at hb
      subst hb
      exact ha
    | cons c S =>
      obtain ⟨m, hm, hmx⟩ := Zxt (R := R) tr (c :: S) (by simp) (fun x hx => h x (List.mem_cons_of_mem _ hx))
      by_cases hma : R m a
      · refine ⟨a, List.mem_cons_self, fun b hb hab => ?_⟩
        rcases List.mem_cons.1 hb with rfl | hb
        · exact ha hab
        · exact hmx b hb (tr hma hab)
      · refine ⟨m, List.mem_cons_of_mem _ hm, fun b hb => ?_⟩
        rcases List.mem_cons.1 hb with rfl | hb
        · exact hma
        · exact hmx b hb
theorem Path.trans {G : Nd} {a b c : List UInt8} (h : Path G a b) (k : Path G b c) : Path G a c := by
  induction h with
  | one e => exact .step e k
  | step e t ih => exact .step e (ih k)
def ZyX (raw : List Cus) (n : List UInt8) : Prop := Path (Za8 raw) n n
structure Sol (raw : List Cus) (lk : Lk) : Prop where
  out : ∀ n, n ∉ raw.map Cus.name → lk n = none
  loop : ∀ n, ZyX raw n → lk n = none
  val : ∀ x ∈ raw, ¬ ZyX raw x.name → lk x.name = Zyo lk x
theorem Zqc {raw : List Cus} (hn : (raw.map Cus.name).Nodup) {x : Cus} (hx : x ∈ raw) : Za5 BEq.beq x.name (Za8 raw) = some (Zen [] x.val) := by
  induction raw with
  | nil => cases hx
  | cons y r ih =>
    rw [List.map_cons, List.nodup_cons] at hn
    simp only [Za8, List.map_cons, Za5]
    rcases List.mem_cons.1 hx with rfl | hx
    · simp
    · have : (x.name == y.name) = false := by
        rw [beq_eq_false_iff_ne]
        intro e
        exact hn.1 (e ▸ List.mem_map.2 ⟨x, hx, rfl⟩)
      rw [this, cond_false]
      exact ih hn.2 hx
theorem Zxq {raw : List Cus} {n : List UInt8} (h : n ∈ raw.map Cus.name) : (Za5 BEq.beq n (Za8 raw)).isSome = true := by
  cases e : Za5 BEq.beq n (Za8 raw) with
  | some u => rfl
  | none =>
    exfalso
    induction raw with
    | nil => simp at h
    | cons y r ih =>
      simp only [Za8, List.map_cons, Za5] at e
      cases e2 : (n == y.name) with
      | true => rw [e2] at e; cases e
      | false =>
        rw [e2] at e
        rw [List.map_cons, List.mem_cons] at h
        rcases h with h | h
        · rw [beq_eq_false_iff_ne] at e2; exact e2 h
        · exact ih h e
theorem mem_col {n : List UInt8} {l : List Val} : n ∈ ZbK (Zen [] l) ↔ n ∈ Zb2 l := by
  have put : ∀ (k : List UInt8) (h : Bm), n ∈ ZbK (ZgB BEq.beq k true h) ↔ n = k ∨ n ∈ ZbK h := by
    intro k h
    induction h with
    | nil => simp [ZgB, ZbK]
    | cons p h ih =>
      obtain ⟨k', b⟩ := p
      simp only [ZgB]
      cases e : (k == k') with
      | true =>
        rw [beq_iff_eq] at e
        subst e
        simp [ZbK]
      | false =>
        simp only [cond_false, ZbK, List.map_cons, List.mem_cons] at ih ⊢
        rw [ih]
        constructor
        · rintro (h | h | h)
          · exact .inr (.inl h)
          · exact .inl h
          · exact .inr (.inr h)
        · rintro (h | h | h)
          · exact .inr (.inl h)
          · exact .inl h
          · exact .inr (.inr h)
  have : ∀ (us : List (List UInt8)) (h : Bm), n ∈ ZbK (us.foldl (fun h n => ZgB BEq.beq n true h) h) ↔ n ∈ us ∨ n ∈ ZbK h := by
    intro us
    induction us with
    | nil => intro h; simp
    | cons k us ih =>
      intro h
      rw [List.foldl_cons, ih, put, List.mem_cons]
      constructor
      · rintro (h | h | h)
        · exact .inl (.inr h)
        · exact .inl (.inl h)
        · exact .inr h
      · rintro ((h | h) | h)
        · exact .inr (.inl h)
        · exact .inl h
        · exact .inr (.inr h)
  unfold Zen
  rw [this]
  simp [ZbK]
theorem ZoV {raw : List Cus} (hn : (raw.map Cus.name).Nodup) {x : Cus} (hx : x ∈ raw) {m : List UInt8} : Edge (Za8 raw) x.name m ↔ m ∈ Zb2 x.val ∧ m ∈ raw.map Cus.name := by
  constructor
  · rintro ⟨u, h1, h2, h3⟩
    rw [Zqc hn hx] at h1
    cases h1
    refine ⟨mem_col.1 h2, ?_⟩
    have := Zjm h3
    rw [Zmx] at this
    exact this
  · rintro ⟨h1, h2⟩
    exact ⟨_, Zqc hn hx, mem_col.2 h1, Zxq h2⟩
theorem ZsH {raw : List Cus} {n : List UInt8} (h : n ∈ raw.map Cus.name) : ∃ x ∈ raw, x.name = n := by
  obtain ⟨x, hx, rfl⟩ := List.mem_map.1 h
  exact ⟨x, hx, rfl⟩
theorem ZzV {raw : List Cus} (hn : (raw.map Cus.name).Nodup) (hne : [] ∉ raw.map Cus.name) {lk lk' : Lk} (h : Sol raw lk) (h' : Sol raw lk') : lk = lk' := by
  classical
  funext n
  by_cases hd : ∃ x ∈ raw, lk x.name ≠ lk' x.name
  · exfalso
    let S := (raw.map Cus.name).filter fun n => decide (lk n ≠ lk' n)
    have hS : S ≠ [] := by
      obtain ⟨x, hx, hxd⟩ := hd
      intro e
      have : x.name ∈ S := List.mem_filter.2 ⟨List.mem_map.2 ⟨x, hx, rfl⟩, by simpa using hxd⟩
      rw [e] at this
      simp at this
    obtain ⟨m, hm, hmx⟩ := Zxt (R := Path (Za8 raw)) (fun h k => h.trans k) S hS fun a ha hp => by
      have := (List.mem_filter.1 ha).2
      simp only [decide_eq_true_eq] at this
      exact this ((h.loop a hp).trans (h'.loop a hp).symm)
    obtain ⟨hmr, hmd⟩ := List.mem_filter.1 hm
    simp only [decide_eq_true_eq] at hmd
    obtain ⟨x, hx, rfl⟩ := ZsH hmr
    have hc : ¬ ZyX raw x.name := fun hp => hmd ((h.loop _ hp).trans (h'.loop _ hp).symm)
    refine hmd ?_
    rw [h.val x hx hc, h'.val x hx hc]
    refine Zj0 ⟨(h.out _ hne).trans (h'.out _ hne).symm, fun u hu => ?_⟩
    by_cases hu2 : u ∈ raw.map Cus.name
    · by_cases hu3 : lk u = lk' u
      · exact hu3
      · exact absurd (Path.one ((ZoV hn hx).2 ⟨hu, hu2⟩)) (hmx u (List.mem_filter.2 ⟨hu2, by simpa using hu3⟩))
    · rw [h.out u hu2, h'.out u hu2]
  · by_cases h1 : n ∈ raw.map Cus.name
    · obtain ⟨x, hx, rfl⟩ := ZsH h1
      by_cases h2 : lk x.name = lk' x.name
      · exact h2
      · exact absurd ⟨x, hx, h2⟩ hd
    · rw [h.out n h1, h'.out n h1]
end Go.Tev.S1
namespace Go.Tev.S1
open Go.Abs Go.Proofs
theorem mget_iff {β : Type} {a : List UInt8} : ∀ {M : List (List UInt8 × β)}, (Za5 BEq.beq a M).isSome = true ↔ a ∈ M.map Prod.fst
  | [] => by simp [Za5]
  | (k, u) :: r => by
    simp only [Za5, List.map_cons, List.mem_cons]
    cases e : (a == k) with
    | true => rw [beq_iff_eq] at e; simp [e]
    | false => rw [beq_eq_false_iff_ne] at e; simp only [cond_false]; rw [mget_iff]; simp [e]
theorem Zhm {β : Type} {a : List UInt8} {M : List (List UInt8 × β)} (h : a ∉ M.map Prod.fst) : Za5 BEq.beq a M = none := by
  cases e : Za5 BEq.beq a M with
  | none => rfl
  | some u => exact absurd (mget_iff.1 (by rw [e]; rfl)) h
theorem Zr6 (a k : List UInt8) (v : List Val) : ∀ M : Mv, Za5 BEq.beq a (M ++ [(k, v)]) = match Za5 BEq.beq a M with
    | some u => some u
    | none => if a = k then some v else none
  | [] => by
    simp only [List.nil_append, Za5]
    by_cases e : a = k
    · subst e; simp
    · have e2 : (a == k) = false := by simpa using e
      rw [e2, if_neg e]; rfl
  | (k', u) :: r => by
    have ih := Zr6 a k v r
    simp only [List.cons_append, Za5]
    cases (a == k') with
    | true => rfl
    | false => simpa using ih
theorem Zt7 {Sv : Mv} {x : Cus} (h : x.name ∉ Sv.map Prod.fst) (n : List UInt8) : lkM (ZvC Sv x) n = if n = x.name then Zyo (lkM Sv) x else lkM Sv n := by
  unfold ZvC Zyo
  cases e : decide ((ZgA (lkM Sv) x.val).2 = 0) && decide ((Zah (ZgA (lkM Sv) x.val).1 : Int) ≤ 2000) with
  | false =>
    simp only [cond_false]
    split
    · rename_i h2; rw [h2]; exact Zhm h
    · rfl
  | true =>
    simp only [cond_true, lkM]
    rw [Zr6]
    split
    · rename_i u hu
      split
      · rename_i h2
        rw [h2, Zhm h] at hu
        cases hu
      · exact hu.symm
    · rename_i hu
      split
      · rfl
      · exact hu.symm
structure Jv (raw : List Cus) (Sv Op : Mv) : Prop where
  opn : ∀ a ∈ Op.map Prod.fst, a ∈ raw.map Cus.name ∧ ¬ ZyX raw a
  svn : ∀ a ∈ Sv.map Prod.fst, a ∈ raw.map Cus.name ∧ ¬ ZyX raw a ∧ a ∉ Op.map Prod.fst
  clo : ∀ x ∈ raw, ¬ ZyX raw x.name → x.name ∉ Op.map Prod.fst → lkM Sv x.name = Zyo (lkM Sv) x ∧ ∀ u ∈ Zb2 x.val, u ∉ Op.map Prod.fst
theorem ready_iff {Op : Mv} {x : Cus} : Zb8 Op x = true ↔ x.name ∈ Op.map Prod.fst ∧ ∀ u ∈ Zb2 x.val, u ∉ Op.map Prod.fst := by
  unfold Zb8
  rw [Bool.and_eq_true, mget_iff, Bool.not_eq_true', ← Bool.not_eq_true, List.any_eq_true]
  constructor
  · rintro ⟨h1, h2⟩
    refine ⟨h1, fun u hu hm => h2 ?_⟩
    obtain ⟨p, hp, rfl⟩ := List.mem_map.1 (mem_col.2 hu)
    exact ⟨p, hp, mget_iff.2 hm⟩
  · rintro ⟨h1, h2⟩
    refine ⟨h1, ?_⟩
    rintro ⟨p, hp, hm⟩
    exact h2 p.1 (mem_col.1 (List.mem_map.2 ⟨p, hp, rfl⟩)) (mget_iff.1 hm)
theorem ZvA {raw : List Cus} (hn : (raw.map Cus.name).Nodup) {O : List (List UInt8)} (hO : ∀ a ∈ O, a ∈ raw.map Cus.name ∧ ¬ ZyX raw a) (hne : O ≠ []) : ∃ x ∈ raw, x.name ∈ O ∧ ∀ u ∈ Zb2 x.val, u ∉ O := by
  obtain ⟨m, hm, hmx⟩ := Zxt (R := Path (Za8 raw)) (fun h k => h.trans k) O hne (fun a ha => (hO a ha).2)
  obtain ⟨x, hx, rfl⟩ := ZsH (hO m hm).1
  exact ⟨x, hx, hm, fun u hu huO => hmx u huO (.one ((ZoV hn hx).2 ⟨hu, (hO u huO).1⟩))⟩
theorem Jv.step {raw : List Cus} (hne : [] ∉ raw.map Cus.name) {Sv Op : Mv} (J : Jv raw Sv Op) {x : Cus} (hx : x ∈ raw) (hinj : ∀ y ∈ raw, y.name = x.name → y = x) (h : Zb8 Op x = true) : Jv raw (ZvC Sv x) (rmv x.name Op) := by
  obtain ⟨h1, h2⟩ := ready_iff.1 h
  have hxs : x.name ∉ Sv.map Prod.fst := fun hm => (J.svn _ hm).2.2 h1
  have agree : ∀ y : Cus, (∀ u ∈ Zb2 y.val, u ≠ x.name) → Agree (lkM (ZvC Sv x)) (lkM Sv) y.val := fun y hy => by
    refine ⟨?_, fun u hu => ?_⟩
    · rw [Zt7 hxs, if_neg]
      intro e
      exact hne (e ▸ (J.opn _ h1).1)
    · rw [Zt7 hxs, if_neg (hy u hu)]
  refine ⟨fun a ha => J.opn a (rmv_names.1 ha).1, fun a ha => ?_, fun y hy hc hyo => ?_⟩
  · rcases ZnN Sv x a ha with h3 | rfl
    · obtain ⟨g1, g2, g3⟩ := J.svn a h3
      exact ⟨g1, g2, fun h4 => g3 (rmv_names.1 h4).1⟩
    · exact ⟨(J.opn _ h1).1, (J.opn _ h1).2, fun h4 => (rmv_names.1 h4).2 rfl⟩
  · by_cases e : y.name = x.name
    · have := hinj y hy e
      subst this
      refine ⟨?_, fun u hu hm => h2 u hu (rmv_names.1 hm).1⟩
      rw [Zt7 hxs, if_pos rfl]
      exact (Zj0 (agree y fun u hu e => h2 u hu (e ▸ h1))).symm
    · obtain ⟨g1, g2⟩ := J.clo y hy hc (fun hm => hyo (rmv_names.2 ⟨hm, e⟩))
      refine ⟨?_, fun u hu hm => g2 u hu (rmv_names.1 hm).1⟩
      rw [Zt7 hxs, if_neg e, g1]
      exact (Zj0 (agree y fun u hu e => g2 u hu (e ▸ h1))).symm
theorem Jv.done {raw : List Cus} {Sv : Mv} (J : Jv raw Sv []) : Sol raw (lkM Sv) := by
  refine ⟨fun n hn => Zhm fun hm => hn (J.svn n hm).1, fun n hc => Zhm fun hm => (J.svn n hm).2.1 hc, fun x hx hc => (J.clo x hx hc (by simp)).1⟩
theorem Ydh {raw : List Cus} (hn : (raw.map Cus.name).Nodup) {x : Cus} (hx : x ∈ raw) : ∀ y ∈ raw, y.name = x.name → y = x := by
  intro y hy e
  obtain ⟨i, hi, rfl⟩ := List.mem_iff_getElem.1 hx
  obtain ⟨j, hj, rfl⟩ := List.mem_iff_getElem.1 hy
  have := (List.getElem_inj hn (i := j) (j := i) (h₀ := by simpa using hj) (h₁ := by simpa using hi)).1 (by simpa using e)
  subst this; rfl
theorem Zu4 {raw : List Cus} (hn : (raw.map Cus.name).Nodup) (hne : [] ∉ raw.map Cus.name) : ∀ (n : Nat) (Sv Op : Mv), Jv raw Sv Op → Op.length ≤ n → Sol raw (lkM (Zkr raw n Sv Op)) := by
  intro n
  induction n with
  | zero =>
    intro Sv Op J h
    have : Op = [] := List.eq_nil_of_length_eq_zero (by omega)
    subst this
    exact J.done
  | succ n ih =>
    intro Sv Op J h
    simp only [Zkr]
    cases hf : raw.find? (Zb8 Op) with
    | some x =>
      have hr := List.find?_some hf
      have hx := List.mem_of_find?_eq_some hf
      have hlt := YaT (ready_iff.1 hr).1
      exact ih _ _ (J.step hne hx (Ydh hn hx) hr) (by omega)
    | none =>
      have : Op = [] := by
        apply Classical.byContradiction
        intro ho
        obtain ⟨x, hx, h1, h2⟩ := ZvA hn (O := Op.map Prod.fst) J.opn (by simpa using ho)
        have := (List.find?_eq_none.1 hf) x hx
        exact this (ready_iff.2 ⟨h1, h2⟩)
      subst this
      exact J.done
theorem open0_names {raw : List Cus} {a : List UInt8} : a ∈ (Zk0 raw).map Prod.fst ↔ a ∈ raw.map Cus.name ∧ ¬ ZyX raw a := by
  unfold Zk0 Zon Za9 ZyX
  simp only [List.mem_map, List.mem_filter, decide_eq_true_eq, Prod.mk.injEq, not_exists, not_and]
  constructor
  · rintro ⟨p, ⟨⟨x, hx, rfl⟩, h⟩, rfl⟩
    exact ⟨⟨x, hx, rfl⟩, fun hp => h x hx rfl hp⟩
  · rintro ⟨⟨x, hx, rfl⟩, h⟩
    refine ⟨(x.name, x.val), ⟨⟨x, hx, rfl⟩, fun y hy e hp => h ?_⟩, rfl⟩
    have e : y.name = x.name := e
    rw [← e]; exact hp
theorem ZvX {raw : List Cus} (hn : (raw.map Cus.name).Nodup) (hne : [] ∉ raw.map Cus.name) : Sol raw (lkM (Zkx raw)) := by
  refine Zu4 hn hne _ _ _ ⟨fun a ha => open0_names.1 ha, fun a ha => by simp at ha, fun x hx hc ho => absurd (open0_names.2 ⟨List.mem_map.2 ⟨x, hx, rfl⟩, hc⟩) ho⟩ (Nat.le_refl _)
end Go.Tev.S1
namespace Go.Tev.S1
open Go.Abs Go.Proofs
mutual
def Zst : DV → DV → Bool
  | .bool a, .bool b => a == b
  | .int k a, .int m b => decide (k = m) && a == b
  | .str a, .str b => a == b
  | .slc a, .slc b => ZsU a b
  | .agg a, .agg b => ZsU a b
  | _, _ => false
def ZsU : List DV → List DV → Bool
  | [], [] => true
  | a :: l, b :: m => Zst a b && ZsU l m
  | _, _ => false
end
mutual
theorem ZxI : ∀ a b, Zst a b = true → a = b
  | .bool a, .bool b, h => by simp only [Zst, beq_iff_eq] at h; rw [h]
  | .int k a, .int m b, h => by simp only [Zst, Bool.and_eq_true, beq_iff_eq, decide_eq_true_eq] at h; rw [h.1, h.2]
  | .str a, .str b, h => by simp only [Zst, beq_iff_eq] at h; rw [h]
  | .slc a, .slc b, h => by simp only [Zst] at h; rw [Zpi a b h]
  | .agg a, .agg b, h => by simp only [Zst] at h; rw [Zpi a b h]
  | .bool _, .int .., h | .bool _, .str _, h | .bool _, .slc _, h | .bool _, .agg _, h | .bool _, .nilp, h | .bool _, .nilm, h | .bool _, .nilf, h | .bool _, .nili, h | .bool _, .fmap _, h | .bool _, .fn .., h | .bool _, .tup _, h | .bool _, .iface .., h => by simp [Zst] at h
  | .int .., .bool _, h | .int .., .str _, h | .int .., .slc _, h | .int .., .agg _, h | .int .., .nilp, h | .int .., .nilm, h | .int .., .nilf, h | .int .., .nili, h | .int .., .fmap _, h | .int .., .fn .., h | .int .., .tup _, h | .int .., .iface .., h => by simp [Zst] at h
  | .str _, .bool _, h | .str _, .int .., h | .str _, .slc _, h | .str _, .agg _, h | .str _, .nilp, h | .str _, .nilm, h | .str _, .nilf, h | .str _, .nili, h | .str _, .fmap _, h | .str _, .fn .., h | .str _, .tup _, h | .str _, .iface .., h => by simp [Zst] at h
  | .slc _, .bool _, h | .slc _, .int .., h | .slc _, .str _, h | .slc _, .agg _, h | .slc _, .nilp, h | .slc _, .nilm, h | .slc _, .nilf, h | .slc _, .nili, h | .slc _, .fmap _, h | .slc _, .fn .., h | .slc _, .tup _, h | .slc _, .iface .., h => by simp [Zst] at h
  | .agg _, .bool _, h | .agg _, .int .., h | .agg _, .slc _, h | .agg _, .str _, h | .agg _, .nilp, h | .agg _, .nilm, h | .agg _, .nilf, h | .agg _, .nili, h | .agg _, .fmap _, h | .agg _, .fn .., h | .agg _, .tup _, h | .agg _, .iface .., h => by simp [Zst] at h
  | .nilp, _, h | .nilm, _, h | .nilf, _, h | .nili, _, h | .fmap _, _, h | .fn .., _, h | .tup _, _, h | .iface .., _, h => by simp [Zst] at h
theorem Zpi : ∀ a b, ZsU a b = true → a = b
  | [], [], _ => rfl
  | a :: l, b :: m, h => by
    simp only [ZsU, Bool.and_eq_true] at h
    rw [ZxI a b h.1, Zpi l m h.2]
  | [], _ :: _, h => by simp [ZsU] at h
  | _ :: _, [], h => by simp [ZsU] at h
end
def tA (k : Int) (t : List UInt8) (l : List Val) : Val := .mk ⟨k, t, 0, [], false⟩ l
def nA (n : Int) : Val := .mk ⟨10, [], n, [], true⟩ []
def cA (n : UInt8) (l : List Val) : Cus := ⟨[45, 45, n], l⟩
def rawA : List Cus := [cA 97 [tA 2 [118, 97, 114] [tA 1 [45, 45, 98] []]], cA 98 [nA 2000], cA 99 [tA 2 [118, 97, 114] [tA 1 [45, 45, 99] [], tA 18 [] [], tA 13 [] [], nA 1000]]]
def outA : List Cus := [cA 97 [nA 2000], cA 98 [nA 2000]]
def lkA : Lk := fun n => if n = [45, 45, 97] ∨ n = [45, 45, 98] then some [nA 2000] else none
theorem Zml : (rawA.map Cus.name).Nodup := by decide
theorem usA : ∀ x ∈ rawA, Zb2 x.val = if x.name = [45, 45, 97] then [[45, 45, 98]] else if x.name = [45, 45, 98] then [] else [[45, 45, 99]] := by
  intro x hx
  simp only [rawA, List.mem_cons, List.not_mem_nil, or_false] at hx
  rcases hx with rfl | rfl | rfl <;> rfl
theorem Yen : ∀ x ∈ rawA, x.name ≠ [45, 45, 99] → Zyo lkA x = some [nA 2000] := by
  have h1 : ZeP lkA [nA 2000] = some 1 := by
    simp [ZeP, nA, Val.ref, Val.tok, Val.l, Zlj]
  have h2 : ZdW lkA [nA 2000] = [nA 2000] := by
    simp [ZdW, nA, Val.ref, Val.tok, Val.l]
  have h0 : ZdJ [118, 97, 114] = [118, 97, 114] := by decide
  have h5 : (Zax [tA 1 [45, 45, 98] []]).1 = [45, 45, 98] := by rfl
  have h6 : lkA [45, 45, 98] = some [nA 2000] := by rfl
  have h3 : ZeP lkA [tA 2 [118, 97, 114] [tA 1 [45, 45, 98] []]] = some 1 := by
    rw [ZcH, Zdy, ZuN (x := [nA 2000]) rfl (h5 ▸ h6)]; rfl
  have h4 : ZdW lkA [tA 2 [118, 97, 114] [tA 1 [45, 45, 98] []]] = [nA 2000] := by
    rw [ZdW, ZdW, if_pos (by rfl), show (Zax (tA 2 [118, 97, 114] [tA 1 [45, 45, 98] []]).l).1 = [45, 45, 98] from h5, h6]; rfl
  have hc : Zbk [nA 2000] = 0 := by decide
  intro x hx hn
  simp only [rawA, List.mem_cons, List.not_mem_nil, or_false] at hx
  rcases hx with rfl | rfl | rfl
  · simp only [Zyo, cA, ZgA, h3, h4, hc, if_true]; rw [if_neg (by omega)]; rfl
  · simp only [Zyo, cA, ZgA, h1, h2, hc, if_true]; rw [if_neg (by omega)]; rfl
  · exact absurd rfl hn
theorem Yer {a b : List UInt8} (h : Edge (Za8 rawA) a b) : ∃ x ∈ rawA, x.name = a ∧ b ∈ Zb2 x.val := by
  obtain ⟨u, h1, h2, h3⟩ := h
  have : a ∈ (Za8 rawA).map Prod.fst := mget_iff.1 (by rw [h1]; rfl)
  have : a ∈ rawA.map Cus.name := by simpa [Za8] using this
  obtain ⟨x, hx, rfl⟩ := List.mem_map.1 this
  exact ⟨x, hx, rfl, ((ZoV Zml hx).1 ⟨u, h1, h2, h3⟩).1⟩
theorem edA {a b : List UInt8} (h : Edge (Za8 rawA) a b) : a = [45, 45, 97] ∧ b = [45, 45, 98] ∨ a = [45, 45, 99] ∧ b = [45, 45, 99] := by
  obtain ⟨x, hx, rfl, hb⟩ := Yer h
  rw [usA x hx] at hb
  simp only [rawA, List.mem_cons, List.not_mem_nil, or_false] at hx
  rcases hx with rfl | rfl | rfl
  · left; simpa [cA] using hb
  · simp [cA] at hb
  · right; simpa [cA] using hb
theorem Yec {a b : List UInt8} (h : Path (Za8 rawA) a b) : a = [45, 45, 97] ∧ b = [45, 45, 98] ∨ a = [45, 45, 99] ∧ b = [45, 45, 99] := by
  induction h with
  | one h => exact edA h
  | step h t ih =>
    rcases edA h with ⟨rfl, rfl⟩ | ⟨rfl, rfl⟩
    · rcases ih with ⟨h, _⟩ | ⟨h, _⟩ <;> simp at h
    · rcases ih with ⟨h, _⟩ | ⟨_, h⟩
      · simp at h
      · exact .inr ⟨rfl, h⟩
theorem solA : Sol rawA lkA where
  out n hn := by
    unfold lkA
    rw [if_neg]
    rintro (rfl | rfl) <;> exact hn (by decide)
  loop n hn := by
    unfold lkA
    rw [if_neg]
    rintro (rfl | rfl) <;> rcases Yec hn with ⟨h1, h2⟩ | ⟨h1, h2⟩ <;> first | (simp at h1; done) | (simp at h2; done)
  val x hx hn := by
    by_cases h3 : x.name = [45, 45, 99]
    · have hm : x.name ∈ Zb2 x.val := by
        rw [usA x hx, h3]
        decide
      exact absurd (.one ((ZoV Zml hx).2 ⟨hm, List.mem_map.2 ⟨x, hx, rfl⟩⟩)) hn
    · rw [Yen x hx h3]
      simp only [rawA, List.mem_cons, List.not_mem_nil, or_false] at hx
      rcases hx with rfl | rfl | rfl
      · rfl
      · rfl
      · exact absurd rfl h3
theorem Ybm : Zp8 rawA (Zkx rawA) = outA := by
  have h : lkM (Zkx rawA) = lkA := ZzV Zml (by decide) (ZvX Zml (by decide)) solA
  unfold Zp8
  have e : ∀ n, Za5 BEq.beq n (Zkx rawA) = lkA n := fun n => by rw [← h]; rfl
  simp only [e]
  rfl
def K8 : Zaa := fun f args h => bif Nat.beq f 43 then (match args, h with
  | [.d v], [] => bif Zst v (d44 rawA) then some (.d (.slc (outA.map Cus.enc)), []) else none
  | _, _ => none) else none
theorem Yei : Zbq Tryz.prog K8 := by
  intro f args h r h' he
  unfold K8 at he
  cases hb : Nat.beq f 43 with
  | false => rw [hb] at he; cases he
  | true =>
    rw [hb, cond_true] at he
    have := Nat.eq_of_beq_eq_true hb
    subst this
    split at he
    · rename_i v
      cases hv : Zst v (d44 rawA) with
      | false => rw [hv] at he; cases he
      | true =>
        rw [hv, cond_true] at he
        have := ZxI _ _ hv
        subst this
        cases he
        rw [← Ybm]
        exact Zx8 rawA Zml ⟨by decide, by decide⟩
    · cases he
set_option maxRecDepth 100000 in
theorem al8 : ZjO C K8 80 8 [] [] = some (.d (.bool true), []) := by kernel_rfl
noncomputable def K2 (K : Zaa) : Zaa := fun f args h => bif Nat.beq f 8 then (match args, h with
  | [], [] => some (.d (.bool true), [])
  | _, _ => none) else K f args h
theorem Yes {K : Zaa} (hK : Zbq Tryz.prog K) : Zbq Tryz.prog (K2 K) := by
  intro f args h r h' he
  unfold K2 at he
  cases hb : Nat.beq f 8 with
  | false => rw [hb] at he; exact hK _ _ _ _ _ he
  | true =>
    rw [hb, cond_true] at he
    have := Nat.eq_of_beq_eq_true hb
    subst this
    split at he
    · cases he
      exact Zh8 Zai mixed Yei 80 _ _ _ _ _ al8
    · cases he
theorem Ybp {K : Zaa} (hK : Zcp K) : Zcp (K2 K) := by
  intro f args h hf
  unfold K2
  rw [show Nat.beq f 8 = false from beq_ne.2 fun e => hf (by subst e; decide)]
  exact hK f args h hf
theorem Ybl {K : Zaa} (hK : Zmj K) : Zmj (K2 K) := fun args h r he => hK args h r he
theorem YcO {K : Zaa} : Zag U (Zab C (K2 K)) 8 ⟨true, [], [4], fun _ => some true⟩ := by
  intro vs a r ds g hp hd hs hr
  have hp : ZzJ U [] vs = some a := hp
  cases vs with
  | cons v vs => simp [ZzJ, ZfP] at hp
  | nil =>
    simp only [dvL, Option.some.injEq] at hd
    subst hd
    have hr : U.inj 4 = some g := hr
    have hs : some true = some r := hs
    refine ⟨_, ok.inj _ _ r hr, ?_⟩
    unfold ZcL
    have : Zab C (K2 K) 8 [] [] = some (.d (.bool true), []) := ZlN rfl
    cases hs
    simp only [List.map_nil, this]
    rfl
end Go.Tev.S1
namespace Go.Tev.S1
open Go.Abs Go.Proofs
abbrev T7b : Type := (List Val) × (List Cus) → Option ((List Val) × Int)
abbrev T7c : Type := (List Val) × (List Val) → Option Bool
abbrev T7i : Type := Unit → Option Bool
abbrev T7j : Type := (List Val) → Option Bool
abbrev T7k : Type := (List Cus) → Option Bool
abbrev T7l : Type := (List Cus) → Option Int
abbrev T7m : Type := (List Val) → Option ((List (List UInt8)) × Int)
abbrev P7b (K : Zaa) (t : T7b) : Prop := Zag U (Zab C K) 12 ⟨true, [.ty 22, .ty 23], [22, 28], t⟩
abbrev P7c (K : Zaa) (t : T7c) : Prop := Zag U (Zab C K) 15 ⟨true, [.ty 22, .ty 22], [4], t⟩
abbrev P7i (K : Zaa) (t : T7i) : Prop := Zag U (Zab C K) 8 ⟨true, [], [4], t⟩
abbrev P7j (K : Zaa) (t : T7j) : Prop := Zag U (Zab C K) 9 ⟨true, [.ty 22], [4], t⟩
abbrev P7k (K : Zaa) (t : T7k) : Prop := Zag U (Zab C K) 10 ⟨true, [.ty 23], [4], t⟩
abbrev P7l (K : Zaa) (t : T7l) : Prop := Zag U (Zab C K) 11 ⟨true, [.ty 23], [3], t⟩
abbrev P7m (K : Zaa) (t : T7m) : Prop := Zag U (Zab C K) 13 ⟨true, [.ty 22], [31, 28], t⟩
abbrev P7n (K : Zaa) (t : T7j) : Prop := Zag U (Zab C K) 14 ⟨true, [.ty 22], [4], t⟩
def ZdG (qi : T7i) (qj : T7j) (qk : T7k) (ql : T7l) (qb : T7b) (qm : T7m) (qn : T7j) (qc : T7c) (n : Nat) (p0 : List Val) (p1 : List Cus) (p2 : List Cus) : Option Bool :=
  Option.bind (qi ()) fun r1 =>
  Option.bind (qj p0) fun r2 =>
  Option.bind (cond (!r2) (qk p1) (some false)) fun r3 =>
  Option.bind (some (cond r2 true r3)) fun m4 =>
  Option.bind (cond (!m4) (qk p2) (some false)) fun r5 =>
  Option.bind (some (cond m4 true r5)) fun m6 =>
  Option.bind (cond (!m6) (ql p2) (some (0 : Int))) fun r7 =>
  Option.bind (some (cond m6 true (r7 != (0 : Int)))) fun m8 =>
  Option.bind (some (cond m8 true (!r1))) fun m9 =>
  cond m9
  (some r1)
  (Option.bind (qb (p0, p1)) fun r10 =>
  cond (r10.2 != (0 : Int))
  (Option.bind (some (cond r1 ((r10.1.length : Int) == (0 : Int)) false)) fun m11 =>
  some m11)
  (Option.bind (qb (r10.1, p2)) fun r12 =>
  Option.bind (qm r10.1) fun r13 =>
  Option.bind (cond r1 (qn r10.1) (some false)) fun r14 =>
  Option.bind (some (cond r1 (!r14) false)) fun m15 =>
  Option.bind (some (cond m15 (r12.2 == (0 : Int)) false)) fun m16 =>
  Option.bind (cond m16 (qc (r10.1, r12.1)) (some false)) fun r17 =>
  Option.bind (some (cond m16 r17 false)) fun m18 =>
  Option.bind (some (cond m18 (r13.2 == (0 : Int)) false)) fun m19 =>
  Option.bind (some (cond m19 ((r13.1.length : Int) == (0 : Int)) false)) fun m20 =>
  some m20))
abbrev ZjL (qi : T7i) (qj : T7j) (qk : T7k) (ql : T7l) (qb : T7b) (qm : T7m) (qn : T7j) (qc : T7c) : List (Nat × TCall X) := [(8, ⟨true, [], [4], qi⟩), (9, ⟨true, [.ty 22], [4], qj⟩), (10, ⟨true, [.ty 23], [4], qk⟩), (11, ⟨true, [.ty 23], [3], ql⟩), (12, ⟨true, [.ty 22, .ty 23], [22, 28], qb⟩), (13, ⟨true, [.ty 22], [31, 28], qm⟩), (14, ⟨true, [.ty 22], [4], qn⟩), (15, ⟨true, [.ty 22, .ty 22], [4], qc⟩)]
noncomputable abbrev Zcs (qi : T7i) (qj : T7j) (qk : T7k) (ql : T7l) (qb : T7b) (qm : T7m) (qn : T7j) (qc : T7c) : Cx := ⟨C, U, ZjL qi qj qk ql qb qm qn qc, [], fun _ => []⟩
theorem Ziw : okF (C.ann 3) Tryz.f3 3 = true := by kernel_rfl
noncomputable abbrev Zeq (qi : T7i) (qj : T7j) (qk : T7k) (ql : T7l) (qb : T7b) (qm : T7m) (qn : T7j) (qc : T7c) (n : Nat) : Zek (Zcs qi qj qk ql qb qm qn qc) (PX X [4]) := []
theorem Zj6 (qi : T7i) (qj : T7j) (qk : T7k) (ql : T7l) (qb : T7b) (qm : T7m) (qn : T7j) (qc : T7c) (n : Nat) : ∀ a, fnL (Zcs qi qj qk ql qb qm qn qc) true 3 Tryz.f3 [.ty 22, .ty 23, .ty 23] [4] (Zeq qi qj qk ql qb qm qn qc n) a = ZdG qi qj qk ql qb qm qn qc n a.1 a.2.1 a.2.2 := by
  intro a
  kernel_rfl
theorem Zjq {K : Zaa} (qi : T7i) (qj : T7j) (qk : T7k) (ql : T7l) (qb : T7b) (qm : T7m) (qn : T7j) (qc : T7c) (h0 : P7i K qi) (h1 : P7j K qj) (h2 : P7k K qk) (h3 : P7l K ql) (h4 : P7b K qb) (h5 : P7m K qm) (h6 : P7n K qn) (h7 : P7c K qc) : CallsOk (Zcs qi qj qk ql qb qm qn qc) (Zab C K) :=
  ⟨(Zae h0 (Zae h1 (Zae h2 (Zae h3 (Zae h4 (Zae h5 (Zae h6 (Zae h7 Zaw)))))))), Zav⟩
theorem ZgI {K : Zaa} (hK : ∀ args h, K 3 args h = none) (qi : T7i) (qj : T7j) (qk : T7k) (ql : T7l) (qb : T7b) (qm : T7m) (qn : T7j) (qc : T7c) (h0 : P7i K qi) (h1 : P7j K qj) (h2 : P7k K qk) (h3 : P7l K ql) (h4 : P7b K qb) (h5 : P7m K qm) (h6 : P7n K qn) (h7 : P7c K qc) (t : PX X (AK.tys [.ty 22, .ty 23, .ty 23]) → Option (PX X [4])) (h : ∀ a r, t a = some r → ∃ n, ZdG qi qj qk ql qb qm qn qc n a.1 a.2.1 a.2.2 = some r) : Zag U (Zab C K) 3 ⟨true, [.ty 22, .ty 23, .ty 23], [4], t⟩ := by
  refine Zap (x := Zcs qi qj qk ql qb qm qn qc) (ak := [.ty 22, .ty 23, .ty 23]) (rts := [4]) (dir := true) ok (Zjq qi qj qk ql qb qm qn qc h0 h1 h2 h3 h4 h5 h6 h7) hK Tryz.func3 Ziw fun a r hr => ?_
  obtain ⟨n, hn⟩ := h a r hr
  exact ⟨n, Zeq qi qj qk ql qb qm qn qc n, (Zal (show Zak 0 (Zac Tryz.f3) = [] by kernel_rfl)), (Zj6 qi qj qk ql qb qm qn qc n a).trans hn⟩
end Go.Tev.S1
namespace Go.Tev.S1
open Go.Abs Go.Proofs
theorem ZiO {lk : Lk} (hk : ∀ n x, lk n = some x → ZaW x = false) : ∀ l, ZaW (ZdW lk l) = false
  | [] => by rw [ZdW]; rfl
  | v :: r => by
    rw [ZdW, Zkl, ZiO hk r, Bool.or_false]
    by_cases h : v.ref = true
    · rw [if_pos h]
      split
      · rename_i x hx; exact hk _ _ hx
      · exact ZiO hk (Zax v.l).2.1
    · rw [if_neg h]
      have h2 : (Val.mk v.tok (ZdW lk v.l)).hasv = (v.ref || ZaW (ZdW lk v.l)) := by rw [Val.hasv_eq]; rfl
      rw [ZaW, h2, ZiO hk v.l]
      simp only [Bool.not_eq_true] at h
      rw [h]; rfl
termination_by l => Zah l
decreasing_by
  · exact Zo3 v r
  · exact Zit v r
  · exact Zrw v r
mutual
theorem Zu5 : ∀ v : Val, v.hasv = false → v.uses = []
  | .mk t l, h => by
    rw [Val.hasv_eq, Bool.or_eq_false_iff] at h
    rw [Val.uses_eq, h.1, show Zb2 (Val.mk t l).l = [] from Zil l h.2]
    rfl
theorem Zil : ∀ l : List Val, ZaW l = false → Zb2 l = []
  | [], _ => rfl
  | v :: r, h => by
    rw [ZaW, Bool.or_eq_false_iff] at h
    rw [Zb2, Zu5 v h.1, Zil r h.2]
    rfl
end
theorem Ya6 {l : List Val} {c : List Cus} (h2 : ZkO c) (h : (Zp9 l c).2 = 0) : Zbk (Zp9 l c).1 = 0 ∧ ZaW (Zp9 l c).1 = false := by
  unfold Zp9 at h ⊢
  split at h
  · rename_i h3; exact absurd h h3
  · rename_i h3
    rw [if_neg h3]
    split at h
    · rename_i h4; exact absurd h h4
    · rename_i h4
      rw [if_neg h4]
      have hk := (Zxj (Decidable.of_not_not h4) h2).1
      unfold ZgA at h ⊢
      split at h
      · simp at h
      · rename_i n hn
        split at h
        · simp at h
        · rename_i h5
          simp only [if_neg h5] at h ⊢
          split at h
          · rename_i h6
            rw [if_pos h6]
            exact ⟨h6, ZiO (fun n x hx => (hk n x hx).2) l⟩
          · rename_i h6; exact absurd h h6
theorem Zxv {x : List Val} {d : List Cus} (h1 : Zbk x = 0) (h2 : ZaW x = false) (h3 : Zsg d = 0) : Zp9 x d = (x, 0) := by
  unfold Zp9
  rw [if_neg (by simpa using h1), if_neg (by simpa using h3)]
  unfold ZgA
  rw [Zpu _ x h2]
  simp only [h2, and_false, Bool.false_eq_true, if_false, ZtZ _ x h2, h1, if_true]
theorem ZyQ {l : List Val} {c : List Cus} (h : (Zp9 l c).2 ≠ 0) : (Zp9 l c).1 = [] := by
  unfold Zp9 at h ⊢
  split
  · rfl
  · rename_i h3
    split
    · rfl
    · rename_i h4
      rw [if_neg h3, if_neg h4] at h
      unfold ZgA at h ⊢
      split
      · rfl
      · rename_i n hn
        split
        · rfl
        · rename_i h5
          split
          · rename_i h6
            rw [hn] at h
            simp only [if_neg h5, if_pos h6] at h
            exact absurd rfl h
          · rfl
theorem Zsq {x : List Val} (h1 : Zbk x = 0) (h2 : ZaW x = false) : Zx0 x = ([], 0) := by
  unfold Zx0
  rw [if_neg (by simpa using h1), Zil x h2]
  rfl
theorem Zwr (l : List Val) (c d : List Cus) (h : Zah l ≤ B) (hc : ZkO c) (hd : ZkO d) : ZdG (fun _ => some true) ZnS Zl8 Ybe ZiI ZrD ZsX Ztg 0 l c d = some true := by
  obtain ⟨b1, g1⟩ := ZlV hc
  obtain ⟨b2, g2⟩ := ZlV hd
  unfold ZdG
  simp only [Option.bind_some, ZqL h, g1, g2, Zsu hd, Zky h hc]
  have ht := Yat h hc
  cases ZuS l
  case true => rfl
  simp only [Bool.not_false, cond_true, cond_false, Option.bind_some]
  cases b1
  case true => rfl
  simp only [Bool.not_false, cond_true, cond_false, Option.bind_some, g2]
  cases b2
  case true => rfl
  simp only [Bool.not_false, cond_true, cond_false, Option.bind_some, Zsu hd, Bool.not_true]
  cases e1 : (Zsg d != 0)
  case true => rfl
  have hd0 : Zsg d = 0 := by simpa using e1
  simp only [Bool.not_false, cond_true, cond_false, Option.bind_some]
  cases e2 : ((Zp9 l c).2 != 0)
  case true =>
    have : (Zp9 l c).1 = [] := ZyQ (by simpa using e2)
    simp only [cond_true, this]
    rfl
  have h0 : (Zp9 l c).2 = 0 := by simpa using e2
  obtain ⟨h5, h6⟩ := Ya6 hc h0
  simp only [cond_false, Zky ht hd, Zxv h5 h6 hd0, ZwI ht, Zsq h5 h6, ZjG ht, h6, Option.bind_some, Bool.not_false, cond_true, beq_self_eq_true, ZtR ht ht, ZmK]
  rfl
open Classical in
noncomputable def YbR (a : List Val × List Cus × List Cus) : Option Bool := if Zah a.1 ≤ B ∧ ZkO a.2.1 ∧ ZkO a.2.2 then some true else none
theorem Zsm {K : Zaa} (hK : Zcp K) (hS : Zmj K) (ha : Zag U (Zab C K) 8 ⟨true, [], [4], fun _ => some true⟩) : Zag U (Zab C K) 3 ⟨true, [.ty 22, .ty 23, .ty 23], [4], YbR⟩ :=
  ZgI (kf hK 3 (by decide)) _ _ _ _ _ _ _ _ ha (Zwa hK) (Zzv hK) (ZzM hK) (Zx7 hK) (Zvj hK hS) (Ybu hK) (YdA hK) _ fun a r h => by
    have h : YbR a = some r := h
    unfold YbR at h
    split at h
    · rename_i h3; cases h; exact ⟨0, Zwr a.1 a.2.1 a.2.2 h3.1 h3.2.1 h3.2.2⟩
    · cases h
end Go.Tev.S1
