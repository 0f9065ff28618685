/- A certified evaluator for the walked functions, and their contracts, for the laws of the variables. -/
import Derived.Shelf.SlIter.Nil
import Derived.Shelf.SortM.Plain
import Derived.Shelf.SortM.SortNone
import Derived.Ground.GgzProg
import Derived.Ground.SlgmProg
import Derived.Test.YtnmlodkomklpfaaGreatProg
import Derived.Test.YtnmlodkomklpfaaGreatLI
import Derived.Test.YtnmlodkomklpfaaGreatLJ
import Derived.Test.YtnmlodkomklpfaaGreatLG
import Derived.Test.YtnmlodkomklpfaaGreatLH
import Derived.Test.YtnmlodkomklpfaaGreatLF
set_option linter.unusedVariables false
set_option linter.unusedSimpArgs false
namespace Go.Proofs
open Go.Shelf
set_option maxRecDepth 100000 in
def Tryz.keys36_ren : Go.Shelf.Ren := ⟨fun | 7 => 38 | 10 => 59 | n => n, fun | 23 => 62 | 26 => 9 | 3 => 4 | 28 => 66 | 0 => 0 | 27 => 65 | 33 => 80 | 4 => 4 | n => n, fun | n => n⟩
set_option maxRecDepth 100000 in
theorem Tryz.keys36 : Go.Proofs.SlLaysZ.n7 Tryz.prog Tryz.keys36_ren := {
  mixed := by kernel_rfl
  f7 := ⟨Tryz.f38.name, by decide, Tryz.func38.trans (congrArg some (by kernel_rfl))⟩
  f10 := ⟨Tryz.f59.name, by decide, Tryz.func59.trans (congrArg some (by kernel_rfl))⟩
  t0 := Tryz.underlying0
  a0 := Tryz.isAgg0
  z0 := Tryz.sizeOf0
  v0 := Tryz.zeroValue0
  t4 := Tryz.underlying4
  a4 := Tryz.isAgg4
  z4 := Tryz.sizeOf4
  v4 := Tryz.zeroValue4
  t23 := Tryz.underlying62
  a23 := Tryz.isAgg62
  z23 := Tryz.sizeOf62
  v23 := Tryz.zeroValue62
  t26 := Tryz.underlying9
  a26 := Tryz.isAgg9
  z26 := Tryz.sizeOf9
  v26 := Tryz.zeroValue9
  t27 := Tryz.underlying65
  a27 := Tryz.isAgg65
  z27 := Tryz.sizeOf65
  v27 := Tryz.zeroValue65
  t28 := Tryz.underlying66
  a28 := Tryz.isAgg66
  z28 := Tryz.sizeOf66
  v28 := Tryz.zeroValue66
  t33 := Tryz.underlying80
  a33 := Tryz.isAgg80
  z33 := Tryz.sizeOf80
  v33 := Tryz.zeroValue80 }
set_option maxRecDepth 100000 in
def Tryz.sorted35_ren : Go.Shelf.Ren := ⟨fun | 6 => 37 | 8 => 57 | 9 => 58 | 11 => 69 | 13 => 71 | 12 => 70 | 23 => 87 | 24 => 88 | 14 => 78 | 15 => 79 | 16 => 80 | 17 => 81 | 18 => 82 | 19 => 83 | 20 => 84 | 21 => 85 | 22 => 86 | 25 => 102 | 26 => 103 | 27 => 104 | 28 => 105 | 29 => 106 | 30 => 107 | 31 => 116 | n => n, fun | 26 => 9 | 28 => 66 | 24 => 31 | 0 => 0 | 3 => 3 | 37 => 105 | 48 => 123 | 50 => 125 | 4 => 4 | 40 => 116 | 39 => 115 | 45 => 120 | 5 => 5 | 9 => 9 | 51 => 130 | 55 => 134 | 57 => 139 | 58 => 140 | 33 => 80 | n => n, fun | n => n⟩
set_option maxRecDepth 100000 in
theorem Tryz.sorted35 : Go.Proofs.SlLaysZ.n6 Tryz.prog Tryz.sorted35_ren := {
  mixed := by kernel_rfl
  f6 := ⟨Tryz.f37.name, by decide, Tryz.func37.trans (congrArg some (by kernel_rfl))⟩
  f8 := ⟨Tryz.f57.name, by decide, Tryz.func57.trans (congrArg some (by kernel_rfl))⟩
  f11 := ⟨Tryz.f69.name, by decide, Tryz.func69.trans (congrArg some (by kernel_rfl))⟩
  t0 := Tryz.underlying0
  a0 := Tryz.isAgg0
  z0 := Tryz.sizeOf0
  v0 := Tryz.zeroValue0
  t24 := Tryz.underlying31
  a24 := Tryz.isAgg31
  z24 := Tryz.sizeOf31
  v24 := Tryz.zeroValue31
  t26 := Tryz.underlying9
  a26 := Tryz.isAgg9
  z26 := Tryz.sizeOf9
  v26 := Tryz.zeroValue9
  t28 := Tryz.underlying66
  a28 := Tryz.isAgg66
  z28 := Tryz.sizeOf66
  v28 := Tryz.zeroValue66
  i26 := by kernel_rfl }
set_option maxRecDepth 100000 in
def Tryz.sort58_ren : Go.Shelf.Ren := ⟨fun | 6 => 58 | 8 => 71 | 9 => 70 | 19 => 87 | 20 => 88 | 21 => 78 | 22 => 79 | 23 => 80 | 24 => 81 | 25 => 82 | 26 => 83 | 27 => 84 | 28 => 85 | 29 => 86 | 36 => 102 | 31 => 103 | 32 => 104 | 37 => 105 | 38 => 106 | 39 => 107 | 41 => 116 | n => n, fun | 27 => 31 | 29 => 9 | 3 => 3 | 32 => 105 | 26 => 31 | 0 => 0 | 44 => 123 | 46 => 125 | 4 => 4 | 36 => 116 | 35 => 115 | 41 => 120 | 5 => 5 | 9 => 9 | 53 => 130 | 57 => 134 | 63 => 139 | 64 => 140 | n => n, fun | n => n⟩
set_option maxRecDepth 100000 in
theorem Tryz.sort58 : Go.Proofs.SlLaysM.n6 Tryz.prog Tryz.sort58_ren := {
  mixed := by kernel_rfl
  f6 := ⟨Tryz.f58.name, by decide, Tryz.func58.trans (congrArg some (by kernel_rfl))⟩
  f8 := Tryz.func71.trans (congrArg some (by kernel_rfl))
  f9 := ⟨Tryz.f70.name, by decide, Tryz.func70.trans (congrArg some (by kernel_rfl))⟩
  f19 := Tryz.func87.trans (congrArg some (by kernel_rfl))
  f20 := Tryz.func88.trans (congrArg some (by kernel_rfl))
  f21 := ⟨Tryz.f78.name, by decide, Tryz.func78.trans (congrArg some (by kernel_rfl))⟩
  f22 := ⟨Tryz.f79.name, by decide, Tryz.func79.trans (congrArg some (by kernel_rfl))⟩
  f23 := ⟨Tryz.f80.name, by decide, Tryz.func80.trans (congrArg some (by kernel_rfl))⟩
  f24 := ⟨Tryz.f81.name, by decide, Tryz.func81.trans (congrArg some (by kernel_rfl))⟩
  f25 := ⟨Tryz.f82.name, by decide, Tryz.func82.trans (congrArg some (by kernel_rfl))⟩
  f26 := ⟨Tryz.f83.name, by decide, Tryz.func83.trans (congrArg some (by kernel_rfl))⟩
  f27 := ⟨Tryz.f84.name, by decide, Tryz.func84.trans (congrArg some (by kernel_rfl))⟩
  f28 := ⟨Tryz.f85.name, by decide, Tryz.func85.trans (congrArg some (by kernel_rfl))⟩
  f29 := ⟨Tryz.f86.name, by decide, Tryz.func86.trans (congrArg some (by kernel_rfl))⟩
  f31 := Tryz.func103.trans (congrArg some (by kernel_rfl))
  f32 := Tryz.func104.trans (congrArg some (by kernel_rfl))
  f36 := ⟨Tryz.f102.name, by decide, Tryz.func102.trans (congrArg some (by kernel_rfl))⟩
  f37 := ⟨Tryz.f105.name, by decide, Tryz.func105.trans (congrArg some (by kernel_rfl))⟩
  f38 := ⟨Tryz.f106.name, by decide, Tryz.func106.trans (congrArg some (by kernel_rfl))⟩
  f39 := ⟨Tryz.f107.name, by decide, Tryz.func107.trans (congrArg some (by kernel_rfl))⟩
  f41 := ⟨Tryz.f116.name, by decide, Tryz.func116.trans (congrArg some (by kernel_rfl))⟩
  t0 := Tryz.underlying0
  a0 := Tryz.isAgg0
  z0 := Tryz.sizeOf0
  v0 := Tryz.zeroValue0
  t3 := Tryz.underlying3
  a3 := Tryz.isAgg3
  z3 := Tryz.sizeOf3
  v3 := Tryz.zeroValue3
  t4 := Tryz.underlying4
  a4 := Tryz.isAgg4
  z4 := Tryz.sizeOf4
  v4 := Tryz.zeroValue4
  t5 := Tryz.underlying5
  a5 := Tryz.isAgg5
  z5 := Tryz.sizeOf5
  v5 := Tryz.zeroValue5
  t9 := Tryz.underlying9
  a9 := Tryz.isAgg9
  z9 := Tryz.sizeOf9
  v9 := Tryz.zeroValue9
  t26 := Tryz.underlying31
  a26 := Tryz.isAgg31
  z26 := Tryz.sizeOf31
  v26 := Tryz.zeroValue31
  t27 := Tryz.underlying31
  a27 := Tryz.isAgg31
  z27 := Tryz.sizeOf31
  v27 := Tryz.zeroValue31
  t29 := Tryz.underlying9
  a29 := Tryz.isAgg9
  z29 := Tryz.sizeOf9
  v29 := Tryz.zeroValue9
  t32 := Tryz.underlying105
  a32 := Tryz.isAgg105
  z32 := Tryz.sizeOf105
  v32 := Tryz.zeroValue105
  t35 := Tryz.underlying115
  a35 := Tryz.isAgg115
  z35 := Tryz.sizeOf115
  v35 := Tryz.zeroValue115
  t36 := Tryz.underlying116
  a36 := Tryz.isAgg116
  z36 := Tryz.sizeOf116
  v36 := Tryz.zeroValue116
  t41 := Tryz.underlying120
  a41 := Tryz.isAgg120
  z41 := Tryz.sizeOf120
  v41 := Tryz.zeroValue120
  t44 := Tryz.underlying123
  a44 := Tryz.isAgg123
  z44 := Tryz.sizeOf123
  v44 := Tryz.zeroValue123
  t46 := Tryz.underlying125
  a46 := Tryz.isAgg125
  z46 := Tryz.sizeOf125
  v46 := Tryz.zeroValue125
  t53 := Tryz.underlying130
  a53 := Tryz.isAgg130
  z53 := Tryz.sizeOf130
  v53 := Tryz.zeroValue130
  t57 := Tryz.underlying134
  a57 := Tryz.isAgg134
  z57 := Tryz.sizeOf134
  v57 := Tryz.zeroValue134
  t63 := Tryz.underlying139
  a63 := Tryz.isAgg139
  z63 := Tryz.sizeOf139
  v63 := Tryz.zeroValue139
  t64 := Tryz.underlying140
  a64 := Tryz.isAgg140
  z64 := Tryz.sizeOf140
  v64 := Tryz.zeroValue140 }
set_option maxRecDepth 100000 in
theorem Tryz.sorts35 (m : Nat) : AnyZ.SortsIn Tryz.prog Tryz.sorted35_ren Fence.wide m :=
  ⟨fun blk off cap ss W hH hblk hsz => callsIn_wide.2 (AnyM.slices_Sort_string Tryz.sort58 blk off cap ss W hH hblk hsz),
   fun p cap W => callsIn_wide.2 (AnyM.slices_Sort_string_none Tryz.sort58 p cap W)⟩
end Go.Proofs
namespace Go.Abs
open Go.Proofs Go.RowKit Go.Maps Go.Sort Go.Shelf
set_option maxRecDepth 100000 in
set_option maxHeartbeats 1000000 in
theorem Zow : Znc Tryz.prog 37 59 9 := by
  intro bm b nn D0 R w hbm hcell hown hmax hbytes
  have hseq : SeqGives Fence.wide 2 Tryz.prog 59 #[.pointer (some ⟨bm, 0, none⟩)] encStr (fun ss => ss.Perm (strKeys D0)) (Maps.size D0) w :=
    AnyZ.keys_gives (ρ := Tryz.keys36_ren) { Tryz.keys36 with } Fence.wide _ trivial rfl (by omega) bm b nn D0 w hbm hcell hown
  exact callsIn_wide.1 (AnyZ.sorted_in Tryz.sorted35 Fence.wide 5 trivial trivial trivial trivial rfl (by omega) (Tryz.sorts35 _) (enters_of Tryz.func58 (by kernel_rfl) rfl) 59 #[.pointer (some ⟨bm, 0, none⟩)] trivial (enters_of Tryz.func59 (by kernel_rfl) rfl) _ _ hmax hbytes _ hseq)
set_option maxRecDepth 100000 in
theorem YbN {args : List AV} {h : List AObj} {r : AV} {h' : List AObj} (he : ZuV 59 args h = some (r, h')) : Has Tryz.prog 37 args h r h' :=
  Zze (vt := 4) ⟨_, Tryz.func37, by kernel_rfl⟩ Tryz.underlying9 Tryz.underlying4 Zow he
end Go.Abs
namespace Go.Abs
open Go.RowKit Go.ChangeShapes Go.WideShapes Go.ChangeAt
def Stays (W W' : World) : Prop := W'.os = W.os ∧ W'.output = W.output ∧ W.heap.size ≤ W'.heap.size ∧ ∀ b, b < W.heap.size → W'.heap[b]? = W.heap[b]?
theorem Stays.kept {W W' : World} (h : Stays W W') (may : MemPlace → Prop) : W.keptBut W' may := by
  refine ⟨h.1, h.2.1, fun i hi => ?_⟩
  rw [h.2.2.2 i hi]
  cases hx : W.heap[i]? with
  | none => exact rfl
  | some o => cases o <;> first | exact ⟨rfl, rfl, rfl, fun _ _ => rfl⟩ | exact .inr ⟨rfl, rfl⟩ | exact rfl
theorem Stays.frozen {W W' : World} (h : Stays W W') {a : Addr} (ha : a.block < W.heap.size) : W'.frozen? a = W.frozen? a := by
  simp only [World.frozen?, h.2.2.2 _ ha]
theorem Stays.same {W W' : World} (h : Stays W W') {p : MemPlace} (hp : p.block < W.heap.size) : W.sameAt W' p := by
  have h2 : ∀ W2 : World, W2 = { W' with tape := W.tape } → W.sameAt W2 p := fun W2 e => by
    have hb : Below W.heap.size W W2 := by subst e; exact ⟨h.1, rfl, h.2.1, h.2.2.1, h.2.2.2⟩
    exact hb.same hp
  have := h2 _ rfl
  exact this
theorem ZnE {H : Type} {enc : TypeId × Value → H} {P : Program} {f : Func} {s : ChangeSpec} {apart fresh handsOn again : Bool} {W W' : World} {args : Array Value} {v : Value} {ds gs : List (DataW H)} {before pa pv : List MemPlace}
    (hW : DataW.Whole enc P f.params.toList s.vars apart W args.toList ds gs before)
    (hres : ∀ (b : Nat) (sp : Nat → Bool) (hd : Bool), DataW.TrodAll enc P W' b sp hd f.resultTypes.toList (v.resultList f.resultTypes.size) (s.fn H (ds ++ gs)).results [])
    (hargs : ∀ sp : Nat → Bool, (∀ p ∈ before, sp p.block = true) → DataW.TrodAll enc P W' 0 sp true f.params.toList args.toList (s.fn H (ds ++ gs)).args pa)
    (hvars : ∀ sp : Nat → Bool, (∀ p ∈ before, sp p.block = true) → DataW.TrodVars enc P W' sp s.vars (s.fn H (ds ++ gs)).vars pv)
    (hps : before = pa ++ pv) (hS : Stays W W')
    (hok : ∀ (j : Nat) (t : TypeId) (r : Value), f.resultTypes[j]? = some t → (v.resultList f.resultTypes.size)[j]? = some r → Value.okWide P W' .any 0 t r) :
    s.post enc P f apart fresh handsOn again W args v W' := by
  have hold : ∀ p ∈ before, (fun b => decide (b < W.heap.size)) p.block = true := fun p hp => by simpa using hW.lt p hp
  have hlt : ∀ p ∈ before, p.block < W.heap.size := fun p hp => hW.lt p hp
  refine ⟨ds, gs, before, [], pa, pv, hW, hres _ _ _, hargs _ hold, hvars _ hold, World.keptBut_mono (fun p hp => ⟨hp, ?_⟩) (hS.kept (· ∈ before)), fun _ => ?_⟩
  · rw [hps, List.mem_append] at hp
    exact Or.inr hp
  · obtain ⟨_, _, _, _, _, hz, hn⟩ := hW
    refine ⟨hok, _, _, ([] ++ pa) ++ pv, ⟨[] ++ pa, pv, trodAll_append (hargs _ (fun _ _ => rfl)) (hres _ _ _), hvars _ (fun _ _ => rfl), rfl, ?_, ?_⟩, ?_⟩
    · intro b off hp
      have hm : MemPlace.cell b off ∈ before := by rw [hps]; simpa using hp
      rw [hS.frozen (a := ⟨b, off, none⟩) (hlt _ hm)]
      exact hz b off hm
    · intro ha
      have := hn ha
      rw [hps] at this
      simpa using this
    · intro p hp _
      rw [hps]
      simpa using hp
theorem YeU (P : Program) (W : World) : HRel P W ZbW [] :=
  ⟨fun id o h => (by simp at h), fun b b' x f f' h => (by cases h), fun b x h => (by cases h), fun b id f h => (by cases h)⟩
theorem Zx0 {P : Program} {f : FuncId} {ds : List DV} {b : Bool} {h' : List AObj} (h : Has P f (ds.map .d) [] (.d (.bool b)) h') {W : World} {vs : Array Value} (hl : vs.size = ds.length) (hr : ∀ (i : Nat) v d, vs[i]? = some v → ds[i]? = some d → Rep W ZbW v d) :
    Calls P f vs W fun e W' => e = .returned (.bool b) ∧ Stays W W' := by
  refine (h.2 W ZbW vs (YeU P W) (fun b x f hx => by cases hx) (by simpa using hl) fun i v x hv hx => ?_).mono ?_
  · rw [List.getElem?_map] at hx
    cases hd : ds[i]? with
    | none => rw [hd] at hx; cases hx
    | some d =>
      rw [hd] at hx
      cases hx
      exact .d _ _ (hr i v d hv hd)
  · rintro e w' ⟨v, own', rfl, _, _, h1, h2, _⟩
    cases h1 with
    | d _ _ h3 =>
      cases h3
      exact ⟨rfl, h2.os, h2.output, h2.size, fun b hb => (h2.blk b hb (.inl rfl)).1⟩
end Go.Abs
namespace Go.Tev.S1
open Go.Abs Go.Proofs Go.RowKit
noncomputable def K0 : Zaa := fun f args h => bif Nat.beq f 37 then ZuV 59 args h else none
theorem Yc9 : Za2 Tryz.prog K0 := by
  intro f args h r h' he
  unfold K0 at he
  cases hb : Nat.beq f 37 with
  | false => rw [hb] at he; cases he
  | true =>
    rw [hb] at he
    have : f = 37 := Nat.eq_of_beq_eq_true hb
    subst this
    exact YbN he
theorem Zjt : Zc2 K0 := by
  intro f args h hf
  unfold K0
  have : Nat.beq f 37 = false := beq_ne.2 fun e => hf (by subst e; decide)
  rw [this]; rfl
theorem Zxt : ZgM K0 := fun args h r he => he
theorem Zae : Za4 C.P := by
  have h : (Tryz.prog.funcs.all fun fn => !(fn.name == "runtime.NumGoroutine")) = true := by kernel_rfl
  intro f fn hf
  have := (Array.all_eq_true_iff_forall_mem.1 h) fn (Array.mem_of_getElem? hf)
  simpa using this
theorem mixed : C.P.follows .mixedOrders = true := by kernel_rfl
end Go.Tev.S1
namespace Go.Abs
theorem ZaW {α : Type} {l m : List (Nat × α)} {k : Nat} {v : α} (h : Zad l k = some v) : Zad (l ++ m) k = some v := by
  induction l with
  | nil => simp [Zad] at h
  | cons p l ih =>
    obtain ⟨i, x⟩ := p
    simp only [List.cons_append, Zad] at h ⊢
    cases hb : Nat.beq i k with
    | true => rw [hb] at h; exact h
    | false => rw [hb] at h; exact ih h
end Go.Abs
namespace Go.Tev.S1
open Go.Abs Go.Proofs
def Edge (G : Nd) (a b : List UInt8) : Prop := ∃ u, Za7 BEq.beq a G = some u ∧ b ∈ ZbV u ∧ (Za7 BEq.beq b G).isSome = true
inductive Path (G : Nd) : List UInt8 → List UInt8 → Prop where
  | one {a b : List UInt8} (h : Edge G a b) : Path G a b
  | step {a b c : List UInt8} (h : Edge G a b) (t : Path G b c) : Path G a c
structure WalkPost (G : Nd) (S : List (List UInt8)) (name : List UInt8) (S' : List (List UInt8)) : Prop where
  nd : S'.Nodup
  sub : ∀ m ∈ S, m ∈ S'
  ing : ∀ m ∈ S', (Za7 BEq.beq m G).isSome = true
  next : ∀ m, Edge G name m → m ∈ S'
  new : ∀ m ∈ S', m ∉ S → Path G name m ∧ ∀ k, Edge G m k → k ∈ S'
theorem Zin {β : Type} {a : List UInt8} : ∀ {G : List (List UInt8 × β)}, (Za7 BEq.beq a G).isSome = true → a ∈ G.map Prod.fst
  | [], h => by simp [Za7] at h
  | (k, u) :: r, h => by
    simp only [Za7] at h
    cases e : (a == k) with
    | true => rw [beq_iff_eq] at e; subst e; exact List.mem_cons_self
    | false => rw [e] at h; exact List.mem_cons_of_mem _ (Zin h)
theorem YbV {G : Nd} {S : List (List UInt8)} (hn : S.Nodup) (h : ∀ m ∈ S, (Za7 BEq.beq m G).isSome = true) : S.length ≤ G.length := by
  have := hn.length_le_of_subset (l₂ := G.map Prod.fst) fun m hm => Zin (h m hm)
  simpa using this
def R68 (G : Nd) (out : List (DV × AV)) (S : List (List UInt8)) (name : List UInt8) (r : AV) (h' : List AObj) : Prop := r = .d (.tup []) ∧ ∃ S', WalkPost G S name S' ∧ h' = H68 G out S'
structure Mid (G : Nd) (S : List (List UInt8)) (name : List UInt8) (u : Bm) (vis : List Nat) (S' : List (List UInt8)) : Prop where
  nd : S'.Nodup
  sub : ∀ m ∈ S, m ∈ S'
  ing : ∀ m ∈ S', (Za7 BEq.beq m G).isSome = true
  vis : ∀ j ∈ vis, ∀ nm b, u[j]? = some (nm, b) → (Za7 BEq.beq nm G).isSome = true → nm ∈ S'
  new : ∀ m ∈ S', m ∉ S → Path G name m ∧ ∀ k, Edge G m k → k ∈ S'
theorem YcT : okC (C.ann 73) (.region 3 (Go.Abs.ops ZzS) false) = true := by kernel_rfl
theorem Yb4 : okC (C.ann 73) (.region 4 (Go.Abs.ops Yad) false) = true := by kernel_rfl
theorem o68_5 : (opZ (opsL Zoa)).guard = none ∧ (opZ (opsL Zoa)).dst = some 28 ∧ (opZ (opsL Zoa)).op = .call { callee := .value (.tmp 26), args := #[.tmp 27], argTypes := #[9] } := by
  refine ⟨?_, ?_, ?_⟩ <;> kernel_rfl
theorem ZvI : ∀ (n : Nat) (G : Nd) (out : List (DV × AV)) (S : List (List UInt8)) (name : List UInt8), S.Nodup → (∀ m ∈ S, (Za7 BEq.beq m G).isSome = true) → (Za7 BEq.beq name G).isSome = true → G.length - S.length < n →
    HasN Tryz.prog 73 (YcX name) (H68 G out S) (R68 G out S name) := by
  intro n
  induction n with
  | zero => intro G out S name _ _ _ h; omega
  | succ n ih =>
    intro G out S name hnd hing hname hlt
    obtain ⟨u, hu⟩ := Option.isSome_iff_exists.1 hname
    have hK : Za2 C.P (fun _ _ _ => none : Zaa) := fun f args h r h' he => by cases he
    refine ZeE (C := C) (f := 73) (fn := Tryz.f73) Tryz.func73 Ycy (by kernel_rfl) ?_
    refine ZeQ (call := fun _ _ _ => none) Zae hK YeK (Ybv G out S name u hu) o68_0.2.1 o68_0.1 o68_0.2.2 (by kernel_rfl) (by kernel_rfl) (show opA _ (.tmp 8) = some (.d (.fmap (ZfM u))) from rfl) Yeg fun p => ?_
    have he : Zgx (ZgN 0 (YcX name)) 9 (SV.val (.raw p)) = e68 name p := rfl
    show Ydc C (C.ann 73) 9 p (ZfM u) _ ⟨Zgx (ZgN 0 (YcX name)) 9 (.val (.raw p)), [], H68 G out S⟩ _
    rw [he]
    refine Zl6 (call := fun _ _ _ => none) Zae hK YeD o68_1.2.1 o68_1.1 o68_1.2.2 (by kernel_rfl) (by kernel_rfl) YeE o68_2.2.1 o68_2.1 o68_2.2.2 (by kernel_rfl) (by kernel_rfl)
      (fun vis s => ∃ S', s = ⟨e68 name p, [], H68 G out S'⟩ ∧ Mid G S name u vis S') ⟨S, rfl, hnd, fun m h => h, hing, fun j h => by simp at h, fun m h h2 => absurd h h2⟩ (fun vis s ⟨S', hs, _⟩ => by subst hs; exact ⟨rfl, rfl⟩) ?_ ?_
    ·
      rintro vis s ⟨S', rfl, hM⟩ hall
      refine ⟨_, Zwq name p _ false [], rfl, ?_⟩
      refine ⟨[], rfl, rfl, S', ⟨hM.nd, hM.sub, hM.ing, fun m hm => ?_, hM.new⟩, rfl⟩
      obtain ⟨u', h1, h2, h3⟩ := hm
      rw [hu] at h1
      cases h1
      obtain ⟨q, hq, rfl⟩ := List.mem_map.1 h2
      obtain ⟨j, hj, rfl⟩ := List.mem_iff_getElem.1 hq
      exact hM.vis j (hall j (by simp [ZfM, hj])) u[j].1 u[j].2 (List.getElem?_eq_getElem hj) h3
    · rintro vis s j k v ⟨S', rfl, hM⟩ hj hjv
      rw [ZfM, List.getElem?_map] at hj
      cases huj : u[j]? with
      | none => rw [huj] at hj; cases hj
      | some q =>
        obtain ⟨nx, bb⟩ := q
        rw [huj] at hj
        cases hj
        refine ⟨_, _, Zwq name p _ true [.str nx, .bool bb], rfl, rfl, Ycm name p _ (.str nx) (.bool bb), ?_⟩
        have hsub : ∀ (more : List (Nat × SV)) (S2 : List (List UInt8)), Sub ⟨e68 name p, [], H68 G out S2⟩ ((⟨e68 name p ++ more, [], H68 G out S2⟩ : St).trim (e68 name p ++ [(11, .val (.d (.bool true)))])) := by
          intro more S2
          refine ⟨fun kk vv hv => ?_, rfl, rfl⟩
          simp only [St.trim]
          rw [alook_trimE _ _ _ (by rw [ZaW hv]; rfl)]
          exact ZaW hv
        refine ZcJ (Q1 := fun o => o = .norm ⟨e68 name p ++ [(11, .val (.d (.bool true))), (5, .val (.d (.str nx))), (23, .val (.d (.bool ((Za7 BEq.beq nx G).isSome && !decide (nx ∈ S')))))], [], H68 G out S'⟩) (ZcG (call := fun _ _ _ => none) Zae mixed hK YcT (Ya6 G out S' name nx p) rfl) ?_ (fun o h1 h2 => absurd h1 (h2 _))
        rintro s hs
        cases hs
        cases hc : ((Za7 BEq.beq nx G).isSome && !decide (nx ∈ S')) with
        | false =>
          refine Zhn (b := false) rfl (ZkI ?_)
          simp only [Za6]
          refine ⟨_, ⟨S', rfl, hM.nd, hM.sub, hM.ing, fun i hi nm b hb hg => ?_, hM.new⟩, hsub _ S'⟩
          rcases List.mem_cons.1 hi with rfl | hi
          · rw [huj] at hb
            cases hb
            rw [hg] at hc
            simpa using hc
          · exact hM.vis i hi nm b hb hg
        | true =>
          rw [Bool.and_eq_true, Bool.not_eq_true', decide_eq_false_iff_not] at hc
          obtain ⟨hg, hns⟩ := hc
          have hnd2 : (S' ++ [nx]).Nodup := by
            rw [List.nodup_append]
            exact ⟨hM.nd, by simp, fun a ha b hb => by rw [List.mem_singleton] at hb; subst hb; exact fun e => hns (e ▸ ha)⟩
          have hing2 : ∀ m ∈ S' ++ [nx], (Za7 BEq.beq m G).isSome = true := fun m hm => by
            rcases List.mem_append.1 hm with hm | hm
            · exact hM.ing m hm
            · rw [List.mem_singleton] at hm; subst hm; exact hg
          have hedge : Edge G name nx := ⟨u, hu, List.mem_map.2 ⟨_, List.mem_of_getElem? huj, rfl⟩, hg⟩
          refine Zhn (b := true) rfl ?_
          simp only [cond_true]
          refine ZcJ (Q1 := fun o => o = .norm ⟨e68 name p ++ [(11, .val (.d (.bool true))), (5, .val (.d (.str nx))), (23, .val (.d (.bool true)))], [], H68 G out (S' ++ [nx])⟩) (ZcG (call := fun _ _ _ => none) Zae mixed hK Yb4 (YcJ G out S' hns _ rfl rfl) rfl) ?_ (fun o h1 h2 => absurd h1 (h2 _))
          rintro s hs
          cases hs
          have hle : S.length ≤ S'.length := hnd.length_le_of_subset fun m hm => hM.sub m hm
          have hle2 := YbV hnd2 hing2
          simp only [List.length_append, List.length_cons, List.length_nil] at hle2
          have hrec := ih G out (S' ++ [nx]) nx hnd2 hing2 hg (by simp only [List.length_append, List.length_cons, List.length_nil]; omega)
          refine Zgz (call := fun _ _ _ => none) Zae hK YeX (YbD G out (S' ++ [nx]) nx _ rfl rfl) o68_5.1
            (Zhm Zae o68_5.2.2 rfl (fv := .fn 73 [.ptr 1 0, .ptr 4 0, .ptr 5 0]) (vs := [.d (.str nx)]) (caps := [.ptr 1 0, .ptr 4 0, .ptr 5 0]) rfl rfl rfl hrec (fun r h' _ => by
              rw [o68_5.2.1]
              exact ⟨_, rfl⟩)) ?_
          rintro s ⟨r, h', ⟨rfl, S2, hP, rfl⟩, hput⟩
          rw [o68_5.2.1] at hput
          cases hput
          simp only [Za6]
          have hnew : nx ∈ S2 := hP.sub nx (by simp)
          refine ⟨_, ⟨S2, rfl, hP.nd, fun m hm => hP.sub m (List.mem_append_left _ (hM.sub m hm)), hP.ing, fun i hi nm b hb hg2 => ?_, fun m hm hmS => ?_⟩, hsub _ S2⟩
          · rcases List.mem_cons.1 hi with rfl | hi
            · rw [huj] at hb
              cases hb
              exact hnew
            · exact hP.sub nm (List.mem_append_left _ (hM.vis i hi nm b hb hg2))
          · by_cases h1 : m ∈ S'
            · obtain ⟨g1, g2⟩ := hM.new m h1 hmS
              exact ⟨g1, fun k hk => hP.sub k (List.mem_append_left _ (g2 k hk))⟩
            · by_cases h2 : m = nx
              · subst h2
                exact ⟨.one hedge, fun k hk => hP.next k hk⟩
              · obtain ⟨g1, g2⟩ := hP.new m hm (by simp [h1, h2])
                exact ⟨.step hedge g1, g2⟩
end Go.Tev.S1
namespace Go.Abs
section
variable {C : Ctx} {call : Zaa} {fa : FA} {st s : St} {x y : Code} {Q : Out → Prop}
theorem ZaT (hn : Za4 C.P) (hm : C.P.follows .mixedOrders = true) (hK : Za2 C.P call) {n : Nat} (hok : okC fa x = true) (h : evQ C call fa n x st = some (.norm s)) (h2 : Tri C fa y s Q) : Tri C fa (.seq x y) st Q :=
  ZcJ (Q1 := fun o => o = .norm s) (ZcG hn hm hK hok h rfl) (fun s' hs => by cases hs; exact h2) (fun o h1 h2 => absurd h1 (h2 _))
end
end Go.Abs
namespace Go.Tev.S1
open Go.Abs Go.Proofs
noncomputable abbrev B44 : Code := Zac Tryz.f62
noncomputable abbrev X44 : Code := sq1 (sq2 (sq2 B44))
noncomputable abbrev Y44 : Code := sq2 (sq2 (sq2 B44))
noncomputable abbrev Z44 : Code := sq1 (sq2 Y44)
noncomputable abbrev L44 : Code := inn (inn (sq2 X44))
noncomputable abbrev M44 : Code := inn (inn (sq2 Z44))
noncomputable abbrev K44 : Code := inn (sq1 (sq2 (sq2 M44)))
noncomputable abbrev Yal : Code := sq1 B44
noncomputable abbrev Yag : Code := sq1 (sq2 B44)
noncomputable abbrev Zz6 : Code := sq1 X44
noncomputable abbrev ZyG : Code := sq1 Y44
noncomputable abbrev Zzx : Code := sq1 Z44
noncomputable abbrev ZpB : Code := sq1 M44
noncomputable abbrev ZpL : Code := sq1 K44
noncomputable abbrev Zrh : Code := sq1 (sq2 K44)
noncomputable abbrev Zps : Code := sq1 (sq2 (sq2 K44))
noncomputable abbrev Zqz : Code := sq1 (sq2 (sq2 (sq2 K44)))
noncomputable abbrev ZhR : Code := sq1 (sq2 (sq2 (sq2 (sq2 K44))))
noncomputable abbrev ZqO : Code := sq2 (sq2 (sq2 (sq2 (sq2 K44))))
noncomputable abbrev Zre : Code := sq2 (sq2 (sq2 M44))
noncomputable abbrev ZtO : Code := sq1 (sq2 (sq2 Y44))
theorem Ybg : Tryz.f62.body = some (.seq Yal (.seq Yag (.seq (.seq Zz6 (.block 0 (.loop L44))) (.seq ZyG (.seq (.seq Zzx (.block 2 (.loop (.seq ZpB (.seq (.cond (.tmp 34) .skip (.exit 2)) (.seq (.block 3 (.seq ZpL (.seq Zrh (.seq Zps (.seq Zqz (.seq (.region 15 (Go.Abs.ops ZhR) false) ZqO)))))) Zre)))))) (.seq ZtO .ret)))))) := by kernel_rfl
def ZaS (raw : List Cus) : Nd := raw.map fun x => (x.name, Zej [] x.val)
def d44 (raw : List Cus) : DV := .slc (raw.map Cus.enc)
def e44 (raw : List Cus) (i : Nat) : List (Nat × SV) := [(0, .val (.d (d44 raw))), (2, .val (.d .nilm)), (3, .val (.ptr 1 0)), (12, .val (.d (d44 raw))), (13, .val (.d (.int .i64 raw.length))), (14, .val (.d (.int .i64 i)))]
def h44 (G : Nd) : List AObj := [.map (ZnT G), .var [.mp 0]]
theorem ZuX : C.elemSize 23 = some 2 := by kernel_rfl
theorem zz98 : C.zero 107 = some .nilm := by kernel_rfl
theorem zz61 : C.zero 62 = some .nilm := by kernel_rfl
theorem zz99 : C.zero 108 = some .nilf := by kernel_rfl
theorem sz98 : C.size 107 = some 1 := by kernel_rfl
theorem sz61 : C.size 62 = some 1 := by kernel_rfl
theorem sz99 : C.size 108 = some 1 := by kernel_rfl
theorem Yc0 : C.size 39 = some 2 := by kernel_rfl
theorem YcY : C.zero 39 = some (.agg [.str [], .slc []]) := by kernel_rfl
theorem YcW : C.isAgg 39 = some true := by kernel_rfl
theorem ag9 : C.isAgg 9 = some false := by kernel_rfl
theorem Zz9 : C.isAgg 22 = some false := by kernel_rfl
theorem ZjC : C.field 39 0 = some ⟨ "Name", 9, 0, false, "", "", 0⟩ := by kernel_rfl
theorem ZoV : C.field 39 1 = some ⟨ "Value", 22, 1, false, "", "", 16⟩ := by kernel_rfl
theorem hz9 : C.hasSize 9 = true := by kernel_rfl
theorem ZyQ : C.hasSize 22 = true := by kernel_rfl
section
attribute [local simp] List.getElem?_cons_zero Option.bind_some Zvk Zeb Zcm Zbk ZfL ZdV ZcD Zjp ZfJ ZdR ZfH ZfF Zjz Zfo Zcf Zbz ZiB ZaB ZaQ Zjf ZaY Zck Zds Zc8 Zce has opx opd opA opD XV.flat XV.copy oD oA Zad ins ZlA ZfR St.put St.putOwn St.lose St.loseEnv unal ZjL Zjr Zpd dUn Zgx Zay Zcb Zbl Zbd ZaR Zch ZbE Zb6 Zig Zbi AV.cells AV.cellOk AV.single DV.cellOk ZuL ZuN Zvp DV.cells ZaJ ZeT ZaK Zb3 ZaL Za3 Zka Za0 Zeh mapO AV.toD ZaA ZbX Zea optD Zcd Za8 ZfD Zam Zb1 Zbo ZaE Zaz Zdi Zc1 Zbn St.trim Out.st
theorem Yb0 {call : Zaa} (raw : List Cus) : evQ C call (ann 62) 0 Yal ⟨ZgN 0 [.d (d44 raw)], [], []⟩ = some (.norm ⟨[(0, .val (.d (d44 raw))), (2, .val (.d .nilm))], [], []⟩) := by
  unfold Yal B44 Zac Tryz.f62
  simp only [Option.getD_some, sq1, ZgN]
  simp [-getElem?_pos, A62, Zai]
theorem Ybz {call : Zaa} (raw : List Cus) : evQ C call (ann 62) 0 Yag ⟨[(0, .val (.d (d44 raw))), (2, .val (.d .nilm))], [], []⟩ = some (.norm ⟨[(0, .val (.d (d44 raw))), (2, .val (.d .nilm)), (3, .val (.ptr 1 0))], [], h44 []⟩) := by
  unfold Yag B44 Zac Tryz.f62 h44 ZnT
  simp only [Option.getD_some, sq1, sq2]
  simp [-getElem?_pos, A62, Zai, m98, zz98, sz98, List.getElem?_append]
theorem YbG {call : Zaa} (raw : List Cus) : evQ C call (ann 62) 0 Zz6 ⟨[(0, .val (.d (d44 raw))), (2, .val (.d .nilm)), (3, .val (.ptr 1 0))], [], h44 []⟩ = some (.norm ⟨e44 raw 0, [], h44 []⟩) := by
  unfold Zz6 X44 B44 Zac Tryz.f62 h44 e44 d44
  simp only [Option.getD_some, sq1, sq2]
  simp [-getElem?_pos, A62, Zai, ZuX]
end
theorem Zpp (a : List UInt8) (v : AV) : ∀ G : Nd, Za7 BEq.beq a G = none → Zro (.str a) v (ZnT G) = some (ZnT G ++ [(.str a, v)])
  | [], _ => rfl
  | (k, u) :: r, h => by
    simp only [Za7] at h
    cases e : (a == k) with
    | true => rw [e] at h; cases h
    | false =>
      rw [e] at h
      have ih := Zpp a v r h
      simp only [ZnT, List.map_cons, List.cons_append, Zro, ZdT, e] at ih ⊢
      simp only [ih, Option.map_some]
theorem ZqC (a : List UInt8) (v : AV) : ∀ G : Nd, Za7 BEq.beq a G = none → ZfY (.str a) (ZnT G ++ [(.str a, v)]) = some (some v)
  | [], _ => by simp [ZnT, ZfY, ZdT]
  | (k, u) :: r, h => by
    simp only [Za7] at h
    cases e : (a == k) with
    | true => rw [e] at h; cases h
    | false =>
      rw [e] at h
      have ih := ZqC a v r h
      simp only [ZnT, List.map_cons, List.cons_append, ZfY, ZdT, e] at ih ⊢
      exact ih
theorem ZlX {raw : List Cus} {i : Nat} {x : Cus} (h : raw[i]? = some x) : (raw.map Cus.enc)[i]? = some (.agg [.str x.name, .slc (x.val.map Val.enc)]) := by rw [List.getElem?_map, h]; rfl
theorem YaX {raw : List Cus} {i : Nat} (h : i < raw.length) : idx (i : Int) raw.length = some i := Ztk h
section
attribute [local simp] List.getElem?_cons_zero Option.bind_some Zvk Zeb Zcm Zbk ZfL ZdV ZcD Zjp ZfJ ZdR ZfH ZfF Zjz Zfo Zcf Zbz ZiB ZaB ZaQ Zjf ZaY Zck Zds Zc8 Zce has opx opd opA opD XV.flat XV.copy oD oA Zad ins ZlA ZfR St.put St.putOwn St.lose St.loseEnv unal ZjL Zjr Zpd dUn Zgx Zay Zcb Zbl Zbd ZaR Zch ZbE Zb6 Zig Zbi AV.cells AV.cellOk AV.single DV.cellOk ZuL ZuN Zvp DV.cells ZaJ ZeT ZaK Zb3 ZaL Za3 Zka Za0 Zeh mapO AV.toD ZaA ZbX Zea optD Zcd Za8 ZfD Zam Zb1 Zbo ZaE Zaz Zdi Zc1 Zbn St.trim Out.st
theorem YbK {call : Zaa} (raw : List Cus) (i : Nat) (x : Cus) (hx : raw[i]? = some x) (hl : raw.length < 2 ^ 40) (G : Nd) (hG : Za7 BEq.beq x.name G = none) (h' : List AObj)
    (h34 : call 36 [.d (.slc (x.val.map Val.enc)), .mp 2] [.map (ZnT G ++ [(.str x.name, .mp 2)]), .var [.mp 0], .map []] = some (.d (.tup []), h')) :
    evQ C call (ann 62) 0 L44 ⟨e44 raw i, [], h44 G⟩ = some (.norm ⟨e44 raw (i + 1) ++ [(15, .val (.d (.bool true)))], [], h'⟩) := by
  have hlt : i < raw.length := (List.getElem?_eq_some_iff.1 hx).1
  have hd : decide ((i : Int) < (raw.length : Int)) = true := dlt hlt
  have hw : IntKind.i64.wrap ((i : Int) + 1) = (i : Int) + 1 := Za1 (by omega)
  have hg := ZlX hx
  have hi := YaX hlt
  unfold L44 X44 B44 Zac Tryz.f62 e44 d44 h44
  simp only [Option.getD_some, sq1, sq2, inn]
  simp [-getElem?_pos, A62, Zai, ZuX, hlt, hw, hg, hi, YcW, Yc0, YcY, ZjC, ZoV, hz9, ZyQ, ag9, Zz9, YbY, Zpp _ _ G hG, ZqC _ _ G hG, Zbm, z98, k98, Ydb, ZhV, AV.toD, h34, St.trim, Zbn, List.getElem?_append, AV.cellOk, -List.getElem?_map]
theorem YcV {call : Zaa} (raw : List Cus) (G : Nd) : evQ C call (ann 62) 0 L44 ⟨e44 raw raw.length, [], h44 G⟩ = some (.exit 0 ⟨e44 raw raw.length ++ [(15, .val (.d (.bool false)))], [], h44 G⟩) := by
  unfold L44 X44 B44 Zac Tryz.f62 e44 d44 h44
  simp only [Option.getD_some, sq1, sq2, inn]
  simp [-getElem?_pos, A62, Zai]
end
end Go.Tev.S1
namespace Go.Tev.S1
open Go.Abs Go.Proofs
def ZpV (O : Bm) : List (DV × AV) := O.map fun p => (.str p.1, .d (.bool p.2))
def f44 (raw : List Cus) (i : Nat) : List (Nat × SV) := [(0, .val (.d (d44 raw))), (2, .val (.d .nilm)), (3, .val (.ptr 1 0)), (6, .val (.mp 2)), (31, .val (.d (d44 raw))), (32, .val (.d (.int .i64 raw.length))), (33, .val (.d (.int .i64 i)))]
def g44 (G : Nd) (O : Bm) : List AObj := [.map (ZnT G), .var [.mp 0], .map (ZpV O)]
def b44 (x : Cus) : Nat × SV := (8, .box [.str x.name, .slc (x.val.map Val.enc)])
theorem ZkZ (a : List UInt8) (b : Bool) : ∀ O : Bm, a ∉ ZbV O → Zro (.str a) (.d (.bool b)) (ZpV O) = some (ZpV (O ++ [(a, b)]))
  | [], _ => rfl
  | (k, c) :: r, h => by
    have ih := ZkZ a b r (fun hm => h (List.mem_cons_of_mem _ hm))
    have e : (a == k) = false := by
      rw [beq_eq_false_iff_ne]
      intro e
      exact h (by rw [e]; exact List.mem_cons_self)
    simp only [ZpV, List.map_cons, List.cons_append, Zro, ZdT, e] at ih ⊢
    simp only [ih, Option.map_some]
section
attribute [local simp] List.getElem?_cons_zero Option.bind_some Zvk Zeb Zcm Zbk ZfL ZdV ZcD Zjp ZfJ ZdR ZfH ZfF Zjz Zfo Zcf Zbz ZiB ZaB ZaQ Zjf ZaY Zck Zds Zc8 Zce has opx opd opA opD XV.flat XV.copy oD oA Zad ins ZlA ZfR St.put St.putOwn St.lose St.loseEnv unal ZjL Zjr Zpd dUn Zgx Zay Zcb Zbl Zbd ZaR Zch ZbE Zb6 Zig Zbi AV.cells AV.cellOk AV.single DV.cellOk ZuL ZuN Zvp DV.cells ZaJ ZeT ZaK Zb3 ZaL Za3 Zka Za0 Zeh mapO AV.toD ZaA ZbX Zea optD Zcd Za8 ZfD Zam Zb1 Zbo ZaE Zaz Zdi Zc1 Zbn St.trim Out.st
theorem Ycn {call : Zaa} (raw : List Cus) (G : Nd) : evQ C call (ann 62) 0 ZyG ⟨[(0, .val (.d (d44 raw))), (2, .val (.d .nilm)), (3, .val (.ptr 1 0))], [], h44 G⟩ = some (.norm ⟨[(0, .val (.d (d44 raw))), (2, .val (.d .nilm)), (3, .val (.ptr 1 0)), (6, .val (.mp 2))], [], g44 G []⟩) := by
  unfold ZyG Y44 B44 Zac Tryz.f62 h44 g44 ZpV
  simp only [Option.getD_some, sq1, sq2]
  simp [-getElem?_pos, A62, Zai, YbY]
theorem YcO {call : Zaa} (raw : List Cus) (G : Nd) : evQ C call (ann 62) 0 Zzx ⟨[(0, .val (.d (d44 raw))), (2, .val (.d .nilm)), (3, .val (.ptr 1 0)), (6, .val (.mp 2))], [], g44 G []⟩ = some (.norm ⟨f44 raw 0, [], g44 G []⟩) := by
  unfold Zzx Z44 Y44 B44 Zac Tryz.f62 f44 d44
  simp only [Option.getD_some, sq1, sq2]
  simp [-getElem?_pos, A62, Zai, ZuX]
theorem Zub {call : Zaa} (raw : List Cus) (i : Nat) (h : List AObj) : evQ C call (ann 62) 0 ZpB ⟨f44 raw i, [], h⟩ = some (.norm ⟨f44 raw i ++ [(34, .val (.d (.bool (decide ((i : Int) < (raw.length : Int))))))], [], h⟩) := by
  unfold ZpB M44 Z44 Y44 B44 Zac Tryz.f62 f44
  simp only [Option.getD_some, sq1, sq2, inn]
  simp [-getElem?_pos, A62, Zai]
theorem Zyr {call : Zaa} (raw : List Cus) (i : Nat) (x : Cus) (hx : raw[i]? = some x) (h : List AObj) (v : SV) : evQ C call (ann 62) 0 ZpL ⟨f44 raw i ++ [(34, v)], [], h⟩ = some (.norm ⟨f44 raw i ++ [(34, v), b44 x], [], h⟩) := by
  have hlt : i < raw.length := (List.getElem?_eq_some_iff.1 hx).1
  have hg := ZlX hx
  have hi := YaX hlt
  unfold ZpL K44 M44 Z44 Y44 B44 Zac Tryz.f62 f44 b44 d44
  simp only [Option.getD_some, sq1, sq2, inn]
  simp [-getElem?_pos, A62, Zai, ZuX, hg, hi, YcW, Yc0, YcY, -List.getElem?_map]
theorem Zyf {call : Zaa} (raw : List Cus) (i : Nat) (x : Cus) (G : Nd) (O : Bm) (v : SV) : evQ C call (ann 62) 0 Zrh ⟨f44 raw i ++ [(34, v), b44 x], [], g44 G O⟩ = some (.norm ⟨f44 raw i ++ [(34, v), b44 x, (9, .val (.ptr 4 0))], [], g44 G O ++ [.map [], .var [.mp 3]]⟩) := by
  unfold Zrh K44 M44 Z44 Y44 B44 Zac Tryz.f62 f44 b44 g44
  simp only [Option.getD_some, sq1, sq2, inn]
  simp [-getElem?_pos, A62, Zai, YbY, zz61, sz61, AV.cellOk]
theorem Yab {call : Zaa} (raw : List Cus) (i : Nat) (x : Cus) (G : Nd) (O : Bm) (v : SV) : evQ C call (ann 62) 0 Zps ⟨f44 raw i ++ [(34, v), b44 x, (9, .val (.ptr 4 0))], [], g44 G O ++ [.map [], .var [.mp 3]]⟩ = some (.norm ⟨f44 raw i ++ [(34, v), b44 x, (9, .val (.ptr 4 0)), (10, .val (.ptr 5 0))], [], g44 G O ++ [.map [], .var [.mp 3], .var [.d .nilf]]⟩) := by
  unfold Zps K44 M44 Z44 Y44 B44 Zac Tryz.f62 f44 b44 g44
  simp only [Option.getD_some, sq1, sq2, inn]
  simp [-getElem?_pos, A62, Zai, zz99, sz99, AV.cellOk]
theorem Zyd {call : Zaa} (raw : List Cus) (i : Nat) (x : Cus) (G : Nd) (O : Bm) (v : SV) : evQ C call (ann 62) 0 Zqz ⟨f44 raw i ++ [(34, v), b44 x, (9, .val (.ptr 4 0)), (10, .val (.ptr 5 0))], [], g44 G O ++ [.map [], .var [.mp 3], .var [.d .nilf]]⟩ = some (.norm ⟨f44 raw i ++ [(34, v), b44 x, (9, .val (.ptr 4 0)), (10, .val (.ptr 5 0))], [], H68 G (ZpV O) []⟩) := by
  unfold Zqz K44 M44 Z44 Y44 B44 Zac Tryz.f62 f44 b44 g44 H68
  simp only [Option.getD_some, sq1, sq2, inn]
  simp [-getElem?_pos, A62, Zai, sz99, AV.cellOk, Zug, AV.toD, ZrO]
theorem Zyt {call : Zaa} {all : List Oper} (raw : List Cus) (i : Nat) (x : Cus) (G : Nd) (O : Bm) (v : SV) : Zai C call (ann 62) all ((opsL ZhR).take 3) ⟨f44 raw i ++ [(34, v), b44 x, (9, .val (.ptr 4 0)), (10, .val (.ptr 5 0))], [], H68 G (ZpV O) []⟩ =
    some ⟨f44 raw i ++ [(34, v), b44 x, (9, .val (.ptr 4 0)), (10, .val (.ptr 5 0))], [(41, .a (.d (.str x.name))), (40, .sp 8 0), (39, .a (.fn 73 [.ptr 1 0, .ptr 4 0, .ptr 5 0]))], H68 G (ZpV O) []⟩ := by
  unfold opsL Go.Abs.ops ZhR K44 M44 Z44 Y44 B44 Zac Tryz.f62 f44 b44 H68
  simp only [Option.getD_some, sq1, sq2, inn]
  simp [-getElem?_pos, A62, Zai, ag99, ZjC, hz9, ag9]
theorem Ydy : (Go.Abs.ops ZhR).toList = (opsL ZhR).take 3 ++ [opZ (opsL ZhR)] := by kernel_rfl
theorem o44_15 : (opZ (opsL ZhR)).guard = none ∧ (opZ (opsL ZhR)).dst = some 42 ∧ (opZ (opsL ZhR)).op = .call { callee := .value (.tmp 39), args := #[.tmp 41], argTypes := #[9] } := by
  refine ⟨?_, ?_, ?_⟩ <;> kernel_rfl
theorem ZyT {call : Zaa} (raw : List Cus) (i : Nat) (x : Cus) (G : Nd) (O : Bm) (S : List (List UInt8)) (v : SV) (hO : x.name ∉ ZbV O) : evQ C call (ann 62) 0 ZqO ⟨f44 raw i ++ [(34, v), b44 x, (9, .val (.ptr 4 0)), (10, .val (.ptr 5 0))], [], H68 G (ZpV O) S⟩ =
    some (.norm ⟨f44 raw i ++ [(34, v), b44 x, (9, .val (.ptr 4 0)), (10, .val (.ptr 5 0))], [], H68 G (ZpV (O ++ [(x.name, decide (x.name ∈ S))])) S⟩) := by
  unfold ZqO K44 M44 Z44 Y44 B44 Zac Tryz.f62 f44 b44 H68
  simp only [Option.getD_some, sq1, sq2, inn]
  by_cases hs : x.name ∈ S
  · simp [-getElem?_pos, A62, Zai, ZjC, hz9, ag9, YcZ, Zbm, z61, k61, Zft, ZkZ _ _ O hO, AV.cellOk, hs]
  · simp [-getElem?_pos, A62, Zai, ZjC, hz9, ag9, YcZ, Zbm, z61, k61, Zft, ZkZ _ _ O hO, AV.cellOk, hs]
theorem Zy7 {call : Zaa} (raw : List Cus) (i : Nat) (hl : i + 1 < 2 ^ 63) (h : List AObj) (v : SV) : evQ C call (ann 62) 0 Zre ⟨f44 raw i ++ [(34, v)], [], h⟩ = some (.norm ⟨f44 raw (i + 1) ++ [(34, v)], [], h⟩) := by
  have hw : IntKind.i64.wrap ((i : Int) + 1) = (i : Int) + 1 := Za1 hl
  unfold Zre M44 Z44 Y44 B44 Zac Tryz.f62 f44
  simp only [Option.getD_some, sq1, sq2, inn]
  simp [-getElem?_pos, A62, Zai, hw]
theorem Zzi {call : Zaa} (raw : List Cus) (i : Nat) (h : List AObj) : evQ C call (ann 62) 0 ZtO ⟨f44 raw i, [], h⟩ = some (.norm ⟨[(0, .val (.d (d44 raw))), (2, .val (.mp 2)), (3, .val (.ptr 1 0)), (6, .val (.mp 2)), (31, .val (.d (d44 raw))), (32, .val (.d (.int .i64 raw.length))), (33, .val (.d (.int .i64 i)))], [], h⟩) := by
  unfold ZtO Y44 B44 Zac Tryz.f62 f44
  simp only [Option.getD_some, sq1, sq2]
  simp [-getElem?_pos, A62, Zai]
end
end Go.Tev.S1
namespace Go.Abs
theorem sub_list {env1 e0 : List (Nat × SV)} {s : St} (h : ∀ p ∈ env1, Zad s.env p.1 = some p.2 ∧ (Zad e0 p.1).isSome = true) : Sub ⟨env1, [], s.heap⟩ (s.trim e0) := by
  refine ⟨fun k v hv => ?_, rfl, rfl⟩
  obtain ⟨h1, h2⟩ := h (k, v) (alook_mem0' hv)
  simp only [St.trim]
  rw [Go.Tev.alook_trimE _ _ _ h2]
  exact h1
where
  alook_mem0' {α : Type} : ∀ {l : List (Nat × α)} {t : Nat} {v : α}, Zad l t = some v → (t, v) ∈ l
    | [], t, v, h => by simp [Zad] at h
    | (k, u) :: l, t, v, h => by
      simp only [Zad] at h
      cases hb : Nat.beq k t with
      | true =>
        rw [hb] at h
        have := Nat.eq_of_beq_eq_true hb
        cases h
        subst this
        exact List.mem_cons_self
      | false =>
        rw [hb] at h
        exact List.mem_cons_of_mem _ (alook_mem0' h)
theorem Ztl {s : St} (h : s.tmp = []) : Sub s s := ⟨fun _ _ h => h, h, rfl⟩
end Go.Abs
namespace Go.Tev.S1
open Go.Abs Go.Proofs
open Classical in
noncomputable def Zbf (raw : List Cus) : Bm := raw.map fun x => (x.name, decide (Path (ZaS raw) x.name x.name))
theorem Zag : Za2 C.P (Zab C K0) := Zlo Zae mixed Yc9
theorem Yaw : okC (C.ann 62) L44 = true := by kernel_rfl
theorem Zkc (l : List Val) (hl : Zaq l ≤ B) (a b : AObj) : ∃ h', Zab C K0 36 [.d (.slc (l.map Val.enc)), .mp 2] [a, b, .map []] = some (.d (.tup []), h') ∧ h'[0]? = some a ∧ h'[1]? = some b ∧ h'[2]? = some (.map ((ZfM (Zej [] l)).map fun p => (p.1, .d p.2))) := by
  obtain ⟨d, h', h1, h2, h3, h4, h5⟩ := Zqu (K := K0) Zjt [.l (X := X) 51 l] l [.slc (l.map Val.enc)] [2] [.d (.slc (l.map Val.enc)), .mp 2] ([], ()) [a, b, .map []] ((), (Zej [] l, ())) (fun _ => .tup []) rfl rfl rfl (by simp) ⟨⟨_, rfl, rfl⟩, trivial⟩ (Zrq hl) rfl
  cases h1
  obtain ⟨⟨ao, h6, h7⟩, _⟩ := h3
  have h7 : ao = .map ((Zej [] l).map fun p => (DV.str p.1, AV.d (DV.bool p.2))) := h7
  subst h7
  refine ⟨h', h2, ?_, ?_, ?_⟩
  · rw [h4 0 (by simp) (by simp)]; rfl
  · rw [h4 1 (by simp) (by simp)]; rfl
  · rw [h6, ZfM, List.map_map]; rfl
theorem ZqH {a : List UInt8} : ∀ {G : Nd}, a ∉ G.map Prod.fst → Za7 BEq.beq a G = none
  | [], _ => rfl
  | (k, u) :: r, h => by
    simp only [List.map_cons, List.mem_cons, not_or] at h
    simp only [Za7]
    have : (a == k) = false := by simpa using h.1
    rw [this]
    exact ZqH h.2
theorem ZlD (raw : List Cus) : (ZaS raw).map Prod.fst = raw.map Cus.name := by simp [ZaS, List.map_map, Function.comp_def]
theorem ZoK {raw : List Cus} {i : Nat} {x : Cus} (hn : (raw.map Cus.name).Nodup) (hx : raw[i]? = some x) : x.name ∉ (raw.take i).map Cus.name := by
  intro hm
  obtain ⟨y, hy, he⟩ := List.mem_map.1 hm
  obtain ⟨j, hj, rfl⟩ := List.mem_iff_getElem.1 hy
  have hi : i < raw.length := (List.getElem?_eq_some_iff.1 hx).1
  have hxi : raw[i] = x := (List.getElem?_eq_some_iff.1 hx).2
  have hj1 : j < i := by simp at hj; omega
  have hj2 : j < raw.length := by omega
  rw [List.getElem_take] at he
  have := (List.getElem_inj hn (i := j) (j := i) (h₀ := by simpa using hj2) (h₁ := by simpa using hi)).1 (by simp [he, hxi])
  omega
theorem ZrL {G : Nd} {S : List (List UInt8)} (hc : ∀ m ∈ S, ∀ k, Edge G m k → k ∈ S) {a b : List UInt8} (h : Path G a b) : a ∈ S → b ∈ S := by
  induction h with
  | one h => exact fun ha => hc _ ha _ h
  | step h t ih => exact fun ha => ih (hc _ ha _ h)
theorem ZvF {G : Nd} {a b : List UInt8} {S : List (List UInt8)} (h : WalkPost G [] a S) : b ∈ S ↔ Path G a b := by
  have hc : ∀ m ∈ S, ∀ k, Edge G m k → k ∈ S := fun m hm k hk => (h.new m hm (by simp)).2 k hk
  constructor
  · intro hb; exact (h.new b hb (by simp)).1
  · intro hp
    cases hp with
    | one e => exact h.next _ e
    | step e t => exact ZrL hc t (h.next _ e)
def YbQ (e : List (Nat × SV)) (h : List AObj) : Out → Prop := fun o => ∃ s, o = .norm s ∧ Sub ⟨e, [], h⟩ s
theorem Zhy {e : List (Nat × SV)} {h : List AObj} {c d : Code} {st : St} {fa : FA} {Q : Out → Prop} (h1 : Tri C fa c st (YbQ e h)) (h2 : Tri C fa d ⟨e, [], h⟩ Q) : Tri C fa (.seq c d) st Q :=
  ZcJ h1 (fun s ⟨s', hs, hsub⟩ => by cases hs; exact Zoj hsub h2) (fun o ⟨s, hs, _⟩ hne => absurd hs (hne s))
def p44 (raw : List Cus) : List (Nat × SV) := [(0, .val (.d (d44 raw))), (2, .val (.d .nilm)), (3, .val (.ptr 1 0))]
theorem ZzB (raw : List Cus) (hn : (raw.map Cus.name).Nodup) (hok : Zjh raw) : Tri C (C.ann 62) (.block 0 (.loop L44)) ⟨e44 raw 0, [], h44 []⟩ (YbQ (p44 raw) (h44 (ZaS raw))) := by
  have hB : B = 2 ^ 36 := rfl
  have hV : V = 2 ^ 24 := rfl
  have hlen : raw.length < 2 ^ 40 := by have := hok.1; omega
  refine ZeC ?_
  refine Zje (fun m s => ∃ i, i ≤ raw.length ∧ m = raw.length - i ∧ s = ⟨e44 raw i, [], h44 (ZaS (raw.take i))⟩) (n := raw.length) ⟨0, Nat.zero_le _, rfl, rfl⟩ ?_
  rintro m s ⟨i, hi, rfl, rfl⟩
  rcases Nat.lt_or_ge i raw.length with hlt | hge
  · have hx := List.getElem?_eq_getElem hlt
    have hnew := ZoK hn hx
    have hG : Za7 BEq.beq raw[i].name (ZaS (raw.take i)) = none := ZqH (by rw [ZlD]; exact hnew)
    obtain ⟨h', g1, g2, g3, g4⟩ := Zkc raw[i].val (Nat.le_trans (hok.2 raw[i] (List.getElem_mem hlt)) (by rw [hB, hV]; decide)) (.map (ZnT (ZaS (raw.take i)) ++ [(.str raw[i].name, .mp 2)])) (.var [.mp 0])
    refine ZtM (n := 2) (by simp [h44]) ?_
    refine ZcG (call := Zab C K0) Zae mixed Zag Yaw (YbK raw i raw[i] hx hlen _ hG h' g1) ?_
    refine ⟨⟨e44 raw (i + 1), [], h44 (ZaS (raw.take (i + 1)))⟩, ⟨rfl, rfl, ?_, ?_⟩, ?_⟩
    · intro id o2 ho
      rcases id with _ | _ | id
      · refine ⟨_, g2, ?_⟩
        cases ho
        have hgr : ZnT (ZaS (raw.take (i + 1))) = ZnT (ZaS (raw.take i)) ++ [(.str raw[i].name, .d (.fmap (ZfM (Zej [] raw[i].val))))] := by
          rw [ZbJ hx]; simp only [ZaS, ZnT, List.map_append, List.map_cons, List.map_nil]
        rw [hgr]
        refine .map _ _ (by simp) fun j a b ha hb => ?_
        rcases Nat.lt_or_ge j (ZnT (ZaS (raw.take i))).length with hj | hj
        · rw [List.getElem?_append_left hj] at ha hb
          rw [ha] at hb
          cases hb
          refine ⟨rfl, ?_⟩
          have hm := List.mem_of_getElem? ha
          obtain ⟨p, _, rfl⟩ := List.mem_map.1 hm
          exact .d _
        · rw [List.getElem?_append_right hj] at ha hb
          have hj0 : j - (ZnT (ZaS (raw.take i))).length = 0 := by
            have := (List.getElem?_eq_some_iff.1 ha).1
            simp at this; omega
          rw [hj0] at ha hb
          cases ha
          cases hb
          exact ⟨rfl, .frz 2 _ (Nat.le_refl _) g4⟩
      · refine ⟨_, g3, ?_⟩
        cases ho
        refine .var _ _ rfl fun j a b ha hb => ?_
        rcases j with _ | j
        · cases ha; cases hb; exact .mp 0 (by decide)
        · simp at ha
      · simp [h44] at ho
    · intro k v2 hv
      refine ⟨v2, ZaW hv, ?_⟩
      have hm := sub_list.alook_mem0' hv
      simp only [e44, List.mem_cons, List.not_mem_nil, or_false, Prod.mk.injEq] at hm
      rcases hm with ⟨_, rfl⟩ | ⟨_, rfl⟩ | ⟨_, rfl⟩ | ⟨_, rfl⟩ | ⟨_, rfl⟩ | ⟨_, rfl⟩
      · exact .val _ _ (.d _)
      · exact .val _ _ (.d _)
      · exact .val _ _ (.ptr 1 0 (by decide))
      · exact .val _ _ (.d _)
      · exact .val _ _ (.d _)
      · exact .val _ _ (.d _)
    · exact ⟨_, _, by omega, ⟨i + 1, hlt, rfl, rfl⟩, Ztl rfl⟩
  · have he : i = raw.length := by omega
    subst he
    refine ZcG (call := Zab C K0) Zae mixed Zag Yaw (YcV raw _) ?_
    simp only [Za6]
    refine ⟨_, rfl, ?_⟩
    rw [List.take_length]
    refine sub_list (s := ⟨e44 raw raw.length ++ [(15, .val (.d (.bool false)))], [], h44 (ZaS raw)⟩) fun p hp => ?_
    simp only [p44, List.mem_cons, List.not_mem_nil, or_false] at hp
    rcases hp with rfl | rfl | rfl <;> exact ⟨rfl, rfl⟩
theorem YdP : okC (C.ann 62) Yal = true ∧ okC (C.ann 62) Yag = true ∧ okC (C.ann 62) Zz6 = true ∧ okC (C.ann 62) ZyG = true ∧ okC (C.ann 62) Zzx = true ∧ okC (C.ann 62) ZpB = true ∧ okC (C.ann 62) ZpL = true ∧ okC (C.ann 62) Zrh = true ∧
    okC (C.ann 62) Zps = true ∧ okC (C.ann 62) Zqz = true ∧ okC (C.ann 62) ZqO = true ∧ okC (C.ann 62) Zre = true ∧ okC (C.ann 62) ZtO = true := by
  refine ⟨?_, ?_, ?_, ?_, ?_, ?_, ?_, ?_, ?_, ?_, ?_, ?_, ?_⟩ <;> kernel_rfl
noncomputable abbrev LB44 : Code := .seq ZpB (.seq (.cond (.tmp 34) .skip (.exit 2)) (.seq (.block 3 (.seq ZpL (.seq Zrh (.seq Zps (.seq Zqz (.seq (.region 15 (Go.Abs.ops ZhR) false) ZqO)))))) Zre))
theorem Zu1 {raw : List Cus} {i : Nat} {x : Cus} (hx : raw[i]? = some x) : ∃ b : Bool, (Zbf raw).take (i + 1) = (Zbf raw).take i ++ [(x.name, b)] ∧ (b = true ↔ Path (ZaS raw) x.name x.name) := by
  classical
  refine ⟨decide (Path (ZaS raw) x.name x.name), ?_, by simp⟩
  have h : (Zbf raw)[i]? = some (x.name, decide (Path (ZaS raw) x.name x.name)) := by
    unfold Zbf
    rw [List.getElem?_map, hx]
    simp only [Option.map_some]
  exact ZbJ h
theorem Zuq {raw : List Cus} {x : Cus} (hx : x ∈ raw) : (Za7 BEq.beq x.name (ZaS raw)).isSome = true := by
  unfold ZaS
  induction raw with
  | nil => cases hx
  | cons y r ih =>
    simp only [List.map_cons, Za7]
    cases e : (x.name == y.name) with
    | true => rfl
    | false =>
      rcases List.mem_cons.1 hx with rfl | hx
      · simp at e
      · exact ih hx
theorem Zzg (raw : List Cus) (hn : (raw.map Cus.name).Nodup) (hok : Zjh raw) : Tri C (C.ann 62) (.block 2 (.loop LB44)) ⟨f44 raw 0, [], g44 (ZaS raw) []⟩ (YbQ (f44 raw raw.length) (g44 (ZaS raw) (Zbf raw))) := by
  have hB : B = 2 ^ 36 := rfl
  obtain ⟨_, _, _, _, _, k10, k11, k12, k13, k14, k16, k17, _⟩ := YdP
  have hlen : raw.length < 2 ^ 40 := by have := hok.1; omega
  refine ZeC ?_
  refine Zje (fun m s => ∃ i, i ≤ raw.length ∧ m = raw.length - i ∧ s = ⟨f44 raw i, [], g44 (ZaS raw) ((Zbf raw).take i)⟩) (n := raw.length) ⟨0, Nat.zero_le _, rfl, rfl⟩ ?_
  rintro m s ⟨i, hi, rfl, rfl⟩
  rcases Nat.lt_or_ge i raw.length with hlt | hge
  · have hx := List.getElem?_eq_getElem hlt
    have hnew := ZoK hn hx
    have hO : raw[i].name ∉ ZbV ((Zbf raw).take i) := by
      have : ZbV ((Zbf raw).take i) = (raw.take i).map Cus.name := by
        unfold ZbV Zbf
        rw [← List.map_take, List.map_map]; rfl
      rw [this]; exact hnew
    have hd : decide ((i : Int) < (raw.length : Int)) = true := dlt hlt
    refine ZtM (n := 3) (by simp [g44]) ?_
    refine ZaT (call := Zab C K0) Zae mixed Zag k10 (Zub raw i _) ?_
    rw [hd]
    refine ZcJ (Q1 := fun o => o = .norm ⟨f44 raw i ++ [(34, .val (.d (.bool true)))], [], g44 (ZaS raw) ((Zbf raw).take i)⟩) (Zhn (b := true) rfl (ZkI rfl)) ?_ (fun o h1 h2 => absurd h1 (h2 _))
    rintro s hs
    cases hs
    refine ZcJ (Q1 := fun o => ∃ S', WalkPost (ZaS raw) [] raw[i].name S' ∧ YbQ (f44 raw i ++ [(34, .val (.d (.bool true)))]) (H68 (ZaS raw) (ZpV ((Zbf raw).take i ++ [(raw[i].name, decide (raw[i].name ∈ S'))])) S') o) ?_ ?_ (fun o ⟨S', _, s, hs, _⟩ h2 => absurd hs (h2 s))
    · refine ZeC ?_
      refine ZaT (call := Zab C K0) Zae mixed Zag k11 (Zyr raw i _ hx _ _) ?_
      refine ZaT (call := Zab C K0) Zae mixed Zag k12 (Zyf raw i raw[i] _ _ _) ?_
      refine ZaT (call := Zab C K0) Zae mixed Zag k13 (Yab raw i raw[i] _ _ _) ?_
      refine ZaT (call := Zab C K0) Zae mixed Zag k14 (Zyd raw i raw[i] _ _ _) ?_
      have hw := ZvI ((ZaS raw).length + 1) (ZaS raw) (ZpV ((Zbf raw).take i)) [] raw[i].name List.nodup_nil (fun m hm => by simp at hm) (Zuq (List.getElem_mem hlt)) (by simp)
      refine ZcJ (Q1 := fun o => ∃ S', WalkPost (ZaS raw) [] raw[i].name S' ∧ o = .norm ⟨f44 raw i ++ [(34, .val (.d (.bool true))), b44 raw[i], (9, .val (.ptr 4 0)), (10, .val (.ptr 5 0))], [], H68 (ZaS raw) (ZpV ((Zbf raw).take i)) S'⟩)
        (Zgz (call := Zab C K0) Zae Zag Ydy (Zyt raw i raw[i] _ _ _) o44_15.1
          (Zhm Zae o44_15.2.2 rfl (fv := .fn 73 [.ptr 1 0, .ptr 4 0, .ptr 5 0]) (vs := [.d (.str raw[i].name)]) (caps := [.ptr 1 0, .ptr 4 0, .ptr 5 0]) rfl rfl rfl hw (fun r h' _ => by
            rw [o44_15.2.1]
            exact ⟨_, rfl⟩)) ?_) ?_ (fun o ⟨S', _, hs⟩ h2 => absurd hs (h2 _))
      · rintro s ⟨r, h', ⟨rfl, S2, hP, rfl⟩, hput⟩
        rw [o44_15.2.1] at hput
        cases hput
        exact ⟨S2, hP, rfl⟩
      · rintro s ⟨S', hP, hs⟩
        cases hs
        refine ZcG (call := Zab C K0) Zae mixed Zag k16 (ZyT raw i raw[i] _ _ S' _ hO) ?_
        simp only [Za6]
        refine ⟨S', hP, _, rfl, ?_⟩
        refine sub_list (s := ⟨f44 raw i ++ [(34, .val (.d (.bool true))), b44 raw[i], (9, .val (.ptr 4 0)), (10, .val (.ptr 5 0))], [], H68 (ZaS raw) (ZpV ((Zbf raw).take i ++ [(raw[i].name, decide (raw[i].name ∈ S'))])) S'⟩) fun p hp => ?_
        simp only [f44, List.cons_append, List.nil_append, List.mem_cons, List.not_mem_nil, or_false] at hp
        rcases hp with rfl | rfl | rfl | rfl | rfl | rfl | rfl | rfl <;> exact ⟨rfl, rfl⟩
    · rintro s ⟨S', hP, s', hs, hsub⟩
      cases hs
      refine Zoj hsub ?_
      refine ZcG (call := Zab C K0) Zae mixed Zag k17 (Zy7 raw i (by omega) _ _) ?_
      obtain ⟨b, hb1, hb2⟩ := Zu1 hx
      have hbe : decide (raw[i].name ∈ S') = b := by
        rw [Bool.eq_iff_iff, decide_eq_true_iff, ZvF hP, hb2]
      rw [hbe, ← hb1]
      refine ⟨⟨f44 raw (i + 1), [], g44 (ZaS raw) ((Zbf raw).take (i + 1))⟩, ⟨rfl, rfl, ?_, ?_⟩, ?_⟩
      · intro id o2 ho
        rcases id with _ | _ | _ | id
        · refine ⟨_, rfl, ?_⟩
          cases ho
          refine .map _ _ rfl fun j a b ha hb => ?_
          rw [ha] at hb
          cases hb
          have hm := List.mem_of_getElem? ha
          obtain ⟨p, _, rfl⟩ := List.mem_map.1 hm
          exact ⟨rfl, .d _⟩
        · refine ⟨_, rfl, ?_⟩
          cases ho
          refine .var _ _ rfl fun j a b ha hb => ?_
          rcases j with _ | j
          · cases ha; cases hb; exact .mp 0 (by decide)
          · simp at ha
        · refine ⟨_, rfl, ?_⟩
          cases ho
          refine .map _ _ rfl fun j a b ha hb => ?_
          rw [ha] at hb
          cases hb
          have hm := List.mem_of_getElem? ha
          obtain ⟨p, _, rfl⟩ := List.mem_map.1 hm
          exact ⟨rfl, .d _⟩
        · simp [g44] at ho
      · intro k v2 hv
        refine ⟨v2, ZaW hv, ?_⟩
        have hm := sub_list.alook_mem0' hv
        simp only [f44, List.mem_cons, List.not_mem_nil, or_false, Prod.mk.injEq] at hm
        rcases hm with ⟨_, rfl⟩ | ⟨_, rfl⟩ | ⟨_, rfl⟩ | ⟨_, rfl⟩ | ⟨_, rfl⟩ | ⟨_, rfl⟩ | ⟨_, rfl⟩
        · exact .val _ _ (.d _)
        · exact .val _ _ (.d _)
        · exact .val _ _ (.ptr 1 0 (by decide))
        · exact .val _ _ (.mp 2 (by decide))
        · exact .val _ _ (.d _)
        · exact .val _ _ (.d _)
        · exact .val _ _ (.d _)
      · exact ⟨_, _, by omega, ⟨i + 1, hlt, rfl, rfl⟩, Ztl rfl⟩
  · have he : i = raw.length := by omega
    subst he
    refine ZaT (call := Zab C K0) Zae mixed Zag k10 (Zub raw _ _) ?_
    rw [Zpc]
    refine ZcJ (Q1 := fun o => o = .exit 2 ⟨f44 raw raw.length ++ [(34, .val (.d (.bool false)))], [], g44 (ZaS raw) ((Zbf raw).take raw.length)⟩) (Zhn (b := false) rfl (Zon rfl)) (fun s hs => by cases hs) ?_
    rintro o rfl _
    simp only [Za6]
    refine ⟨_, rfl, ?_⟩
    rw [List.take_of_length_le (by simp [Zbf])]
    refine sub_list (s := ⟨f44 raw raw.length ++ [(34, .val (.d (.bool false)))], [], g44 (ZaS raw) (Zbf raw)⟩) fun p hp => ?_
    simp only [f44, List.mem_cons, List.not_mem_nil, or_false] at hp
    rcases hp with rfl | rfl | rfl | rfl | rfl | rfl | rfl <;> exact ⟨rfl, rfl⟩
theorem Zsr (raw : List Cus) (hn : (raw.map Cus.name).Nodup) (hok : Zjh raw) : Has Tryz.prog 62 [.d (d44 raw)] [] (.d (.fmap (ZfM (Zbf raw)))) [] := by
  obtain ⟨k0, k1, k2, k8, k9, _, _, _, _, _, _, _, k18⟩ := YdP
  have h : HasN Tryz.prog 62 [.d (d44 raw)] [] (fun r h' => r = .mp 2 ∧ h' = g44 (ZaS raw) (Zbf raw)) := by
    refine ZeE (C := C) (f := 62) (fn := Tryz.f62) Tryz.func62 Ybg (by kernel_rfl) ?_
    refine ZaT (call := Zab C K0) Zae mixed Zag k0 (Yb0 raw) ?_
    refine ZaT (call := Zab C K0) Zae mixed Zag k1 (Ybz raw) ?_
    refine Zhy (ZaT (call := Zab C K0) Zae mixed Zag k2 (YbG raw) (ZzB raw hn hok)) ?_
    refine ZaT (call := Zab C K0) Zae mixed Zag k8 (Ycn raw _) ?_
    refine Zhy (ZaT (call := Zab C K0) Zae mixed Zag k9 (YcO raw _) (Zzg raw hn hok)) ?_
    refine ZaT (call := Zab C K0) Zae mixed Zag k18 (Zzi raw _ _) ?_
    refine ZcG (call := Zab C K0) (n := 0) Zae mixed Zag rfl rfl ?_
    exact ⟨[.mp 2], rfl, rfl, rfl⟩
  refine HasN.frozen (ds := [d44 raw]) h ?_
  rintro r h' ⟨rfl, rfl⟩
  refine ⟨2, ?_⟩
  have : ∀ O : Bm, mapO (fun e : DV × AV => (Abs.freeze (g44 (ZaS raw) (Zbf raw)) 1 e.2).map fun v => (e.1, v)) (ZpV O) = some (ZfM O) := by
    intro O
    induction O with
    | nil => rfl
    | cons p O ih =>
      simp only [ZpV, List.map_cons, mapO, ZfM] at ih ⊢
      simp only [Abs.freeze, Option.map_some, ih]
  simp only [Abs.freeze]
  show (match (g44 (ZaS raw) (Zbf raw))[2]? with
    | some (.map es) => (mapO (fun e : DV × AV => (Abs.freeze (g44 (ZaS raw) (Zbf raw)) 1 e.2).map fun v => (e.1, v)) es).map DV.fmap
    | _ => none) = _
  show (mapO (fun e : DV × AV => (Abs.freeze (g44 (ZaS raw) (Zbf raw)) 1 e.2).map fun v => (e.1, v)) (ZpV (Zbf raw))).map DV.fmap = _
  rw [this]; rfl
end Go.Tev.S1
namespace Go.Abs
theorem A35 : (ann 35).nt = 20 ∧ (ann 35).keep = [0, 2, 3, 5, 7, 8, 9, 10] ∧ (ann 35).take = [] ∧ (ann 35).heapy = [] ∧ (ann 35).frz = [] ∧ (ann 35).lend = [] := ⟨rfl, rfl, rfl, rfl, rfl, rfl⟩
section
variable {C : Ctx} {call : Zaa} {fa : FA} {st st1 s : St} {x y : Code} {Q : Out → Prop}
theorem ZhQ (hn : Za4 C.P) (hK : Za2 C.P call) {id : Nat} {pre post : List Oper} {o : Oper} {ops : Array Oper} (hops : ops.toList = pre ++ o :: post) (he : Zai C call fa (pre ++ o :: post) pre st = some st1) (hg : o.guard = none) {Q2 : St → Prop}
    (ho : Ybu C fa o st1 Q2) (hq : ∀ s, Q2 s → ∃ s2, Zai C call fa (pre ++ o :: post) post s = some s2 ∧ Q (.norm { s2 with tmp := [] })) : Tri C fa (.region id ops false) st Q := by
  intro own a w S
  refine wp_region_list ?_
  rw [hops]
  have hall : (pre ++ o :: post).toArray = ops := by rw [← hops]
  have key : wpList C.P (pre ++ o :: post).toArray (fun e a' w' => ∃ out, Q out ∧ OutRel C.P fa own st.heap w out e a' w') (pre ++ o :: post) a w := by
    refine ZgB hn hK pre st own a w he S fun a1 w1 own1 S1 F1 E1 => ?_
    simp only [wpList]
    have hw : Region.wanted o (yielded (pre ++ o :: post).toArray a1.tmps) = true := by
      unfold Region.wanted
      rw [hg]
    rw [if_pos hw]
    left
    refine ho own1 a1 w1 S1 _ _ fun a2 w2 s2 own2 hq2 S2 F2 E2 => ?_
    obtain ⟨s3, e3, hq3⟩ := hq s2 hq2
    exact Zc9 hn hK post s2 own2 a2 w2 e3 S2 fun a3 w3 own3 S3 F3 E3 => ⟨_, hq3, rfl, own3, S3.dropTmp, (F1.trans F2).trans F3, (E1.trans E2).trans E3⟩
  rw [hall] at key
  exact key
end
end Go.Abs
namespace Go.Tev.S1
open Go.Abs Go.Proofs
abbrev Mv := List (List UInt8 × List Val)
def ZhO (M : Mv) : List (DV × AV) := M.map fun p => (.str p.1, .d (.slc (p.2.map Val.enc)))
def Znl (raw : List Cus) : Mv := raw.map fun x => (x.name, x.val)
theorem ZgW (a : List UInt8) (v : List Val) : ∀ M : Mv, a ∉ M.map Prod.fst → Zro (.str a) (.d (.slc (v.map Val.enc))) (ZhO M) = some (ZhO (M ++ [(a, v)]))
  | [], _ => rfl
  | (k, c) :: r, h => by
    have ih := ZgW a v r (fun hm => h (List.mem_cons_of_mem _ hm))
    have e : (a == k) = false := by
      rw [beq_eq_false_iff_ne]
      intro e
      exact h (by rw [e]; exact List.mem_cons_self)
    simp only [ZhO, List.map_cons, List.cons_append, Zro, ZdT, e] at ih ⊢
    simp only [ih, Option.map_some]
noncomputable abbrev B40 : Code := Zac Tryz.f35
noncomputable abbrev X40 : Code := sq1 (sq2 (sq2 B40))
noncomputable abbrev L40 : Code := inn (inn (sq2 X40))
noncomputable abbrev ZyH : Code := sq1 B40
noncomputable abbrev ZyL : Code := sq1 (sq2 B40)
noncomputable abbrev ZyJ : Code := sq1 X40
noncomputable abbrev Zyg : Code := sq1 (sq2 (sq2 (sq2 B40)))
theorem YcP : Tryz.f35.body = some (.seq ZyH (.seq ZyL (.seq (.seq ZyJ (.block 0 (.loop L40))) (.seq Zyg .ret)))) := by kernel_rfl
theorem Yev : okC (C.ann 35) ZyH = true ∧ okC (C.ann 35) ZyL = true ∧ okC (C.ann 35) ZyJ = true ∧ okC (C.ann 35) L40 = true ∧ okC (C.ann 35) Zyg = true := by
  refine ⟨?_, ?_, ?_, ?_, ?_⟩ <;> kernel_rfl
theorem m70 : C.isMap 60 = true := by kernel_rfl
theorem z70 : C.mapZero 60 = some (.slc []) := by kernel_rfl
theorem k70 (a : List UInt8) : C.keyOk 60 (.str a) = true := by
  have h : C.P.underlying 60 = some (.map 9 22) := by kernel_rfl
  have h2 : C.P.underlying 9 = some .string := by kernel_rfl
  simp only [Ctx.keyOk, h, h2]
def e40 (raw : List Cus) (i : Nat) : List (Nat × SV) := [(0, .val (.d (d44 raw))), (2, .val (.d .nilm)), (3, .val (.mp 1)), (7, .val (.d (d44 raw))), (8, .val (.d (.int .i64 raw.length))), (9, .val (.d (.int .i64 i)))]
section
attribute [local simp] List.getElem?_cons_zero Option.bind_some Zvk Zeb Zcm Zbk ZfL ZdV ZcD Zjp ZfJ ZdR ZfH ZfF Zjz Zfo Zcf Zbz ZiB ZaB ZaQ Zjf ZaY Zck Zds Zc8 Zce has opx opd opA opD XV.flat XV.copy oD oA Zad ins ZlA ZfR St.put St.putOwn St.lose St.loseEnv unal ZjL Zjr Zpd dUn Zgx Zay Zcb Zbl Zbd ZaR Zch ZbE Zb6 Zig Zbi AV.cells AV.cellOk AV.single DV.cellOk ZuL ZuN Zvp DV.cells ZaJ ZeT ZaK Zb3 ZaL Za3 Zka Za0 Zeh mapO AV.toD ZaA ZbX Zea optD Zcd Za8 ZfD Zam Zb1 Zbo ZaE Zaz Zdi Zc1 Zbn St.trim Out.st
theorem Ybf {call : Zaa} (raw : List Cus) (o : AObj) : evQ C call (ann 35) 0 ZyH ⟨ZgN 0 [.d (d44 raw)], [], [o]⟩ = some (.norm ⟨[(0, .val (.d (d44 raw))), (2, .val (.d .nilm))], [], [o]⟩) := by
  unfold ZyH B40 Zac Tryz.f35
  simp only [Option.getD_some, sq1, ZgN]
  simp [-getElem?_pos, A35, Zai]
theorem YcR {call : Zaa} (raw : List Cus) (o : AObj) : evQ C call (ann 35) 0 ZyL ⟨[(0, .val (.d (d44 raw))), (2, .val (.d .nilm))], [], [o]⟩ = some (.norm ⟨[(0, .val (.d (d44 raw))), (2, .val (.d .nilm)), (3, .val (.mp 1))], [], [o, .map []]⟩) := by
  unfold ZyL B40 Zac Tryz.f35
  simp only [Option.getD_some, sq1, sq2]
  simp [-getElem?_pos, A35, Zai, m70]
theorem Ych {call : Zaa} (raw : List Cus) (o : AObj) : evQ C call (ann 35) 0 ZyJ ⟨[(0, .val (.d (d44 raw))), (2, .val (.d .nilm)), (3, .val (.mp 1))], [], [o, .map []]⟩ = some (.norm ⟨e40 raw 0, [], [o, .map (ZhO [])]⟩) := by
  unfold ZyJ X40 B40 Zac Tryz.f35 e40 d44 ZhO
  simp only [Option.getD_some, sq1, sq2]
  simp [-getElem?_pos, A35, Zai, ZuX]
theorem Yby {call : Zaa} (raw : List Cus) (i : Nat) (x : Cus) (hx : raw[i]? = some x) (hl : raw.length < 2 ^ 40) (M : Mv) (hM : x.name ∉ M.map Prod.fst) (o : AObj) :
    evQ C call (ann 35) 0 L40 ⟨e40 raw i, [], [o, .map (ZhO M)]⟩ = some (.norm ⟨e40 raw (i + 1) ++ [(10, .val (.d (.bool true)))], [], [o, .map (ZhO (M ++ [(x.name, x.val)]))]⟩) := by
  have hlt : i < raw.length := (List.getElem?_eq_some_iff.1 hx).1
  have hw : IntKind.i64.wrap ((i : Int) + 1) = (i : Int) + 1 := Za1 (by omega)
  have hg := ZlX hx
  have hi := YaX hlt
  unfold L40 X40 B40 Zac Tryz.f35 e40 d44
  simp only [Option.getD_some, sq1, sq2, inn]
  simp [-getElem?_pos, A35, Zai, ZuX, hlt, hw, hg, hi, YcW, Yc0, YcY, ZjC, ZoV, hz9, ZyQ, ag9, Zz9, z70, k70, ZgW _ _ M hM, St.trim, Zbn, AV.cellOk, -List.getElem?_map]
theorem Ycp {call : Zaa} (raw : List Cus) (h : List AObj) : evQ C call (ann 35) 0 L40 ⟨e40 raw raw.length, [], h⟩ = some (.exit 0 ⟨e40 raw raw.length ++ [(10, .val (.d (.bool false)))], [], h⟩) := by
  unfold L40 X40 B40 Zac Tryz.f35 e40 d44
  simp only [Option.getD_some, sq1, sq2, inn]
  simp [-getElem?_pos, A35, Zai]
theorem Yb3 {call : Zaa} (raw : List Cus) (h : List AObj) (i : Nat) : evQ C call (ann 35) 0 Zyg ⟨e40 raw i, [], h⟩ = some (.norm ⟨[(0, .val (.d (d44 raw))), (2, .val (.mp 1)), (3, .val (.mp 1)), (7, .val (.d (d44 raw))), (8, .val (.d (.int .i64 raw.length))), (9, .val (.d (.int .i64 i)))], [], h⟩) := by
  unfold Zyg B40 Zac Tryz.f35 e40
  simp only [Option.getD_some, sq1, sq2]
  simp [-getElem?_pos, A35, Zai]
end
theorem ZjT (raw : List Cus) : (Znl raw).map Prod.fst = raw.map Cus.name := by simp [Znl, List.map_map, Function.comp_def]
theorem Zvm (raw : List Cus) (hn : (raw.map Cus.name).Nodup) (hl : raw.length < 2 ^ 40) (o : AObj) : HasN Tryz.prog 35 [.d (d44 raw)] [o] (fun r h' => r = .mp 1 ∧ h' = [o, .map (ZhO (Znl raw))]) := by
  obtain ⟨k0, k1, k2, kL, k7⟩ := Yev
  refine ZeE (C := C) (f := 35) (fn := Tryz.f35) Tryz.func35 YcP (by kernel_rfl) ?_
  refine ZaT (call := Zab C K0) Zae mixed Zag k0 (Ybf raw o) ?_
  refine ZaT (call := Zab C K0) Zae mixed Zag k1 (YcR raw o) ?_
  refine Zhy (e := e40 raw raw.length) (h := [o, .map (ZhO (Znl raw))]) (ZaT (call := Zab C K0) Zae mixed Zag k2 (Ych raw o) (ZeC (Zje (fun m s => ∃ i, i ≤ raw.length ∧ m = raw.length - i ∧ s = ⟨e40 raw i, [], [o, .map (ZhO ((Znl raw).take i))]⟩) (n := raw.length) ⟨0, Nat.zero_le _, rfl, rfl⟩ ?_))) ?_
  · rintro m s ⟨i, hi, rfl, rfl⟩
    rcases Nat.lt_or_ge i raw.length with hlt | hge
    · have hx := List.getElem?_eq_getElem hlt
      have hM : raw[i].name ∉ ((Znl raw).take i).map Prod.fst := by
        rw [List.map_take, ZjT, ← List.map_take]
        exact ZoK hn hx
      refine ZcG (call := Zab C K0) Zae mixed Zag kL (Yby raw i _ hx hl _ hM o) ?_
      refine ⟨raw.length - (i + 1), ⟨e40 raw (i + 1), [], _⟩, by omega, ⟨i + 1, hlt, rfl, rfl⟩, fun k v hv => ?_, rfl, ?_⟩
      · exact ZaW hv
      · have : (Znl raw)[i]? = some (raw[i].name, raw[i].val) := by unfold Znl; rw [List.getElem?_map, hx]; rfl
        rw [ZbJ this]
    · have he : i = raw.length := by omega
      subst he
      refine ZcG (call := Zab C K0) Zae mixed Zag kL (Ycp raw _) ?_
      simp only [Za6]
      refine ⟨_, rfl, ?_⟩
      rw [List.take_of_length_le (by simp [Znl])]
      refine sub_list (s := ⟨e40 raw raw.length ++ [(10, .val (.d (.bool false)))], [], [o, .map (ZhO (Znl raw))]⟩) fun p hp => ?_
      simp only [e40, List.mem_cons, List.not_mem_nil, or_false] at hp
      rcases hp with rfl | rfl | rfl | rfl | rfl | rfl <;> exact ⟨rfl, rfl⟩
  · refine ZaT (call := Zab C K0) Zae mixed Zag k7 (Yb3 raw _ _) ?_
    refine ZcG (call := Zab C K0) (n := 0) Zae mixed Zag rfl rfl ?_
    exact ⟨[.mp 1], rfl, rfl, rfl⟩
end Go.Tev.S1
namespace Go.Tev.S1
open Go.Abs Go.Proofs
noncomputable abbrev B25 : Code := Zac Tryz.f43
noncomputable abbrev S25 : Code := inn (sq2 B25)
noncomputable abbrev W25 : Code := sq1 (sq2 (sq2 (sq2 S25)))
noncomputable abbrev ZwI : Code := inn (inn (sq2 W25))
noncomputable abbrev Zyq : Code := inn (sq2 (sq2 ZwI))
noncomputable abbrev T25 : Code := sq2 (sq2 (sq2 (sq2 (sq2 S25))))
noncomputable abbrev U25 : Code := sq1 T25
noncomputable abbrev Zgv : Code := inn (inn (sq2 U25))
noncomputable abbrev ZhE : Code := inn (sq1 (sq2 (sq2 Zgv)))
noncomputable abbrev Zie : Code := sq2 (sq2 ZhE)
noncomputable abbrev G25 : Code := sq1 (sq2 (sq2 (sq2 Zie)))
noncomputable abbrev ZxG : Code := inn (inn (sq2 G25))
noncomputable abbrev Zzs : Code := inn (sq2 (sq2 ZxG))
noncomputable abbrev ZwV : Code := sq2 (sq2 (sq2 (sq2 Zie)))
noncomputable abbrev Zz2 : Code := sq2 ZwV
noncomputable abbrev N25 : Code := sq1 (sq2 (sq2 T25))
noncomputable abbrev ZoN : Code := inn (inn (sq2 N25))
noncomputable abbrev Zzl : Code := sq1 B25
noncomputable abbrev Zky : Code := sq1 S25
noncomputable abbrev Zyl : Code := sq1 (sq2 S25)
noncomputable abbrev ZkC : Code := sq1 (sq2 (sq2 S25))
noncomputable abbrev Zoy : Code := sq1 W25
noncomputable abbrev ZoW : Code := sq1 ZwI
noncomputable abbrev ZnF : Code := sq1 Zyq
noncomputable abbrev ZzR : Code := sq2 Zyq
noncomputable abbrev ZvX : Code := sq1 U25
noncomputable abbrev ZsT : Code := sq1 Zgv
noncomputable abbrev Ztc : Code := sq2 (sq2 (sq2 Zgv))
noncomputable abbrev Zt8 : Code := sq1 ZhE
noncomputable abbrev ZmT : Code := sq1 (sq2 ZhE)
noncomputable abbrev ZtT : Code := sq1 Zie
noncomputable abbrev ZtI : Code := sq1 (sq2 Zie)
noncomputable abbrev ZtE : Code := sq1 (sq2 (sq2 Zie))
noncomputable abbrev Zi2 : Code := sq1 G25
noncomputable abbrev ZiZ : Code := sq1 ZxG
noncomputable abbrev Zi1 : Code := sq1 Zzs
noncomputable abbrev ZtW : Code := sq2 Zzs
noncomputable abbrev ZpS : Code := sq1 ZwV
noncomputable abbrev Zt3 : Code := sq1 Zz2
noncomputable abbrev ZsU : Code := sq1 (sq2 Zz2)
noncomputable abbrev Ztt : Code := sq1 (sq2 T25)
noncomputable abbrev Zqo : Code := sq1 N25
noncomputable abbrev Zt5 : Code := sq1 (sq2 (sq2 (sq2 T25)))
theorem Yca : Tryz.f43.body = some (.seq Zzl (.scope S25)) := by kernel_rfl
noncomputable abbrev YaN : Code := .seq (.region 4 (Go.Abs.ops Zoy) false) (.block 0 (.loop (.seq (.region 5 (Go.Abs.ops ZoW) false) (.seq (.cond (.tmp 32) .skip (.exit 0)) (.block 1 (.seq (.region 6 (Go.Abs.ops ZnF) false) ZzR))))))
noncomputable abbrev YaS : Code := .seq (.region 17 (Go.Abs.ops Zi2) false) (.block 4 (.loop (.seq (.region 18 (Go.Abs.ops ZiZ) false) (.seq (.cond (.tmp 62) .skip (.exit 4)) (.block 5 (.seq (.region 19 (Go.Abs.ops Zi1) false) ZtW))))))
noncomputable abbrev BD25 : Code := .seq Zt8 (.seq ZmT (.seq ZtT (.seq ZtI (.seq ZtE (.seq YaS (.seq ZpS (.seq Zt3 (.seq ZsU (.goto 0)))))))))
noncomputable abbrev LP25 : Code := .block 2 (.loop (.seq ZsT (.seq (.cond (.tmp 42) .skip (.exit 2)) (.seq (.block 3 BD25) Ztc))))
noncomputable abbrev Yd8 : Code := .seq (.seq ZvX LP25) (.seq Ztt (.seq (.seq Zqo (.block 6 (.loop ZoN))) (.seq Zt5 .ret)))
theorem Yar : S25 = .seq (.region 1 (Go.Abs.ops Zky) false) (.seq Zyl (.seq (.region 3 (Go.Abs.ops ZkC) false) (.seq YaN (.seq (.label 0) Yd8)))) := by kernel_rfl
theorem Zs4 : okC (C.ann 43) Zzl = true ∧ okC (C.ann 43) Zyl = true ∧ okC (C.ann 43) ZzR = true ∧ okC (C.ann 43) ZvX = true ∧ okC (C.ann 43) ZsT = true ∧ okC (C.ann 43) Zt8 = true ∧ okC (C.ann 43) ZmT = true ∧ okC (C.ann 43) ZtT = true ∧ okC (C.ann 43) ZtI = true := by
  refine ⟨?_, ?_, ?_, ?_, ?_, ?_, ?_, ?_, ?_⟩ <;> kernel_rfl
theorem ZpY : okC (C.ann 43) ZtE = true ∧ okC (C.ann 43) ZtW = true ∧ okC (C.ann 43) ZpS = true ∧ okC (C.ann 43) Zt3 = true ∧ okC (C.ann 43) ZsU = true ∧ okC (C.ann 43) Ztc = true ∧ okC (C.ann 43) Ztt = true ∧ okC (C.ann 43) Zqo = true ∧ okC (C.ann 43) ZoN = true ∧ okC (C.ann 43) Zt5 = true := by
  refine ⟨?_, ?_, ?_, ?_, ?_, ?_, ?_, ?_, ?_, ?_⟩ <;> kernel_rfl
def E25 (raw : List Cus) (D : Bm) : List (Nat × SV) := [(0, .val (.d (d44 raw))), (2, .val (.d (.slc []))), (3, .val (.d (.fmap (ZfM D)))), (4, .val (.mp 0)), (5, .val (.mp 1))]
def H25 (Sv Op : Mv) : List AObj := [.map (ZhO Sv), .map (ZhO Op)]
theorem ZdQ (a : List UInt8) : ∀ M : Mv, ZfY (.str a) (ZhO M) = some ((Za7 BEq.beq a M).map fun v => .d (.slc (v.map Val.enc)))
  | [] => rfl
  | (k, u) :: r => by
    have ih := ZdQ a r
    simp only [ZhO, List.map_cons, ZfY, ZdT, Za7] at ih ⊢
    cases (a == k)
    · simpa using ih
    · rfl
def rmv (a : List UInt8) (M : Mv) : Mv := M.filter fun p => !(a == p.1)
theorem Zli (a : List UInt8) : ∀ M : Mv, (M.map Prod.fst).Nodup → Zyb (.str a) (ZhO M) = some (ZhO (rmv a M))
  | [], _ => rfl
  | (k, u) :: r, h => by
    rw [List.map_cons, List.nodup_cons] at h
    have ih := Zli a r h.2
    simp only [ZhO, List.map_cons, Zyb, ZdT, rmv] at ih ⊢
    cases e : (a == k) with
    | false =>
      simp only [ih, Option.map_some, List.filter_cons, e, Bool.not_false, if_true, List.map_cons]
    | true =>
      rw [beq_iff_eq] at e
      subst e
      have : r.filter (fun p => !(a == p.1)) = r := by
        rw [List.filter_eq_self]
        intro p hp
        have : a ≠ p.1 := fun e => h.1 (by rw [e]; exact List.mem_map.2 ⟨p, hp, rfl⟩)
        simpa using this
      simp only [List.filter_cons, beq_self_eq_true, Bool.not_true, Bool.false_eq_true, if_false, this]
section
attribute [local simp] List.getElem?_cons_zero Option.bind_some Zvk Zeb Zcm Zbk ZfL ZdV ZcD Zjp ZfJ ZdR ZfH ZfF Zjz Zfo Zcf Zbz ZiB ZaB ZaQ Zjf ZaY Zck Zds Zc8 Zce has opx opd opA opD XV.flat XV.copy oD oA Zad ins ZlA ZfR St.put St.putOwn St.lose St.loseEnv unal ZjL Zjr Zpd dUn Zgx Zay Zcb Zbl Zbd ZaR Zch ZbE Zb6 Zig Zbi AV.cells AV.cellOk AV.single DV.cellOk ZuL ZuN Zvp DV.cells ZaJ ZeT ZaK Zb3 ZaL Za3 Zka Za0 Zeh mapO AV.toD ZaA ZbX Zea optD Zcd Za8 ZfD Zam Zb1 Zbo ZaE Zaz Zdi Zc1 Zbn St.trim Out.st
theorem Ya0 {call : Zaa} (raw : List Cus) : evQ C call (ann 43) 0 Zzl ⟨ZgN 0 [.d (d44 raw)], [], []⟩ = some (.norm ⟨[(0, .val (.d (d44 raw))), (2, .val (.d (.slc [])))], [], []⟩) := by
  unfold Zzl B25 Zac Tryz.f43
  simp only [Option.getD_some, sq1, ZgN]
  simp [-getElem?_pos, A43, Zai]
theorem YeN : (Go.Abs.ops Zky).toList = (opsL Zky).take 1 ++ (opsL Zky).getD 1 (op0 []) :: (opsL Zky).drop 2 := by kernel_rfl
theorem o25_1 : ((opsL Zky).getD 1 (op0 [])).guard = none ∧ ((opsL Zky).getD 1 (op0 [])).dst = some 25 ∧ ((opsL Zky).getD 1 (op0 [])).op = .call { callee := .value (.func 62), args := #[.tmp 24], argTypes := #[23] } := by
  refine ⟨?_, ?_, ?_⟩ <;> kernel_rfl
theorem Yet : (Go.Abs.ops ZkC).toList = (opsL ZkC).take 1 ++ (opsL ZkC).getD 1 (op0 []) :: (opsL ZkC).drop 2 := by kernel_rfl
theorem o25_3 : ((opsL ZkC).getD 1 (op0 [])).guard = none ∧ ((opsL ZkC).getD 1 (op0 [])).dst = some 28 ∧ ((opsL ZkC).getD 1 (op0 [])).op = .call { callee := .value (.func 35), args := #[.tmp 27], argTypes := #[23] } := by
  refine ⟨?_, ?_, ?_⟩ <;> kernel_rfl
theorem Yct {call : Zaa} {all : List Oper} (raw : List Cus) : Zai C call (ann 43) all ((opsL Zky).take 1) ⟨[(0, .val (.d (d44 raw))), (2, .val (.d (.slc [])))], [], []⟩ = some ⟨[(0, .val (.d (d44 raw))), (2, .val (.d (.slc [])))], [(24, .a (.d (d44 raw)))], []⟩ := by
  unfold opsL Go.Abs.ops Zky S25 B25 Zac Tryz.f43
  simp only [Option.getD_some, sq1, sq2, inn]
  simp [-getElem?_pos, A43, Zai]
theorem ZzM {call : Zaa} {all : List Oper} (raw : List Cus) (D : Bm) : Zai C call (ann 43) all ((opsL Zky).drop 2) ⟨[(0, .val (.d (d44 raw))), (2, .val (.d (.slc [])))], [(25, .a (.d (.fmap (ZfM D)))), (24, .a (.d (d44 raw)))], []⟩ =
    some ⟨[(0, .val (.d (d44 raw))), (2, .val (.d (.slc []))), (3, .val (.d (.fmap (ZfM D))))], [(25, .a (.d (.fmap (ZfM D)))), (24, .a (.d (d44 raw)))], []⟩ := by
  unfold opsL Go.Abs.ops Zky S25 B25 Zac Tryz.f43
  simp only [Option.getD_some, sq1, sq2, inn]
  simp [-getElem?_pos, A43, Zai]
theorem Ycu {call : Zaa} (raw : List Cus) (D : Bm) : evQ C call (ann 43) 0 Zyl ⟨[(0, .val (.d (d44 raw))), (2, .val (.d (.slc []))), (3, .val (.d (.fmap (ZfM D))))], [], []⟩ = some (.norm ⟨[(0, .val (.d (d44 raw))), (2, .val (.d (.slc []))), (3, .val (.d (.fmap (ZfM D)))), (4, .val (.mp 0))], [], [.map []]⟩) := by
  unfold Zyl S25 B25 Zac Tryz.f43
  simp only [Option.getD_some, sq1, sq2, inn]
  simp [-getElem?_pos, A43, Zai, m70]
theorem YcB {call : Zaa} {all : List Oper} (raw : List Cus) (D : Bm) : Zai C call (ann 43) all ((opsL ZkC).take 1) ⟨[(0, .val (.d (d44 raw))), (2, .val (.d (.slc []))), (3, .val (.d (.fmap (ZfM D)))), (4, .val (.mp 0))], [], [.map []]⟩ =
    some ⟨[(0, .val (.d (d44 raw))), (2, .val (.d (.slc []))), (3, .val (.d (.fmap (ZfM D)))), (4, .val (.mp 0))], [(27, .a (.d (d44 raw)))], [.map []]⟩ := by
  unfold opsL Go.Abs.ops ZkC S25 B25 Zac Tryz.f43
  simp only [Option.getD_some, sq1, sq2, inn]
  simp [-getElem?_pos, A43, Zai]
theorem Yau {call : Zaa} {all : List Oper} (raw : List Cus) (D : Bm) (h : List AObj) : Zai C call (ann 43) all ((opsL ZkC).drop 2) ⟨[(0, .val (.d (d44 raw))), (2, .val (.d (.slc []))), (3, .val (.d (.fmap (ZfM D)))), (4, .val (.mp 0))], [(28, .a (.mp 1)), (27, .a (.d (d44 raw)))], h⟩ =
    some ⟨E25 raw D, [(28, .a (.mp 1)), (27, .a (.d (d44 raw)))], h⟩ := by
  unfold opsL Go.Abs.ops ZkC S25 B25 Zac Tryz.f43 E25
  simp only [Option.getD_some, sq1, sq2, inn]
  simp [-getElem?_pos, A43, Zai]
theorem Yeq : (Go.Abs.ops Zoy).toList = (opsL Zoy).take 1 ++ [opZ (opsL Zoy)] := by kernel_rfl
theorem o25_4 : (opZ (opsL Zoy)).op = .range 62 (.tmp 29) ∧ (opZ (opsL Zoy)).guard = none ∧ (opZ (opsL Zoy)).dst = some 30 := by
  refine ⟨?_, ?_, ?_⟩ <;> kernel_rfl
theorem Ycs {call : Zaa} {all : List Oper} (raw : List Cus) (D : Bm) (h : List AObj) : Zai C call (ann 43) all ((opsL Zoy).take 1) ⟨E25 raw D, [], h⟩ = some ⟨E25 raw D, [(29, .a (.d (.fmap (ZfM D))))], h⟩ := by
  unfold opsL Go.Abs.ops Zoy W25 S25 B25 Zac Tryz.f43 E25
  simp only [Option.getD_some, sq1, sq2, inn]
  simp [-getElem?_pos, A43, Zai]
theorem Yef : (Go.Abs.ops ZoW).toList = op0 (opsL ZoW) :: (opsL ZoW).drop 1 := by kernel_rfl
theorem o25_5 : (op0 (opsL ZoW)).op = .next (.tmp 30) false ∧ (op0 (opsL ZoW)).guard = none ∧ (op0 (opsL ZoW)).dst = some 31 := by
  refine ⟨?_, ?_, ?_⟩ <;> kernel_rfl
theorem Yew : (Go.Abs.ops ZnF).toList = op0 (opsL ZnF) :: (opsL ZnF).drop 1 := by kernel_rfl
theorem o25_6 : (op0 (opsL ZnF)).op = .entry (.tmp 30) ∧ (op0 (opsL ZnF)).guard = none ∧ (op0 (opsL ZnF)).dst = some 33 := by
  refine ⟨?_, ?_, ?_⟩ <;> kernel_rfl
def Zvw (raw : List Cus) (D : Bm) (p : Value) : List (Nat × SV) := E25 raw D ++ [(30, .val (.raw p))]
theorem Zv9 {call : Zaa} {all : List Oper} (raw : List Cus) (D : Bm) (p : Value) (h : List AObj) (b : Bool) (vs : List DV) :
    Zai C call (ann 43) all ((opsL ZoW).drop 1) ⟨Zvw raw D p, [(31, .a (.d (.tup (.bool b :: vs))))], h⟩ = some ⟨Zvw raw D p ++ [(32, .val (.d (.bool b)))], [(31, .a (.d (.tup (.bool b :: vs))))], h⟩ := by
  unfold opsL Go.Abs.ops ZoW ZwI W25 S25 B25 Zac Tryz.f43 Zvw E25
  simp only [Option.getD_some, sq1, sq2, inn]
  simp [-getElem?_pos, A43, Zai]
theorem Ycz {call : Zaa} {all : List Oper} (raw : List Cus) (D : Bm) (p : Value) (h : List AObj) (k v : DV) :
    Zai C call (ann 43) all ((opsL ZnF).drop 1) ⟨Zvw raw D p ++ [(32, .val (.d (.bool true)))], [(33, .a (.d (.tup [k, v])))], h⟩ = some ⟨Zvw raw D p ++ [(32, .val (.d (.bool true))), (6, .val (.d k)), (7, .val (.d v))], [(35, .a (.d v)), (34, .a (.d k)), (33, .a (.d (.tup [k, v])))], h⟩ := by
  unfold opsL Go.Abs.ops ZnF Zyq ZwI W25 S25 B25 Zac Tryz.f43 Zvw E25
  simp only [Option.getD_some, sq1, sq2, inn]
  simp [-getElem?_pos, A43, Zai]
theorem YcF {call : Zaa} (raw : List Cus) (D : Bm) (p : Value) (Sv Op : Mv) (hO : (Op.map Prod.fst).Nodup) (a : List UInt8) (b : Bool) :
    evQ C call (ann 43) 0 ZzR ⟨Zvw raw D p ++ [(32, .val (.d (.bool true))), (6, .val (.d (.str a))), (7, .val (.d (.bool b)))], [], H25 Sv Op⟩ =
      some (.norm ⟨Zvw raw D p ++ [(32, .val (.d (.bool true))), (6, .val (.d (.str a))), (7, .val (.d (.bool b))), (36, .val (.d (.bool b)))], [], H25 Sv (bif b then rmv a Op else Op)⟩) := by
  unfold ZzR Zyq ZwI W25 S25 B25 Zac Tryz.f43 Zvw E25 H25
  simp only [Option.getD_some, sq1, sq2, inn]
  cases b
  · simp [-getElem?_pos, A43, Zai]
  · simp [-getElem?_pos, A43, Zai, Zhq, z70, k70, Zli a Op hO]
end
end Go.Tev.S1
namespace Go.Tev.S1
open Go.Abs Go.Proofs
def F25 (raw : List Cus) (D : Bm) (i : Nat) : List (Nat × SV) := E25 raw D ++ [(39, .val (.d (d44 raw))), (40, .val (.d (.int .i64 raw.length))), (41, .val (.d (.int .i64 i)))]
def x25 (x : Cus) : Nat × SV := (9, .box [.str x.name, .slc (x.val.map Val.enc)])
section
attribute [local simp] List.getElem?_cons_zero Option.bind_some Zvk Zeb Zcm Zbk ZfL ZdV ZcD Zjp ZfJ ZdR ZfH ZfF Zjz Zfo Zcf Zbz ZiB ZaB ZaQ Zjf ZaY Zck Zds Zc8 Zce has opx opd opA opD XV.flat XV.copy oD oA Zad ins ZlA ZfR St.put St.putOwn St.lose St.loseEnv unal ZjL Zjr Zpd dUn Zgx Zay Zcb Zbl Zbd ZaR Zch ZbE Zb6 Zig Zbi AV.cells AV.cellOk AV.single DV.cellOk ZuL ZuN Zvp DV.cells ZaJ ZeT ZaK Zb3 ZaL Za3 Zka Za0 Zeh mapO AV.toD ZaA ZbX Zea optD Zcd Za8 ZfD Zam Zb1 Zbo ZaE Zaz Zdi Zc1 Zbn St.trim Out.st
theorem YcL {call : Zaa} (raw : List Cus) (D : Bm) (h : List AObj) : evQ C call (ann 43) 0 ZvX ⟨E25 raw D, [], h⟩ = some (.norm ⟨F25 raw D 0, [], h⟩) := by
  unfold ZvX U25 T25 S25 B25 Zac Tryz.f43 F25 E25 d44
  simp only [Option.getD_some, sq1, sq2, inn]
  simp [-getElem?_pos, A43, Zai, ZuX]
theorem Yao {call : Zaa} (raw : List Cus) (D : Bm) (i : Nat) (h : List AObj) : evQ C call (ann 43) 0 ZsT ⟨F25 raw D i, [], h⟩ = some (.norm ⟨F25 raw D i ++ [(42, .val (.d (.bool (decide ((i : Int) < (raw.length : Int))))))], [], h⟩) := by
  unfold ZsT Zgv U25 T25 S25 B25 Zac Tryz.f43 F25 E25
  simp only [Option.getD_some, sq1, sq2, inn]
  simp [-getElem?_pos, A43, Zai]
theorem ZyD {call : Zaa} (raw : List Cus) (D : Bm) (i : Nat) (hl : i + 1 < 2 ^ 63) (v : SV) (h : List AObj) : evQ C call (ann 43) 0 Ztc ⟨F25 raw D i ++ [(42, v)], [], h⟩ = some (.norm ⟨F25 raw D (i + 1) ++ [(42, v)], [], h⟩) := by
  have hw : IntKind.i64.wrap ((i : Int) + 1) = (i : Int) + 1 := Za1 hl
  unfold Ztc Zgv U25 T25 S25 B25 Zac Tryz.f43 F25 E25
  simp only [Option.getD_some, sq1, sq2, inn]
  simp [-getElem?_pos, A43, Zai, hw]
theorem Zyv {call : Zaa} (raw : List Cus) (D : Bm) (i : Nat) (x : Cus) (hx : raw[i]? = some x) (v : SV) (h : List AObj) : evQ C call (ann 43) 0 Zt8 ⟨F25 raw D i ++ [(42, v)], [], h⟩ = some (.norm ⟨F25 raw D i ++ [(42, v), x25 x], [], h⟩) := by
  have hlt : i < raw.length := (List.getElem?_eq_some_iff.1 hx).1
  have hg := ZlX hx
  have hi := YaX hlt
  unfold Zt8 ZhE Zgv U25 T25 S25 B25 Zac Tryz.f43 F25 E25 x25 d44
  simp only [Option.getD_some, sq1, sq2, inn]
  simp [-getElem?_pos, A43, Zai, ZuX, hg, hi, YcW, Yc0, YcY, -List.getElem?_map]
theorem Zxo {call : Zaa} (raw : List Cus) (D : Bm) (i : Nat) (x : Cus) (v : SV) (Sv Op : Mv) (hO : Za7 BEq.beq x.name Op = none) : evQ C call (ann 43) 0 ZmT ⟨F25 raw D i ++ [(42, v), x25 x], [], H25 Sv Op⟩ =
    some (.exit 3 ⟨F25 raw D i ++ [(42, v), x25 x, (11, .val (.d (.bool false))), (53, .val (.d (.bool true)))], [], H25 Sv Op⟩) := by
  unfold ZmT ZhE Zgv U25 T25 S25 B25 Zac Tryz.f43 F25 E25 x25 H25
  simp only [Option.getD_some, sq1, sq2, inn]
  simp [-getElem?_pos, A43, Zai, ZjC, hz9, ag9, Zbm, z70, k70, ZdQ, hO]
theorem ZwQ {call : Zaa} (raw : List Cus) (D : Bm) (i : Nat) (x : Cus) (v : SV) (Sv Op : Mv) {u : List Val} (hO : Za7 BEq.beq x.name Op = some u) : evQ C call (ann 43) 0 ZmT ⟨F25 raw D i ++ [(42, v), x25 x], [], H25 Sv Op⟩ =
    some (.norm ⟨F25 raw D i ++ [(42, v), x25 x, (11, .val (.d (.bool true))), (53, .val (.d (.bool false)))], [], H25 Sv Op⟩) := by
  unfold ZmT ZhE Zgv U25 T25 S25 B25 Zac Tryz.f43 F25 E25 x25 H25
  simp only [Option.getD_some, sq1, sq2, inn]
  simp [-getElem?_pos, A43, Zai, ZjC, hz9, ag9, Zbm, z70, k70, ZdQ, hO, Zc1, Zeh, mapO, AV.toD]
def b25 (raw : List Cus) (D : Bm) (i : Nat) (x : Cus) : List (Nat × SV) := F25 raw D i ++ [(42, .val (.d (.bool true))), x25 x, (11, .val (.d (.bool true))), (53, .val (.d (.bool false)))]
theorem Zyh {call : Zaa} (raw : List Cus) (D : Bm) (i : Nat) (x : Cus) (Sv Op : Mv) : evQ C call (ann 43) 0 ZtT ⟨b25 raw D i x, [], H25 Sv Op⟩ = some (.norm ⟨b25 raw D i x ++ [(12, .val (.mp 2))], [], H25 Sv Op ++ [.map []]⟩) := by
  unfold ZtT Zie ZhE Zgv U25 T25 S25 B25 Zac Tryz.f43 b25 F25 E25 x25 H25
  simp only [Option.getD_some, sq1, sq2, inn]
  simp [-getElem?_pos, A43, Zai, YbY]
theorem Zzr {call : Zaa} (raw : List Cus) (D : Bm) (i : Nat) (x : Cus) (Sv Op : Mv) (h' : List AObj) (h34 : call 36 [.d (.slc (x.val.map Val.enc)), .mp 2] [.map (ZhO Sv), .map (ZhO Op), .map []] = some (.d (.tup []), h')) :
    evQ C call (ann 43) 0 ZtI ⟨b25 raw D i x ++ [(12, .val (.mp 2))], [], H25 Sv Op ++ [.map []]⟩ = some (.norm ⟨b25 raw D i x ++ [(12, .val (.mp 2))], [], h'⟩) := by
  unfold ZtI Zie ZhE Zgv U25 T25 S25 B25 Zac Tryz.f43 b25 F25 E25 x25 H25
  simp only [Option.getD_some, sq1, sq2, inn]
  simp [-getElem?_pos, A43, Zai, ZoV, ZyQ, Zz9, ZhV, AV.toD, h34]
theorem Yap {call : Zaa} (raw : List Cus) (D : Bm) (i : Nat) (x : Cus) (u : SV) (h : List AObj) : evQ C call (ann 43) 0 ZtE ⟨b25 raw D i x ++ [(12, u)], [], h⟩ = some (.norm ⟨b25 raw D i x ++ [(12, u), (13, .val (.d (.bool false)))], [], h⟩) := by
  unfold ZtE Zie ZhE Zgv U25 T25 S25 B25 Zac Tryz.f43 b25 F25 E25 x25
  simp only [Option.getD_some, sq1, sq2, inn]
  simp [-getElem?_pos, A43, Zai]
def c25 (raw : List Cus) (D : Bm) (i : Nat) (x : Cus) (b : Bool) : List (Nat × SV) := b25 raw D i x ++ [(12, .val (.d (.fmap (ZfM (Zej [] x.val))))), (13, .val (.d (.bool b)))]
theorem Ydn : (Go.Abs.ops Zi2).toList = (opsL Zi2).take 1 ++ [opZ (opsL Zi2)] := by kernel_rfl
theorem o25_17 : (opZ (opsL Zi2)).op = .range 62 (.tmp 59) ∧ (opZ (opsL Zi2)).guard = none ∧ (opZ (opsL Zi2)).dst = some 60 := by
  refine ⟨?_, ?_, ?_⟩ <;> kernel_rfl
theorem Zzh {call : Zaa} {all : List Oper} (raw : List Cus) (D : Bm) (i : Nat) (x : Cus) (b : Bool) (h : List AObj) : Zai C call (ann 43) all ((opsL Zi2).take 1) ⟨c25 raw D i x b, [], h⟩ = some ⟨c25 raw D i x b, [(59, .a (.d (.fmap (ZfM (Zej [] x.val)))))], h⟩ := by
  unfold opsL Go.Abs.ops Zi2 G25 Zie ZhE Zgv U25 T25 S25 B25 Zac Tryz.f43 c25 b25 F25 E25 x25
  simp only [Option.getD_some, sq1, sq2, inn]
  simp [-getElem?_pos, A43, Zai]
theorem Ydz : (Go.Abs.ops ZiZ).toList = op0 (opsL ZiZ) :: (opsL ZiZ).drop 1 := by kernel_rfl
theorem o25_18 : (op0 (opsL ZiZ)).op = .next (.tmp 60) false ∧ (op0 (opsL ZiZ)).guard = none ∧ (op0 (opsL ZiZ)).dst = some 61 := by
  refine ⟨?_, ?_, ?_⟩ <;> kernel_rfl
theorem Ydj : (Go.Abs.ops Zi1).toList = op0 (opsL Zi1) :: (opsL Zi1).drop 1 := by kernel_rfl
theorem o25_19 : (op0 (opsL Zi1)).op = .entry (.tmp 60) ∧ (op0 (opsL Zi1)).guard = none ∧ (op0 (opsL Zi1)).dst = some 63 := by
  refine ⟨?_, ?_, ?_⟩ <;> kernel_rfl
def g25 (raw : List Cus) (D : Bm) (i : Nat) (x : Cus) (b : Bool) (p : Value) : List (Nat × SV) := c25 raw D i x b ++ [(60, .val (.raw p))]
theorem Zti {call : Zaa} {all : List Oper} (raw : List Cus) (D : Bm) (i : Nat) (x : Cus) (bb : Bool) (p : Value) (h : List AObj) (b : Bool) (vs : List DV) :
    Zai C call (ann 43) all ((opsL ZiZ).drop 1) ⟨g25 raw D i x bb p, [(61, .a (.d (.tup (.bool b :: vs))))], h⟩ = some ⟨g25 raw D i x bb p ++ [(62, .val (.d (.bool b)))], [(61, .a (.d (.tup (.bool b :: vs))))], h⟩ := by
  unfold opsL Go.Abs.ops ZiZ ZxG G25 Zie ZhE Zgv U25 T25 S25 B25 Zac Tryz.f43 g25 c25 b25 F25 E25 x25
  simp only [Option.getD_some, sq1, sq2, inn]
  simp [-getElem?_pos, A43, Zai]
theorem Zzb {call : Zaa} {all : List Oper} (raw : List Cus) (D : Bm) (i : Nat) (x : Cus) (bb : Bool) (p : Value) (h : List AObj) (k v : DV) :
    Zai C call (ann 43) all ((opsL Zi1).drop 1) ⟨g25 raw D i x bb p ++ [(62, .val (.d (.bool true)))], [(63, .a (.d (.tup [k, v])))], h⟩ = some ⟨g25 raw D i x bb p ++ [(62, .val (.d (.bool true))), (14, .val (.d k))], [(64, .a (.d k)), (63, .a (.d (.tup [k, v])))], h⟩ := by
  unfold opsL Go.Abs.ops Zi1 Zzs ZxG G25 Zie ZhE Zgv U25 T25 S25 B25 Zac Tryz.f43 g25 c25 b25 F25 E25 x25
  simp only [Option.getD_some, sq1, sq2, inn]
  simp [-getElem?_pos, A43, Zai]
theorem Zyu {call : Zaa} (raw : List Cus) (D : Bm) (i : Nat) (x : Cus) (bb : Bool) (p : Value) (Sv Op : Mv) (nm : List UInt8) :
    evQ C call (ann 43) 0 ZtW ⟨g25 raw D i x bb p ++ [(62, .val (.d (.bool true))), (14, .val (.d (.str nm)))], [], H25 Sv Op⟩ =
      some (.norm ⟨g25 raw D i x (bb || (Za7 BEq.beq nm Op).isSome) p ++ [(62, .val (.d (.bool true))), (14, .val (.d (.str nm))), (16, .val (.d (.bool (Za7 BEq.beq nm Op).isSome))), (71, .val (.d (.bool (Za7 BEq.beq nm Op).isSome)))], [], H25 Sv Op⟩) := by
  unfold ZtW Zzs ZxG G25 Zie ZhE Zgv U25 T25 S25 B25 Zac Tryz.f43 g25 c25 b25 F25 E25 x25 H25
  simp only [Option.getD_some, sq1, sq2, inn]
  cases hO : Za7 BEq.beq nm Op with
  | none => simp [-getElem?_pos, A43, Zai, Zbm, z70, k70, ZdQ, hO, Zc1, Zeh, mapO, AV.toD]
  | some u => simp [-getElem?_pos, A43, Zai, Zbm, z70, k70, ZdQ, hO, Zc1, Zeh, mapO, AV.toD]
theorem ZtJ {call : Zaa} (raw : List Cus) (D : Bm) (i : Nat) (x : Cus) (h : List AObj) : evQ C call (ann 43) 0 ZpS ⟨c25 raw D i x false, [], h⟩ = some (.norm ⟨c25 raw D i x false ++ [(72, .val (.d (.bool false)))], [], h⟩) ∧
    evQ C call (ann 43) 0 ZpS ⟨c25 raw D i x true, [], h⟩ = some (.exit 3 ⟨c25 raw D i x true ++ [(72, .val (.d (.bool true)))], [], h⟩) := by
  unfold ZpS ZwV Zie ZhE Zgv U25 T25 S25 B25 Zac Tryz.f43 c25 b25 F25 E25 x25
  simp only [Option.getD_some, sq1, sq2, inn]
  constructor <;> simp [-getElem?_pos, A43, Zai]
theorem ZyN {call : Zaa} (raw : List Cus) (D : Bm) (i : Nat) (x : Cus) (Sv Op : Mv) (hO : (Op.map Prod.fst).Nodup) : evQ C call (ann 43) 0 Zt3 ⟨c25 raw D i x false ++ [(72, .val (.d (.bool false)))], [], H25 Sv Op⟩ = some (.norm ⟨c25 raw D i x false ++ [(72, .val (.d (.bool false)))], [], H25 Sv (rmv x.name Op)⟩) := by
  unfold Zt3 Zz2 ZwV Zie ZhE Zgv U25 T25 S25 B25 Zac Tryz.f43 c25 b25 F25 E25 x25 H25
  simp only [Option.getD_some, sq1, sq2, inn]
  simp [-getElem?_pos, A43, Zai, ZjC, hz9, ag9, Zhq, z70, k70, Zli _ Op hO]
def Yc1 (Sv : Mv) : List (DV × DV) := Sv.map fun p => (.str p.1, .slc (p.2.map Val.enc))
end
theorem ZsJ {α β γ : Type} {f : β → Option γ} {g : α → β} {k : α → γ} (h : ∀ x, f (g x) = some (k x)) : ∀ l : List α, mapO f (l.map g) = some (l.map k)
  | [] => rfl
  | x :: r => by
    have ih := ZsJ h r
    rw [List.map_cons, List.map_cons]
    simp only [mapO, h, ih]
theorem YeM (d : DV) : (AV.d d).toD = some d := by simp [AV.toD]
theorem Zws (Sv : Mv) : mapO (fun e : DV × AV => e.2.toD.map fun v => (e.1, v)) (ZhO Sv) = some (Yc1 Sv) :=
  ZsJ (fun p => by show (AV.d _).toD.map _ = _; rw [YeM]; rfl) Sv
theorem Ydo (v : List Val) : DV.noMapL (v.map Val.enc) = true := by
  have := ok.noMap 22 v rfl
  exact this
end Go.Tev.S1
namespace Go.Tev.S1
open Go.Abs Go.Proofs
def d25 (raw : List Cus) (D : Bm) (i : Nat) (x : Cus) : List (Nat × SV) := c25 raw D i x false ++ [(72, .val (.d (.bool false)))]
theorem Zwg (Sv Op : Mv) (u : DV) : ZdO [.map (ZhO Sv), .map (ZhO Op)] [.d u, .mp 0] = some ([u, .fmap (Yc1 Sv)], 1) := by
  have h : ZpA [.map (ZhO Sv), .map (ZhO Op)] (.mp 0) = some (.fmap (Yc1 Sv), 1) := by
    show (mapO (fun e : DV × AV => e.2.toD.map fun v => (e.1, v)) (ZhO Sv)).map (fun l => (DV.fmap l, 1)) = _
    rw [Zws]; rfl
  simp only [ZdO, h]
  rfl
theorem Zrs (v : List Val) (e : Int) : Zqh 1 (.tup [.slc (v.map Val.enc), .int .i64 e]) = true := by
  simp only [Zqh, DV.noMap, DV.noMapL, Ydo, Bool.and_self]
section
attribute [local simp] List.getElem?_cons_zero Option.bind_some Zvk Zeb Zcm Zbk ZfL ZdV ZcD Zjp ZfJ ZdR ZfH ZfF Zjz Zfo Zcf Zbz ZiB ZaB ZaQ Zjf ZaY Zck Zds Zc8 Zce has opx opd opA opD XV.flat XV.copy oD oA Zad ins ZlA ZfR St.put St.putOwn St.lose St.loseEnv unal ZjL Zjr Zpd dUn Zgx Zay Zcb Zbl Zbd ZaR Zch ZbE Zb6 Zig Zbi AV.cells AV.cellOk AV.single DV.cellOk ZuL ZuN Zvp DV.cells ZaJ ZeT ZaK Zb3 ZaL Za3 Zka Za0 Zeh mapO AV.toD ZaA ZbX Zea optD Zcd Za8 ZfD Zam Zb1 Zbo ZaE Zaz Zdi Zc1 Zbn St.trim Out.st
theorem Zye {call : Zaa} (raw : List Cus) (D : Bm) (i : Nat) (x : Cus) (Sv Op : Mv) (v : List Val) (e n : Int) (hS : x.name ∉ Sv.map Prod.fst)
    (h39 : Zci call false 34 [.slc (x.val.map Val.enc), .fmap (Yc1 Sv)] = some (.tup [.slc (v.map Val.enc), .int .i64 e])) (h30 : e = 0 → Zci call true 44 [.slc (v.map Val.enc)] = some (.int .i64 n)) :
    evQ C call (ann 43) 0 ZsU ⟨d25 raw D i x, [], H25 Sv Op⟩ = some (.norm ⟨d25 raw D i x ++ [(17, .val (.d (.slc (v.map Val.enc)))), (18, .val (.d (.int .i64 e))), (89, .val (.d (.bool (decide (e = 0) && decide (n ≤ 2000)))))], [], H25 (bif decide (e = 0) && decide (n ≤ 2000) then Sv ++ [(x.name, v)] else Sv) Op⟩) := by
  unfold ZsU Zz2 ZwV Zie ZhE Zgv U25 T25 S25 B25 Zac Tryz.f43 d25 c25 b25 F25 E25 x25 H25
  simp only [Option.getD_some, sq1, sq2, inn]
  by_cases he : e = 0
  · subst he
    have h30 := h30 rfl
    by_cases hn : n ≤ 2000
    · simp [-getElem?_pos, A43, Zai, ZjC, ZoV, hz9, ZyQ, ag9, Zz9, z70, k70, Zwg, h39, h30, Zrs, hn, ZgW _ _ Sv hS]
    · simp [-getElem?_pos, A43, Zai, ZjC, ZoV, hz9, ZyQ, ag9, Zz9, z70, k70, Zwg, h39, h30, Zrs, hn, ZgW _ _ Sv hS]
  · have he2 : (e == 0) = false := by simpa using he
    simp [-getElem?_pos, A43, Zai, ZjC, ZoV, hz9, ZyQ, ag9, Zz9, z70, k70, Zwg, h39, Zrs, he, he2, ZgW _ _ Sv hS]
theorem ZyS {call : Zaa} (raw : List Cus) (D : Bm) (h : List AObj) : evQ C call (ann 43) 0 Ztt ⟨E25 raw D, [], h⟩ = some (.norm ⟨E25 raw D ++ [(19, .own [])], [], h⟩) := by
  unfold Ztt T25 S25 B25 Zac Tryz.f43 E25
  simp only [Option.getD_some, sq1, sq2, inn]
  simp [-getElem?_pos, A43, Zai]
def n25 (raw : List Cus) (D : Bm) (es : List Cus) (i : Nat) : List (Nat × SV) := E25 raw D ++ [(19, .own (es.map Cus.enc)), (95, .val (.d (d44 raw))), (96, .val (.d (.int .i64 raw.length))), (97, .val (.d (.int .i64 i)))]
theorem ZzP {call : Zaa} (raw : List Cus) (D : Bm) (h : List AObj) : evQ C call (ann 43) 0 Zqo ⟨E25 raw D ++ [(19, .own [])], [], h⟩ = some (.norm ⟨n25 raw D [] 0, [], h⟩) := by
  unfold Zqo N25 T25 S25 B25 Zac Tryz.f43 n25 E25 d44
  simp only [Option.getD_some, sq1, sq2, inn]
  simp [-getElem?_pos, A43, Zai, ZuX]
theorem ZyF {call : Zaa} (raw : List Cus) (D : Bm) (es : List Cus) (h : List AObj) : evQ C call (ann 43) 0 ZoN ⟨n25 raw D es raw.length, [], h⟩ = some (.exit 6 ⟨n25 raw D es raw.length ++ [(98, .val (.d (.bool false)))], [], h⟩) := by
  unfold ZoN N25 T25 S25 B25 Zac Tryz.f43 n25 E25
  simp only [Option.getD_some, sq1, sq2, inn]
  simp [-getElem?_pos, A43, Zai]
theorem Zzm {call : Zaa} (raw : List Cus) (D : Bm) (es : List Cus) (i : Nat) (h : List AObj) : ∃ s, evQ C call (ann 43) 0 Zt5 ⟨n25 raw D es i, [], h⟩ = some (.norm s) ∧ Zcm C s Tryz.f43.results.toList = some [.d (.slc (es.map Cus.enc))] := by
  have hr : Tryz.f43.results.toList = [.tmp 2] := rfl
  rw [hr]
  unfold Zt5 T25 S25 B25 Zac Tryz.f43 n25 E25
  simp only [Option.getD_some, sq1, sq2, inn]
  simp [-getElem?_pos, A43, Zai]
theorem pl53 : C.places 39 = some (fun i => [(0, 1), (1, 1)][i]?) := by kernel_rfl
theorem hz22 : C.hasZero 23 = true := by kernel_rfl
theorem el22 : C.elemOk 23 2 = true := by kernel_rfl
theorem eb22 : ∃ b, C.elemBytes 23 = some b ∧ b ≤ 100 := ⟨40, by kernel_rfl, by decide⟩
end
theorem rm22 {n : Nat} (h : n ≤ 2 ^ 40) : ZbU C 23 n = true := by
  obtain ⟨b, hb, hl⟩ := eb22
  simp only [ZbU, hb, Bool.and_eq_true, Nat.ble_eq]
  have : n * b ≤ 2 ^ 40 * 100 := Nat.mul_le_mul h hl
  exact ⟨by omega, by omega⟩
theorem cs53 (es : List Cus) : Zaz 2 ((es.map Cus.enc).take 1) = true := by
  cases es with
  | nil => rfl
  | cons x es => rfl
section
attribute [local simp] List.getElem?_cons_zero Option.bind_some Zvk Zeb Zcm Zbk ZfL ZdV ZcD Zjp ZfJ ZdR ZfH ZfF Zjz Zfo Zcf Zbz ZiB ZaB ZaQ Zjf ZaY Zck Zds Zc8 Zce has opx opd opA opD XV.flat XV.copy oD oA Zad ins ZlA ZfR St.put St.putOwn St.lose St.loseEnv unal ZjL Zjr Zpd dUn Zgx Zay Zcb Zbl Zbd ZaR Zch ZbE Zb6 Zig Zbi AV.cells AV.cellOk AV.single DV.cellOk ZuL ZuN Zvp DV.cells ZaJ ZeT ZaK Zb3 ZaL Za3 Zka Za0 Zeh mapO AV.toD ZaA ZbX Zea optD Zcd Za8 ZfD Zam Zb1 Zbo ZaE Zaz Zdi Zc1 Zbn St.trim Out.st
theorem Zz7 {call : Zaa} (raw : List Cus) (D : Bm) (es : List Cus) (i : Nat) (x : Cus) (hx : raw[i]? = some x) (hl : raw.length < 2 ^ 40) (Sv Op : Mv) (hS : Za7 BEq.beq x.name Sv = none) :
    evQ C call (ann 43) 0 ZoN ⟨n25 raw D es i, [], H25 Sv Op⟩ = some (.norm ⟨n25 raw D es (i + 1) ++ [(98, .val (.d (.bool true)))], [], H25 Sv Op⟩) := by
  have hlt : i < raw.length := (List.getElem?_eq_some_iff.1 hx).1
  have hw : IntKind.i64.wrap ((i : Int) + 1) = (i : Int) + 1 := Za1 (by omega)
  have hg := ZlX hx
  have hi := YaX hlt
  unfold ZoN N25 T25 S25 B25 Zac Tryz.f43 n25 E25 H25 d44
  simp only [Option.getD_some, sq1, sq2, inn]
  simp [-getElem?_pos, A43, Zai, ZuX, hlt, hw, hg, hi, YcW, Yc0, YcY, ZjC, ZoV, hz9, ZyQ, ag9, Zz9, Zbm, z70, k70, ZdQ, hS, -List.getElem?_map]
theorem Yaa {call : Zaa} (raw : List Cus) (D : Bm) (es : List Cus) (i : Nat) (x : Cus) (hx : raw[i]? = some x) (hl : raw.length < 2 ^ 40) (he : es.length ≤ i) (Sv Op : Mv) {v : List Val} (hS : Za7 BEq.beq x.name Sv = some v) :
    evQ C call (ann 43) 0 ZoN ⟨n25 raw D es i, [], H25 Sv Op⟩ = some (.norm ⟨n25 raw D (es ++ [⟨x.name, v⟩]) (i + 1) ++ [(98, .val (.d (.bool true)))], [], H25 Sv Op⟩) := by
  have hlt : i < raw.length := (List.getElem?_eq_some_iff.1 hx).1
  have hw : IntKind.i64.wrap ((i : Int) + 1) = (i : Int) + 1 := Za1 (by omega)
  have hg := ZlX hx
  have hi := YaX hlt
  have hrm : ZbU C 23 (es.length + 1) = true := rm22 (by omega)
  unfold ZoN N25 T25 S25 B25 Zac Tryz.f43 n25 E25 H25 d44
  simp only [Option.getD_some, sq1, sq2, inn]
  simp [-getElem?_pos, A43, Zai, ZuX, hlt, hw, hg, hi, YcW, Yc0, YcY, ZjC, ZoV, hz9, ZyQ, ag9, Zz9, Zbm, z70, k70, ZdQ, hS, pl53, hz22, el22, cs53, hrm, -List.getElem?_map]
  rfl
end
end Go.Tev.S1
namespace Go.Abs
section
variable {C : Ctx} {call : Zaa} {fa : FA} {st s1 s2 s3 : St} {x y z : Code} {Q : Out → Prop}
theorem ZpF (hn : Za4 C.P) (hm : C.P.follows .mixedOrders = true) (hK : Za2 C.P call) {n k1 k2 : Nat} (okx : okC fa x = true) (oky : okC fa y = true) (hx : evQ C call fa k1 x st = some (.norm s1)) (hy : evQ C call fa k2 y s1 = some (.norm s2))
    (hs : Sheds n s2 s3) (hl : st.heap.length ≤ n) (h : Tri C fa z s3 Q) : Tri C fa (.seq x (.seq y z)) st Q := by
  intro own a w S
  refine wp_seq (wp_mono (ZgI hn hm hK k1 x st _ own a w (ZhD k1 x st _ okx hx) S) ?_)
  rintro e a1 w1 ⟨he, own1, S1, F1, E1⟩
  subst he
  refine wp_seq (wp_mono (ZgI hn hm hK k2 y s1 _ own1 a1 w1 (ZhD k2 y s1 _ oky hy) S1) ?_)
  rintro e a2 w2 ⟨he, own2, S2, F2, E2⟩
  subst he
  have F := (F1.trans F2).shed (n := n)
  have E := (E1.trans E2).shed hs hl
  exact wp_mono (h _ a2 w2 (S2.shed hs)) fun e a3 w3 ⟨o, k1, k2⟩ => ⟨o, k1, k2.after F E⟩
end
end Go.Abs
namespace Go.Tev.S1
open Go.Abs Go.Proofs
def Zcs (Op : Mv) (x : Cus) : Bool := (Za7 BEq.beq x.name Op).isSome && !((Zej [] x.val).any fun p => (Za7 BEq.beq p.1 Op).isSome)
def Zui (Sv : Mv) (x : Cus) : Mv := bif decide ((Zik (lkM Sv) x.val).2 = 0) && decide ((Zaq (Zik (lkM Sv) x.val).1 : Int) ≤ 2000) then Sv ++ [(x.name, (Zik (lkM Sv) x.val).1)] else Sv
def ZhP (raw : List Cus) : Nat → Mv → Mv → Mv
  | 0, Sv, _ => Sv
  | n + 1, Sv, Op => match raw.find? (Zcs Op) with
    | some x => ZhP raw n (Zui Sv x) (rmv x.name Op)
    | none => Sv
def OkS (Sv : Mv) : Prop := ∀ p ∈ Sv, Zaq p.2 ≤ 2000 ∧ ZbR p.2 = false
theorem Zx2 {Sv : Mv} (h : OkS Sv) : Yd6 (lkM Sv) := by
  intro n x hx
  have hV : V = 2 ^ 24 := rfl
  have : ∀ M : Mv, Za7 BEq.beq n M = some x → ∃ k, (k, x) ∈ M := by
    intro M
    induction M with
    | nil => intro h; simp [Za7] at h
    | cons p M ih =>
      obtain ⟨k, u⟩ := p
      intro h
      simp only [Za7] at h
      cases e : (n == k) with
      | true => rw [e] at h; cases h; exact ⟨k, List.mem_cons_self⟩
      | false => rw [e] at h; obtain ⟨k', hk⟩ := ih h; exact ⟨k', List.mem_cons_of_mem _ hk⟩
  obtain ⟨k, hk⟩ := this Sv hx
  obtain ⟨h1, h2⟩ := h _ hk
  exact ⟨Nat.le_trans h1 (by rw [hV]; decide), h2⟩
theorem ZqZ {Sv : Mv} (hS : OkS Sv) {l : List Val} (hl : Zaq l ≤ B) : Zci (Zab C K0) false 34 [.slc (l.map Val.enc), .fmap (Yc1 Sv)] = some (.tup [.slc ((Zik (lkM Sv) l).1.map Val.enc), .int .i64 (Zik (lkM Sv) l).2]) := by
  have hV : V = 2 ^ 24 := rfl
  obtain ⟨d, h1, h2⟩ := Zv6 Zjt [.l 51 l, .m 9 22 Sv] (l, Sv) (Zik (lkM Sv) l) [.slc (l.map Val.enc), .fmap (Yc1 Sv)] _ rfl rfl (ZrJ ⟨hl, Zx2 hS⟩ fun p hp => Nat.le_trans (hS p hp).1 (by rw [hV]; decide)) rfl
  cases h1
  exact h2
theorem ZvD {Sv : Mv} (hS : OkS Sv) {l : List Val} (hl : Zaq l ≤ B) (h0 : (Zik (lkM Sv) l).2 = 0) : Zaq (Zik (lkM Sv) l).1 ≤ B := by
  unfold Zik at h0 ⊢
  split
  · simp [Zaq]
  · rename_i n hn
    split
    · simp [Zaq]
    · rename_i h2
      split
      · exact (YaH ⟨hl, Zx2 hS⟩ hn h2).2
      · simp [Zaq]
theorem Zse {l : List Val} (hl : Zaq l ≤ B) : Zci (Zab C K0) true 44 [.slc (l.map Val.enc)] = some (.int .i64 (Zaq l)) := by
  obtain ⟨d, h1, h2⟩ := YaR Zjt [.l 51 l] l _ [.slc (l.map Val.enc)] _ rfl rfl (ZnA hl) rfl
  cases h1
  exact ZgJ h2
theorem YbR {lk : Lk} (h : Yd6 lk) : ∀ l, ZbR (Zek lk l) = false := by
  refine Zhu _ ?_ ?_
  · rw [Zfc]; rfl
  · intro v r h1 h2 h3
    rw [Zee, ZqT, h1, Bool.or_false]
    unfold ZuP
    split
    · split
      · rename_i x hx; exact (h _ _ hx).2
      · exact h3
    · rename_i hv
      rw [Bool.not_eq_true] at hv
      rw [ZbR, Val.hasv_eq]
      have e1 : (Val.mk v.tok (Zek lk v.l)).ref = v.ref := rfl
      have e2 : (Val.mk v.tok (Zek lk v.l)).l = Zek lk v.l := rfl
      rw [e1, e2, hv, h2]
      rfl
theorem Zyp {Sv : Mv} (hS : OkS Sv) (l : List Val) : ZbR (Zik (lkM Sv) l).1 = false := by
  unfold Zik
  split
  · rfl
  · split
    · rfl
    · split
      · exact YbR (Zx2 hS) l
      · rfl
theorem Zxp {Sv : Mv} (hS : OkS Sv) (x : Cus) : OkS (Zui Sv x) := by
  unfold Zui
  cases h : decide ((Zik (lkM Sv) x.val).2 = 0) && decide ((Zaq (Zik (lkM Sv) x.val).1 : Int) ≤ 2000) with
  | false => exact hS
  | true =>
    rw [Bool.and_eq_true, decide_eq_true_eq, decide_eq_true_eq] at h
    intro p hp
    rw [cond_true] at hp
    rcases List.mem_append.1 hp with hp | hp
    · exact hS p hp
    · rw [List.mem_singleton] at hp
      subst hp
      exact ⟨Int.ofNat_le.1 h.2, Zyp hS _⟩
theorem Zno (Sv : Mv) (x : Cus) : ∀ a ∈ (Zui Sv x).map Prod.fst, a ∈ Sv.map Prod.fst ∨ a = x.name := by
  intro a ha
  unfold Zui at ha
  cases h : decide ((Zik (lkM Sv) x.val).2 = 0) && decide ((Zaq (Zik (lkM Sv) x.val).1 : Int) ≤ 2000) with
  | false => rw [h] at ha; exact .inl ha
  | true =>
    rw [h, cond_true, List.map_append] at ha
    rcases List.mem_append.1 ha with h | h
    · exact .inl h
    · exact .inr (by simpa using h)
theorem rmv_names {a : List UInt8} {M : Mv} {b : List UInt8} : b ∈ (rmv a M).map Prod.fst ↔ b ∈ M.map Prod.fst ∧ b ≠ a := by
  simp only [rmv, List.mem_map, List.mem_filter]
  constructor
  · rintro ⟨p, ⟨h1, h2⟩, rfl⟩
    exact ⟨⟨p, h1, rfl⟩, fun e => by simp [e] at h2⟩
  · rintro ⟨⟨p, h1, rfl⟩, h2⟩
    exact ⟨p, ⟨h1, by simpa using fun e => h2 e.symm⟩, rfl⟩
theorem ZxM {a : List UInt8} {M : Mv} (h : (M.map Prod.fst).Nodup) : ((rmv a M).map Prod.fst).Nodup := (List.Sublist.map _ List.filter_sublist).nodup h
theorem YaE {a : List UInt8} {M : Mv} (h : a ∈ M.map Prod.fst) : (rmv a M).length < M.length := by
  obtain ⟨p, hp, rfl⟩ := List.mem_map.1 h
  have : ∀ M : Mv, p ∈ M → (rmv p.1 M).length < M.length := by
    intro M
    induction M with
    | nil => intro h; simp at h
    | cons q M ih =>
      intro hp
      have hle : (rmv p.1 M).length ≤ M.length := List.length_filter_le _ _
      simp only [rmv, List.filter_cons] at ih hle ⊢
      rcases List.mem_cons.1 hp with rfl | hp
      · simp only [beq_self_eq_true, Bool.not_true, Bool.false_eq_true, if_false, List.length_cons]; omega
      · have := ih hp
        split <;> simp only [List.length_cons] <;> omega
  exact this M hp
end Go.Tev.S1
namespace Go.Tev.S1
open Go.Abs Go.Proofs
open Classical in
noncomputable def ZjE (raw : List Cus) : Mv := (Znl raw).filter fun q => decide ((q.1, true) ∉ Zbf raw)
def Zmg (raw : List Cus) (D : Bm) (vis : List Nat) : Mv := (Znl raw).filter fun q => decide (∀ j ∈ vis, D[j]? ≠ some (q.1, true))
theorem Zve (raw : List Cus) (D : Bm) (vis : List Nat) (j : Nat) (a : List UInt8) (b : Bool) (hj : D[j]? = some (a, b)) : Zmg raw D (j :: vis) = (bif b then rmv a (Zmg raw D vis) else Zmg raw D vis) := by
  cases b with
  | false =>
    simp only [cond_false, Zmg]
    refine List.filter_congr fun q _ => ?_
    simp only [List.mem_cons, forall_eq_or_imp, hj, decide_eq_decide]
    constructor
    · exact fun h => h.2
    · exact fun h => ⟨by simp, h⟩
  | true =>
    simp only [cond_true, Zmg, rmv, List.filter_filter]
    refine List.filter_congr fun q _ => ?_
    rw [Bool.eq_iff_iff]
    simp only [List.mem_cons, forall_eq_or_imp, hj, decide_eq_true_eq, Bool.and_eq_true, Bool.not_eq_true', beq_eq_false_iff_ne, ne_eq, Option.some.injEq, Prod.mk.injEq, and_true]
theorem Zw1 (raw : List Cus) (vis : List Nat) (h : ∀ j, j < (Zbf raw).length → j ∈ vis) : Zmg raw (Zbf raw) vis = ZjE raw := by
  unfold Zmg ZjE
  refine List.filter_congr fun q _ => ?_
  rw [Bool.eq_iff_iff]
  simp only [decide_eq_true_eq]
  constructor
  · intro h1 hm
    obtain ⟨j, hj, he⟩ := List.mem_iff_getElem.1 hm
    exact h1 j (h j hj) (by rw [List.getElem?_eq_getElem hj, he])
  · intro h1 j _ he
    exact h1 (List.mem_of_getElem? he)
theorem ZrX (raw : List Cus) (hn : (raw.map Cus.name).Nodup) (D : Bm) (vis : List Nat) : ((Zmg raw D vis).map Prod.fst).Nodup := by
  have : ((Znl raw).map Prod.fst).Nodup := by rw [ZjT]; exact hn
  exact (List.Sublist.map _ List.filter_sublist).nodup this
theorem ZyA (raw : List Cus) (hn : (raw.map Cus.name).Nodup) : Tri C (C.ann 43) YaN ⟨E25 raw (Zbf raw), [], H25 [] (Znl raw)⟩ (YbQ (E25 raw (Zbf raw)) (H25 [] (ZjE raw))) := by
  obtain ⟨_, _, k7, _, _, _, _, _, _⟩ := Zs4
  refine ZeQ (call := Zab C K0) Zae Zag Yeq (Ycs raw (Zbf raw) _) o25_4.2.1 o25_4.1 o25_4.2.2 (by kernel_rfl) (by kernel_rfl) (show opA _ (.tmp 29) = some (.d (.fmap (ZfM (Zbf raw)))) from rfl) Yeg fun p => ?_
  show Ydc C (C.ann 43) 30 p (ZfM (Zbf raw)) _ ⟨Zvw raw (Zbf raw) p, [], H25 [] (Znl raw)⟩ _
  refine Zl6 (call := Zab C K0) Zae Zag Yef o25_5.2.1 o25_5.1 o25_5.2.2 (by kernel_rfl) (by kernel_rfl) Yew o25_6.2.1 o25_6.1 o25_6.2.2 (by kernel_rfl) (by kernel_rfl)
    (fun vis s => s = ⟨Zvw raw (Zbf raw) p, [], H25 [] (Zmg raw (Zbf raw) vis)⟩) ?_ (fun vis s hs => by subst hs; exact ⟨rfl, rfl⟩) ?_ ?_
  · have : Zmg raw (Zbf raw) [] = Znl raw := by
      unfold Zmg
      rw [List.filter_eq_self]
      intro q _
      simp
    rw [this]
  · rintro vis s rfl hall
    refine ⟨_, Zv9 raw _ p _ false [], rfl, ?_⟩
    refine ⟨_, rfl, ?_⟩
    rw [Zw1 raw vis (fun j hj => hall j (by simpa [ZfM] using hj))]
    refine sub_list (s := ⟨Zvw raw (Zbf raw) p ++ [(32, .val (.d (.bool false)))], [], H25 [] (ZjE raw)⟩) fun q hq => ?_
    simp only [E25, List.mem_cons, List.not_mem_nil, or_false] at hq
    rcases hq with rfl | rfl | rfl | rfl | rfl <;> exact ⟨rfl, rfl⟩
  · rintro vis s j k v rfl hj hjv
    rw [ZfM, List.getElem?_map] at hj
    cases huj : (Zbf raw)[j]? with
    | none => rw [huj] at hj; cases hj
    | some q =>
      obtain ⟨a, b⟩ := q
      rw [huj] at hj
      cases hj
      refine ⟨_, _, Zv9 raw _ p _ true [.str a, .bool b], rfl, rfl, Ycz raw _ p _ (.str a) (.bool b), ?_⟩
      refine ZcG (call := Zab C K0) Zae mixed Zag k7 (YcF raw _ p [] _ (ZrX raw hn _ vis) a b) ?_
      simp only [Za6]
      refine ⟨_, rfl, ?_⟩
      rw [Zve raw _ vis j a b huj]
      refine ⟨fun kk vv hv => ?_, rfl, rfl⟩
      simp only [St.trim]
      rw [alook_trimE _ _ _ (by rw [ZaW hv]; rfl)]
      exact ZaW hv
def Zx9 (u : Bm) (Op : Mv) (vis : List Nat) : Bool := decide (∃ j ∈ vis, ∃ q, u[j]? = some q ∧ (Za7 BEq.beq q.1 Op).isSome = true)
end Go.Tev.S1
namespace Go.Tev.S1
open Go.Abs Go.Proofs
def YbC (u : Bm) (Op : Mv) : Bool := u.any fun p => (Za7 BEq.beq p.1 Op).isSome
theorem ZzT (raw : List Cus) (D : Bm) (i : Nat) (x : Cus) (Sv Op : Mv) : Tri C (C.ann 43) YaS ⟨c25 raw D i x false, [], H25 Sv Op⟩ (YbQ (c25 raw D i x (YbC (Zej [] x.val) Op)) (H25 Sv Op)) := by
  obtain ⟨_, k20, _, _, _, _, _, _, _, _⟩ := ZpY
  refine ZeQ (call := Zab C K0) Zae Zag Ydn (Zzh raw D i x false _) o25_17.2.1 o25_17.1 o25_17.2.2 (by kernel_rfl) (by kernel_rfl) (show opA _ (.tmp 59) = some (.d (.fmap (ZfM (Zej [] x.val)))) from rfl) Yeg fun p => ?_
  show Ydc C (C.ann 43) 60 p (ZfM (Zej [] x.val)) _ ⟨g25 raw D i x false p, [], H25 Sv Op⟩ _
  refine Zl6 (call := Zab C K0) Zae Zag Ydz o25_18.2.1 o25_18.1 o25_18.2.2 (by kernel_rfl) (by kernel_rfl) Ydj o25_19.2.1 o25_19.1 o25_19.2.2 (by kernel_rfl) (by kernel_rfl)
    (fun vis s => s = ⟨g25 raw D i x (Zx9 (Zej [] x.val) Op vis) p, [], H25 Sv Op⟩) ?_ (fun vis s hs => by subst hs; exact ⟨rfl, rfl⟩) ?_ ?_
  · have : Zx9 (Zej [] x.val) Op [] = false := by simp [Zx9]
    rw [this]
  · rintro vis s rfl hall
    refine ⟨_, Zti raw D i x _ p _ false [], rfl, ?_⟩
    refine ⟨_, rfl, ?_⟩
    have : Zx9 (Zej [] x.val) Op vis = YbC (Zej [] x.val) Op := by
      rw [Bool.eq_iff_iff]
      unfold Zx9 YbC
      rw [decide_eq_true_eq, List.any_eq_true]
      constructor
      · rintro ⟨j, _, q, hq, h⟩; exact ⟨q, List.mem_of_getElem? hq, h⟩
      · rintro ⟨q, hq, h⟩
        obtain ⟨j, hj, rfl⟩ := List.mem_iff_getElem.1 hq
        exact ⟨j, hall j (by simpa [ZfM] using hj), _, List.getElem?_eq_getElem hj, h⟩
    rw [this]
    refine sub_list (s := ⟨g25 raw D i x (YbC (Zej [] x.val) Op) p ++ [(62, .val (.d (.bool false)))], [], H25 Sv Op⟩) fun q hq => ?_
    simp only [c25, b25, F25, E25, x25, List.cons_append, List.nil_append, List.mem_cons, List.not_mem_nil, or_false] at hq
    rcases hq with rfl | rfl | rfl | rfl | rfl | rfl | rfl | rfl | rfl | rfl | rfl | rfl | rfl | rfl <;> exact ⟨rfl, rfl⟩
  · rintro vis s j k v rfl hj hjv
    rw [ZfM, List.getElem?_map] at hj
    cases huj : (Zej [] x.val)[j]? with
    | none => rw [huj] at hj; cases hj
    | some q =>
      obtain ⟨a, b⟩ := q
      rw [huj] at hj
      cases hj
      refine ⟨_, _, Zti raw D i x _ p _ true [.str a, .bool b], rfl, rfl, Zzb raw D i x _ p _ (.str a) (.bool b), ?_⟩
      refine ZcG (call := Zab C K0) Zae mixed Zag k20 (Zyu raw D i x _ p Sv Op a) ?_
      simp only [Za6]
      refine ⟨_, rfl, ?_⟩
      have : Zx9 (Zej [] x.val) Op (j :: vis) = (Zx9 (Zej [] x.val) Op vis || (Za7 BEq.beq a Op).isSome) := by
        rw [Bool.eq_iff_iff]
        unfold Zx9
        simp only [List.mem_cons, Bool.or_eq_true, decide_eq_true_eq]
        constructor
        · rintro ⟨j', rfl | h1, q, hq, h⟩
          · rw [huj] at hq; cases hq; exact .inr h
          · exact .inl ⟨j', h1, q, hq, h⟩
        · rintro (⟨j', h1, q, hq, h⟩ | h)
          · exact ⟨j', .inr h1, q, hq, h⟩
          · exact ⟨j, .inl rfl, _, huj, h⟩
      rw [this]
      refine ⟨fun kk vv hv => ?_, rfl, rfl⟩
      simp only [St.trim]
      have hv2 : Zad (g25 raw D i x (Zx9 (Zej [] x.val) Op vis || (Za7 BEq.beq a Op).isSome) p ++ [(62, .val (.d (.bool true)))]) kk = some vv := ZaW hv
      have hk : (Zad (g25 raw D i x (Zx9 (Zej [] x.val) Op vis) p ++ [(62, .val (.d (.bool true)))]) kk).isSome = true := by
        have hm := sub_list.alook_mem0' hv2
        simp only [g25, c25, b25, F25, E25, x25, List.cons_append, List.nil_append, List.mem_cons, List.not_mem_nil, or_false, Prod.mk.injEq] at hm
        rcases hm with ⟨rfl, _⟩ | ⟨rfl, _⟩ | ⟨rfl, _⟩ | ⟨rfl, _⟩ | ⟨rfl, _⟩ | ⟨rfl, _⟩ | ⟨rfl, _⟩ | ⟨rfl, _⟩ | ⟨rfl, _⟩ | ⟨rfl, _⟩ | ⟨rfl, _⟩ | ⟨rfl, _⟩ | ⟨rfl, _⟩ | ⟨rfl, _⟩ | ⟨rfl, _⟩ | ⟨rfl, _⟩ <;> rfl
      rw [alook_trimE _ _ _ hk]
      exact ZaW hv
theorem YdA (raw : List Cus) (D : Bm) (i : Nat) (x : Cus) (Sv Op : Mv) (h' : List AObj) (g2 : h'[0]? = some (.map (ZhO Sv))) (g3 : h'[1]? = some (.map (ZhO Op))) (g4 : h'[2]? = some (.map ((ZfM (Zej [] x.val)).map fun p => (p.1, .d p.2)))) :
    Sheds 2 ⟨b25 raw D i x ++ [(12, .val (.mp 2))], [], h'⟩ ⟨b25 raw D i x ++ [(12, .val (.d (.fmap (ZfM (Zej [] x.val)))))], [], H25 Sv Op⟩ := by
  have hd : ∀ M : Mv, ShedO 2 h' (.map (ZhO M)) (.map (ZhO M)) := fun M => .map _ _ rfl fun j a b ha hb => by
    rw [ha] at hb
    cases hb
    obtain ⟨p, _, rfl⟩ := List.mem_map.1 (List.mem_of_getElem? ha)
    exact ⟨rfl, .d _⟩
  refine ⟨rfl, rfl, ?_, ?_⟩
  · intro id o2 ho
    rcases id with _ | _ | id
    · cases ho; exact ⟨_, g2, hd Sv⟩
    · cases ho; exact ⟨_, g3, hd Op⟩
    · simp [H25] at ho
  · intro k v2 hv
    have hm := sub_list.alook_mem0' hv
    have key : ∀ (k : Nat) (v2 v : SV), Zad (b25 raw D i x ++ [(12, SV.val (.mp 2))]) k = some v → ShedSV 2 h' v v2 → ∃ v, Zad (b25 raw D i x ++ [(12, SV.val (.mp 2))]) k = some v ∧ ShedSV 2 h' v v2 := fun k v2 v h1 h2 => ⟨v, h1, h2⟩
    simp only [b25, F25, E25, x25, List.cons_append, List.nil_append, List.mem_cons, List.not_mem_nil, or_false, Prod.mk.injEq] at hm
    rcases hm with ⟨rfl, rfl⟩ | ⟨rfl, rfl⟩ | ⟨rfl, rfl⟩ | ⟨rfl, rfl⟩ | ⟨rfl, rfl⟩ | ⟨rfl, rfl⟩ | ⟨rfl, rfl⟩ | ⟨rfl, rfl⟩ | ⟨rfl, rfl⟩ | ⟨rfl, rfl⟩ | ⟨rfl, rfl⟩ | ⟨rfl, rfl⟩ | ⟨rfl, rfl⟩
    · exact key _ _ _ rfl (.val _ _ (.d _))
    · exact key _ _ _ rfl (.val _ _ (.d _))
    · exact key _ _ _ rfl (.val _ _ (.d _))
    · exact key _ _ _ rfl (.val _ _ (.mp 0 (by decide)))
    · exact key _ _ _ rfl (.val _ _ (.mp 1 (by decide)))
    · exact key _ _ _ rfl (.val _ _ (.d _))
    · exact key _ _ _ rfl (.val _ _ (.d _))
    · exact key _ _ _ rfl (.val _ _ (.d _))
    · exact key _ _ _ rfl (.val _ _ (.d _))
    · exact key _ _ _ rfl (.box _)
    · exact key _ _ _ rfl (.val _ _ (.d _))
    · exact key _ _ _ rfl (.val _ _ (.d _))
    · exact key _ _ _ rfl (.val _ _ (.frz 2 _ (Nat.le_refl _) g4))
end Go.Tev.S1
namespace Go.Tev.S1
open Go.Abs Go.Proofs
def QB (raw : List Cus) (D : Bm) (i : Nat) (x : Cus) (Sv Op : Mv) : Out → Prop := fun o => (Zcs Op x = false ∧ ∃ s, o = .norm s ∧ Sub ⟨F25 raw D i ++ [(42, .val (.d (.bool true)))], [], H25 Sv Op⟩ s) ∨
  (Zcs Op x = true ∧ ∃ s, o = .goto 0 s ∧ Sub ⟨E25 raw D, [], H25 (Zui Sv x) (rmv x.name Op)⟩ s)
theorem Zq6 {Op : Mv} {x : Cus} (h : Za7 BEq.beq x.name Op = none) : Zcs Op x = false := by simp [Zcs, h]
theorem Zkb {Op : Mv} {x : Cus} {u} (h : Za7 BEq.beq x.name Op = some u) : Zcs Op x = !YbC (Zej [] x.val) Op := by simp [Zcs, h, YbC]
theorem ZxB (raw : List Cus) (D : Bm) (i : Nat) (Sv Op : Mv) (more : List (Nat × SV)) : Sub ⟨F25 raw D i ++ [(42, .val (.d (.bool true)))], [], H25 Sv Op⟩ ((⟨F25 raw D i ++ [(42, .val (.d (.bool true)))] ++ more, [], H25 Sv Op⟩ : St).trim (F25 raw D i ++ [(42, .val (.d (.bool true)))])) := by
  refine ⟨fun k v hv => ?_, rfl, rfl⟩
  simp only [St.trim]
  rw [alook_trimE _ _ _ (by rw [hv]; rfl)]
  exact ZaW hv
theorem Ydi (raw : List Cus) (D : Bm) (i : Nat) (x : Cus) (hx : raw[i]? = some x) (hl : Zaq x.val ≤ B) (Sv Op : Mv) (hS : OkS Sv) (hO : (Op.map Prod.fst).Nodup) (hd : ∀ a ∈ Op.map Prod.fst, a ∉ Sv.map Prod.fst) :
    Tri C (C.ann 43) (.block 3 BD25) ⟨F25 raw D i ++ [(42, .val (.d (.bool true)))], [], H25 Sv Op⟩ (QB raw D i x Sv Op) := by
  obtain ⟨_, _, _, _, _, k11, k12, k14, k15⟩ := Zs4
  obtain ⟨k16, _, k23, k24, k25, _, _, _, _, _⟩ := ZpY
  refine ZeC ?_
  refine ZaT (call := Zab C K0) Zae mixed Zag k11 (Zyv raw D i x hx _ _) ?_
  cases hm : Za7 BEq.beq x.name Op with
  | none =>
    refine ZcJ (Q1 := fun o => o = .exit 3 ⟨F25 raw D i ++ [(42, .val (.d (.bool true))), x25 x, (11, .val (.d (.bool false))), (53, .val (.d (.bool true)))], [], H25 Sv Op⟩) (ZcG (call := Zab C K0) Zae mixed Zag k12 (Zxo raw D i x _ Sv Op hm) rfl) (fun s hs => by cases hs) ?_
    rintro o rfl _
    refine .inl ⟨Zq6 hm, _, rfl, ?_⟩
    exact ZxB raw D i Sv Op [x25 x, (11, .val (.d (.bool false))), (53, .val (.d (.bool true)))]
  | some u =>
    refine ZaT (call := Zab C K0) Zae mixed Zag k12 (ZwQ raw D i x _ Sv Op hm) ?_
    obtain ⟨h', g1, g2, g3, g4⟩ := Zkc x.val hl (.map (ZhO Sv)) (.map (ZhO Op))
    refine ZpF (call := Zab C K0) Zae mixed Zag k14 k15 (Zyh raw D i x Sv Op) (Zzr raw D i x Sv Op h' g1) (YdA raw D i x Sv Op h' g2 g3 g4) (by simp [H25]) ?_
    refine ZaT (call := Zab C K0) Zae mixed Zag k16 (Yap raw D i x _ _) ?_
    refine Zhy (ZzT raw D i x Sv Op) ?_
    cases ha : YbC (Zej [] x.val) Op with
    | true =>
      refine ZcJ (Q1 := fun o => o = .exit 3 ⟨c25 raw D i x true ++ [(72, .val (.d (.bool true)))], [], H25 Sv Op⟩) (ZcG (call := Zab C K0) Zae mixed Zag k23 (ZtJ raw D i x _).2 rfl) (fun s hs => by cases hs) ?_
      rintro o rfl _
      refine .inl ⟨by rw [Zkb hm, ha]; rfl, _, rfl, ?_⟩
      exact ZxB raw D i Sv Op [x25 x, (11, .val (.d (.bool true))), (53, .val (.d (.bool false))), (12, .val (.d (.fmap (ZfM (Zej [] x.val))))), (13, .val (.d (.bool true))), (72, .val (.d (.bool true)))]
    | false =>
      have hS' : x.name ∉ Sv.map Prod.fst := hd _ (Zin (by rw [hm]; rfl))
      refine ZaT (call := Zab C K0) Zae mixed Zag k23 (ZtJ raw D i x _).1 ?_
      refine ZaT (call := Zab C K0) Zae mixed Zag k24 (ZyN raw D i x Sv Op hO) ?_
      refine ZaT (call := Zab C K0) Zae mixed Zag k25 (Zye raw D i x Sv (rmv x.name Op) _ _ (Zaq (Zik (lkM Sv) x.val).1) hS' (ZqZ hS hl) fun h0 => Zse (ZvD hS hl h0)) ?_
      refine ZcG (call := Zab C K0) (n := 0) Zae mixed Zag rfl rfl ?_
      refine .inr ⟨by rw [Zkb hm, ha]; rfl, _, rfl, ?_⟩
      refine ⟨fun k v hv => ?_, rfl, rfl⟩
      show Zad (d25 raw D i x ++ _) k = some v
      unfold d25 c25 b25 F25
      exact ZaW (ZaW (ZaW (ZaW (ZaW hv))))
def QL (raw : List Cus) (D : Bm) (Sv Op : Mv) : Out → Prop := fun o => (raw.find? (Zcs Op) = none ∧ ∃ s, o = .norm s ∧ Sub ⟨E25 raw D, [], H25 Sv Op⟩ s) ∨
  (∃ x, raw.find? (Zcs Op) = some x ∧ ∃ s, o = .goto 0 s ∧ Sub ⟨E25 raw D, [], H25 (Zui Sv x) (rmv x.name Op)⟩ s)
theorem Ycl {raw : List Cus} {f : Cus → Bool} : ∀ {i : Nat} {x : Cus}, raw[i]? = some x → f x = true → (∀ j y, j < i → raw[j]? = some y → f y = false) → raw.find? f = some x := by
  induction raw with
  | nil => intro i x hx; simp at hx
  | cons y r ih =>
    intro i x hx hf h
    cases i with
    | zero => cases hx; exact List.find?_cons_of_pos hf
    | succ i =>
      rw [List.find?_cons_of_neg (by rw [h 0 y (Nat.succ_pos _) rfl]; decide)]
      exact ih (by simpa using hx) hf fun j z hj hz => h (j + 1) z (by omega) (by simpa using hz)
theorem Zyz (raw : List Cus) (hok : Zjh raw) (Sv Op : Mv) (D : Bm) (hS : OkS Sv) (hO : (Op.map Prod.fst).Nodup) (hd : ∀ a ∈ Op.map Prod.fst, a ∉ Sv.map Prod.fst) :
    Tri C (C.ann 43) (.seq ZvX LP25) ⟨E25 raw D, [], H25 Sv Op⟩ (QL raw D Sv Op) := by
  obtain ⟨_, _, _, k9, k10, _, _, _, _⟩ := Zs4
  obtain ⟨_, _, _, _, _, k28, _, _, _, _⟩ := ZpY
  have hB : B = 2 ^ 36 := rfl
  have hV : V = 2 ^ 24 := rfl
  have hlen : raw.length < 2 ^ 40 := Nat.lt_of_le_of_lt hok.1 (by rw [hB]; decide)
  have e0 : ∀ (i : Nat) (s : St), Sub ⟨E25 raw D, [], H25 Sv Op⟩ ((⟨F25 raw D i ++ [(42, .val (.d (.bool false)))], [], H25 Sv Op⟩ : St).trim (F25 raw D 0)) := fun i s => by
    refine sub_list (s := ⟨F25 raw D i ++ [(42, .val (.d (.bool false)))], [], H25 Sv Op⟩) fun q hq => ?_
    simp only [E25, List.mem_cons, List.not_mem_nil, or_false] at hq
    rcases hq with rfl | rfl | rfl | rfl | rfl <;> exact ⟨rfl, rfl⟩
  refine ZaT (call := Zab C K0) Zae mixed Zag k9 (YcL raw D _) ?_
  refine ZeC ?_
  refine Zje (fun m s => ∃ i, i ≤ raw.length ∧ m = raw.length - i ∧ s = ⟨F25 raw D i, [], H25 Sv Op⟩ ∧ ∀ j y, j < i → raw[j]? = some y → Zcs Op y = false) (n := raw.length) ⟨0, Nat.zero_le _, rfl, rfl, fun j y hj => absurd hj (Nat.not_lt_zero _)⟩ ?_
  rintro m s ⟨i, hi, rfl, rfl, hno⟩
  refine ZaT (call := Zab C K0) Zae mixed Zag k10 (Yao raw D i _) ?_
  rcases Nat.lt_or_ge i raw.length with hlt | hge
  · have hx := List.getElem?_eq_getElem hlt
    have hdt : decide ((i : Int) < (raw.length : Int)) = true := by simpa using hlt
    rw [hdt]
    refine ZcJ (Q1 := fun o => o = .norm ⟨F25 raw D i ++ [(42, .val (.d (.bool true)))], [], H25 Sv Op⟩) (Zhn (b := true) rfl (ZkI rfl)) ?_ (fun o h1 h2 => absurd h1 (h2 _))
    rintro s hs
    cases hs
    refine ZcJ (Ydi raw D i raw[i] hx (Nat.le_trans (hok.2 raw[i] (List.getElem_mem hlt)) (by rw [hB, hV]; decide)) Sv Op hS hO hd) ?_ ?_
    · rintro s (⟨hr, s', hs, hsub⟩ | ⟨hr, s', hs, hsub⟩)
      · cases hs
        refine Zoj hsub ?_
        refine ZcG (call := Zab C K0) Zae mixed Zag k28 (ZyD raw D i (by omega) _ _) ?_
        refine ⟨raw.length - (i + 1), ⟨F25 raw D (i + 1), [], H25 Sv Op⟩, by omega, ⟨i + 1, hlt, rfl, rfl, fun j y hj hy => ?_⟩, fun k v hv => ZaW hv, rfl, rfl⟩
        rcases Nat.lt_or_ge j i with h | h
        · exact hno j y h hy
        · have : j = i := by omega
          subst this
          rw [hx] at hy
          cases hy
          exact hr
      · cases hs
    · rintro o (⟨hr, s', rfl, hsub⟩ | ⟨hr, s', rfl, hsub⟩) hne
      · exact absurd rfl (hne s')
      · simp only [Za6]
        exact .inr ⟨raw[i], Ycl hx hr hno, s', rfl, hsub⟩
  · have he : i = raw.length := by omega
    subst he
    rw [show decide ((raw.length : Int) < (raw.length : Int)) = false by simp]
    refine ZcJ (Q1 := fun o => o = .exit 2 ⟨F25 raw D raw.length ++ [(42, .val (.d (.bool false)))], [], H25 Sv Op⟩) (Zhn (b := false) rfl (Zon rfl)) (fun s hs => by cases hs) ?_
    rintro o rfl _
    simp only [Za6]
    refine .inl ⟨?_, _, rfl, e0 _ ⟨[], [], []⟩⟩
    rw [List.find?_eq_none]
    intro y hy
    obtain ⟨j, hj, rfl⟩ := List.mem_iff_getElem.1 hy
    rw [hno j _ hj (List.getElem?_eq_getElem hj)]
    decide
end Go.Tev.S1
namespace Go.Abs
theorem Has.hasn {P : Program} {f : FuncId} {args : List AV} {h : List AObj} {r : AV} {h' : List AObj} (H : Has P f args h r h') : HasN P f args h (fun r2 h2 => r2 = r ∧ h2 = h') :=
  ⟨H.1, fun w own vs H1 H2 H3 H4 => (H.2 w own vs H1 H2 H3 H4).mono fun e w' ⟨v, own', h1, h2, h3, h4, h5, h6⟩ => ⟨v, own', r, h', ⟨rfl, rfl⟩, h1, h2, h3, h4, h5, h6⟩⟩
end Go.Abs
namespace Go.Tev.S1
open Go.Abs Go.Proofs
def Zfd (raw : List Cus) (Sv : Mv) : List Cus := raw.filterMap fun x => (Za7 BEq.beq x.name Sv).map fun v => ⟨x.name, v⟩
theorem Zov (raw : List Cus) (Sv : Mv) : (Zfd raw Sv).length ≤ raw.length := List.length_filterMap_le _ _
theorem Zyo (raw : List Cus) (hl : raw.length < 2 ^ 40) (D : Bm) (Sv Op : Mv) : Tri C (C.ann 43) (.seq Zqo (.block 6 (.loop ZoN))) ⟨E25 raw D ++ [(19, .own [])], [], H25 Sv Op⟩ (YbQ (n25 raw D (Zfd raw Sv) raw.length) (H25 Sv Op)) := by
  obtain ⟨_, _, _, _, _, _, _, k30, kL, _⟩ := ZpY
  refine ZaT (call := Zab C K0) Zae mixed Zag k30 (ZzP raw D _) ?_
  refine ZeC ?_
  refine Zje (fun m s => ∃ i, i ≤ raw.length ∧ m = raw.length - i ∧ s = ⟨n25 raw D (Zfd (raw.take i) Sv) i, [], H25 Sv Op⟩) (n := raw.length) ⟨0, Nat.zero_le _, rfl, rfl⟩ ?_
  rintro m s ⟨i, hi, rfl, rfl⟩
  rcases Nat.lt_or_ge i raw.length with hlt | hge
  · have hx := List.getElem?_eq_getElem hlt
    have hle : (Zfd (raw.take i) Sv).length ≤ i := Nat.le_trans (Zov _ _) (List.length_take_le _ _)
    have htk : Zfd (raw.take (i + 1)) Sv = Zfd (raw.take i) Sv ++ (match Za7 BEq.beq raw[i].name Sv with | some v => [⟨raw[i].name, v⟩] | none => []) := by
      rw [ZbJ hx]
      unfold Zfd
      rw [List.filterMap_append]
      congr 1
      simp only [List.filterMap_cons, List.filterMap_nil]
      cases Za7 BEq.beq raw[i].name Sv <;> rfl
    cases hS : Za7 BEq.beq raw[i].name Sv with
    | none =>
      rw [hS, List.append_nil] at htk
      refine ZcG (call := Zab C K0) Zae mixed Zag kL (Zz7 raw D _ i _ hx hl Sv Op hS) ?_
      refine ⟨raw.length - (i + 1), ⟨n25 raw D (Zfd (raw.take i) Sv) (i + 1), [], _⟩, by omega, ⟨i + 1, hlt, rfl, by rw [htk]⟩, fun k v hv => ZaW hv, rfl, rfl⟩
    | some v =>
      rw [hS] at htk
      have hst : (⟨n25 raw D (Zfd (raw.take i) Sv ++ [⟨raw[i].name, v⟩]) (i + 1), [], H25 Sv Op⟩ : St) = ⟨n25 raw D (Zfd (raw.take (i + 1)) Sv) (i + 1), [], H25 Sv Op⟩ := by rw [htk]
      refine ZcG (call := Zab C K0) Zae mixed Zag kL (Yaa raw D _ i _ hx hl hle Sv Op hS) ?_
      refine ⟨raw.length - (i + 1), ⟨n25 raw D (Zfd (raw.take i) Sv ++ [⟨raw[i].name, v⟩]) (i + 1), [], H25 Sv Op⟩, by omega, ⟨i + 1, hlt, rfl, hst⟩, ?_⟩
      exact ⟨fun k v hv => ZaW hv, rfl, rfl⟩
  · have he : i = raw.length := by omega
    subst he
    refine ZcG (call := Zab C K0) Zae mixed Zag kL (ZyF raw D _ _) ?_
    simp only [Za6]
    refine ⟨_, rfl, ?_⟩
    rw [List.take_length]
    refine ⟨fun k v hv => ?_, rfl, rfl⟩
    have hk : (Zad (n25 raw D [] 0) k).isSome = true := by
      have hm := sub_list.alook_mem0' hv
      simp only [n25, E25, List.cons_append, List.nil_append, List.mem_cons, List.not_mem_nil, or_false, Prod.mk.injEq] at hm
      rcases hm with ⟨rfl, _⟩ | ⟨rfl, _⟩ | ⟨rfl, _⟩ | ⟨rfl, _⟩ | ⟨rfl, _⟩ | ⟨rfl, _⟩ | ⟨rfl, _⟩ | ⟨rfl, _⟩ | ⟨rfl, _⟩ <;> rfl
    simp only [St.trim]
    rw [alook_trimE _ _ _ hk]
    exact ZaW hv
def QP (raw : List Cus) (D : Bm) (Sv Op : Mv) : Out → Prop := fun o => (raw.find? (Zcs Op) = none ∧ ∃ s, o = .ret s ∧ Zcm C s Tryz.f43.results.toList = some [.d (.slc ((Zfd raw Sv).map Cus.enc))]) ∨
  (∃ x, raw.find? (Zcs Op) = some x ∧ ∃ s, o = .goto 0 s ∧ Sub ⟨E25 raw D, [], H25 (Zui Sv x) (rmv x.name Op)⟩ s)
theorem Yc7 (raw : List Cus) (hok : Zjh raw) (Sv Op : Mv) (D : Bm) (hS : OkS Sv) (hO : (Op.map Prod.fst).Nodup) (hd : ∀ a ∈ Op.map Prod.fst, a ∉ Sv.map Prod.fst) :
    Tri C (C.ann 43) Yd8 ⟨E25 raw D, [], H25 Sv Op⟩ (QP raw D Sv Op) := by
  obtain ⟨_, _, _, _, _, _, k29, _, _, k37⟩ := ZpY
  have hB : B = 2 ^ 36 := rfl
  have hlen : raw.length < 2 ^ 40 := Nat.lt_of_le_of_lt hok.1 (by rw [hB]; decide)
  refine ZcJ (Zyz raw hok Sv Op D hS hO hd) ?_ ?_
  · rintro s (⟨hr, s', hs, hsub⟩ | ⟨x, hr, s', hs, hsub⟩)
    · cases hs
      refine Zoj hsub ?_
      refine ZaT (call := Zab C K0) Zae mixed Zag k29 (ZyS raw D _) ?_
      refine Zhy (Zyo raw hlen D Sv Op) ?_
      obtain ⟨s1, e1, e2⟩ := Zzm (call := Zab C K0) raw D (Zfd raw Sv) raw.length (H25 Sv Op)
      refine ZaT (call := Zab C K0) Zae mixed Zag k37 e1 ?_
      refine ZcG (call := Zab C K0) (n := 0) Zae mixed Zag rfl rfl ?_
      exact .inl ⟨hr, s1, rfl, e2⟩
    · cases hs
  · rintro o (⟨hr, s', rfl, hsub⟩ | ⟨x, hr, s', rfl, hsub⟩) hne
    · exact absurd rfl (hne s')
    · exact .inr ⟨x, hr, s', rfl, hsub⟩
noncomputable def ZcH (raw : List Cus) : Mv := ZhP raw (ZjE raw).length [] (ZjE raw)
theorem Ycd : findLabel S25 0 = some (.seq .skip Yd8) := by kernel_rfl
set_option maxRecDepth 4000 in
theorem Zqm (raw : List Cus) (hn : (raw.map Cus.name).Nodup) (hok : Zjh raw) : Has Tryz.prog 43 [.d (d44 raw)] [] (.d (.slc ((Zfd raw (ZcH raw)).map Cus.enc))) [] := by
  obtain ⟨k0, k2, _, _, _, _, _, _, _⟩ := Zs4
  have hB : B = 2 ^ 36 := rfl
  have hlen : raw.length < 2 ^ 40 := Nat.lt_of_le_of_lt hok.1 (by rw [hB]; decide)
  have h : HasN Tryz.prog 43 [.d (d44 raw)] [] (fun r h' => r = .d (.slc ((Zfd raw (ZcH raw)).map Cus.enc))) := by
    refine ZeE (C := C) (f := 43) (fn := Tryz.f43) Tryz.func43 Yca (by kernel_rfl) ?_
    refine ZaT (call := Zab C K0) Zae mixed Zag k0 (Ya0 raw) ?_
    let I : Nat → St → Prop := fun m s => ∃ Sv Op n, s = ⟨E25 raw (Zbf raw), [], H25 Sv Op⟩ ∧ m = Op.length ∧ OkS Sv ∧ (Op.map Prod.fst).Nodup ∧ (∀ a ∈ Op.map Prod.fst, a ∉ Sv.map Prod.fst) ∧ Op.length ≤ n ∧ ZhP raw n Sv Op = ZcH raw
    have pass : ∀ m s, I m s → Tri C (C.ann 43) Yd8 s fun o => match o with
        | .goto l' s' => l' = 0 ∧ ∃ k s2, k < m ∧ I k s2 ∧ Sub s2 s'
        | o => endQ C Tryz.f43 (fun r h' => r = .d (.slc ((Zfd raw (ZcH raw)).map Cus.enc))) o := by
      rintro m s ⟨Sv, Op, n, rfl, rfl, hS, hO, hd, hle, hs⟩
      refine ZsZ (Yc7 raw hok Sv Op (Zbf raw) hS hO hd) ?_
      rintro o (⟨hr, s', rfl, he⟩ | ⟨x, hr, s', rfl, hsub⟩)
      · refine ⟨_, he, ?_⟩
        have : ZhP raw n Sv Op = Sv := by
          cases n with
          | zero => rfl
          | succ n => simp only [ZhP, hr]
        rw [← hs, this]; rfl
      · have hx := List.find?_some hr
        have hxo : x.name ∈ Op.map Prod.fst := by
          simp only [Zcs, Bool.and_eq_true] at hx
          exact Zin hx.1
        have hlt := YaE hxo
        cases n with
        | zero => omega
        | succ n =>
          simp only [ZhP, hr] at hs
          exact ⟨rfl, (rmv x.name Op).length, _, hlt, ⟨Zui Sv x, rmv x.name Op, n, rfl, rfl, Zxp hS x, ZxM hO, fun a ha hb => by
            obtain ⟨h1, h2⟩ := rmv_names.1 ha
            rcases Zno Sv x a hb with h3 | h3
            · exact hd a h1 h3
            · exact h2 h3, by omega, hs⟩, hsub⟩
    have first : I (ZjE raw).length ⟨E25 raw (Zbf raw), [], H25 [] (ZjE raw)⟩ := by
      refine ⟨[], ZjE raw, (ZjE raw).length, rfl, rfl, fun p hp => by simp at hp, ?_, fun a _ hb => by simp at hb, Nat.le_refl _, rfl⟩
      have : ((Znl raw).map Prod.fst).Nodup := by rw [ZjT]; exact hn
      exact (List.Sublist.map _ List.filter_sublist).nodup this
    refine Zwc Ycd I ?_ ?_
    · rw [Yar]
      refine ZcJ (Q1 := fun o => o = .norm ⟨[(0, .val (.d (d44 raw))), (2, .val (.d (.slc []))), (3, .val (.d (.fmap (ZfM (Zbf raw)))))], [], []⟩) ?_ ?_ (fun o h1 h2 => absurd h1 (h2 _))
      · refine ZhQ (call := Zab C K0) Zae Zag YeN (Yct raw) o25_1.1 (Q2 := fun s => s = ⟨[(0, .val (.d (d44 raw))), (2, .val (.d (.slc [])))], [(25, .a (.d (.fmap (ZfM (Zbf raw))))), (24, .a (.d (d44 raw)))], []⟩) ?_ ?_
        · intro own a w S K X hKK
          refine Zhm (C := C) (st := ⟨[(0, .val (.d (d44 raw))), (2, .val (.d (.slc [])))], [(24, .a (.d (d44 raw)))], []⟩) Zae o25_1.2.2 rfl (fv := .d (.fn 62 [])) (vs := [.d (d44 raw)]) (caps := []) rfl rfl rfl (Zsr raw hn hok).hasn (fun r h' ⟨h1, h2⟩ => by
            subst h1 h2
            rw [o25_1.2.1]
            exact ⟨_, rfl⟩) own a w S K X ?_
          rintro a' w' st' own' ⟨r, h', ⟨rfl, rfl⟩, hput⟩
          rw [o25_1.2.1] at hput
          cases hput
          exact hKK a' w' _ own' rfl
        · rintro s rfl
          exact ⟨_, ZzM raw (Zbf raw), rfl⟩
      · rintro s hs
        cases hs
        refine ZaT (call := Zab C K0) Zae mixed Zag k2 (Ycu raw (Zbf raw)) ?_
        refine ZcJ (Q1 := fun o => o = .norm ⟨E25 raw (Zbf raw), [], H25 [] (Znl raw)⟩) ?_ ?_ (fun o h1 h2 => absurd h1 (h2 _))
        · refine ZhQ (call := Zab C K0) Zae Zag Yet (YcB raw (Zbf raw)) o25_3.1 (Q2 := fun s => s = ⟨[(0, .val (.d (d44 raw))), (2, .val (.d (.slc []))), (3, .val (.d (.fmap (ZfM (Zbf raw))))), (4, .val (.mp 0))], [(28, .a (.mp 1)), (27, .a (.d (d44 raw)))], H25 [] (Znl raw)⟩) ?_ ?_
          · intro own a w S K X hKK
            refine Zhm (C := C) (st := ⟨[(0, .val (.d (d44 raw))), (2, .val (.d (.slc []))), (3, .val (.d (.fmap (ZfM (Zbf raw))))), (4, .val (.mp 0))], [(27, .a (.d (d44 raw)))], [.map []]⟩) Zae o25_3.2.2 rfl (fv := .d (.fn 35 [])) (vs := [.d (d44 raw)]) (caps := []) rfl rfl rfl (Zvm raw hn hlen (.map [])) (fun r h' ⟨h1, h2⟩ => by
              subst h1 h2
              rw [o25_3.2.1]
              exact ⟨_, rfl⟩) own a w S K X ?_
            rintro a' w' st' own' ⟨r, h', ⟨rfl, rfl⟩, hput⟩
            rw [o25_3.2.1] at hput
            cases hput
            exact hKK a' w' _ own' rfl
          · rintro s rfl
            exact ⟨_, Yau raw (Zbf raw) _, rfl⟩
        · rintro s hs
          cases hs
          refine Zhy (ZyA raw hn) ?_
          refine ZaT (call := Zab C K0) (n := 0) Zae mixed Zag rfl rfl ?_
          refine ZsZ (pass _ _ first) ?_
          intro o ho
          cases o with
          | goto l s => obtain ⟨h1, k, s2, _, h2, h3⟩ := ho; exact ⟨h1, k, s2, h2, h3⟩
          | _ => exact ho
    · rintro m s hI
      have : s.tmp = [] := by obtain ⟨_, _, _, rfl, _⟩ := hI; rfl
      refine ZaT (call := Zab C K0) (n := 0) Zae mixed Zag rfl rfl ?_
      exact pass m s hI
  refine HasN.frozen (ds := [d44 raw]) h ?_
  rintro r h' rfl
  exact ⟨0, rfl⟩
end Go.Tev.S1
namespace Go.Tev.S1
open Go.Abs Go.Proofs
mutual
theorem YcC : ∀ a b : Val, a.enc = b.enc → a = b
  | .mk ⟨k, t, n, u, f⟩ l, .mk ⟨k', t', n', u', f'⟩ l', h => by
    simp only [Val.enc, DV.agg.injEq, List.cons.injEq, DV.int.injEq, DV.str.injEq, DV.bool.injEq, DV.slc.injEq, true_and, and_true] at h
    obtain ⟨rfl, rfl, rfl, rfl, rfl, h6⟩ := h
    rw [Zn9 l l' h6]
theorem Zn9 : ∀ a b : List Val, ZwF a = ZwF b → a = b
  | [], [], _ => rfl
  | [], b :: l, h => by simp [ZwF] at h
  | a :: l, [], h => by simp [ZwF] at h
  | a :: l, b :: l', h => by
    simp only [ZwF, List.cons.injEq] at h
    rw [YcC a b h.1, Zn9 l l' h.2]
end
theorem Ycg (a b : Cus) (h : a.enc = b.enc) : a = b := by
  obtain ⟨n, v⟩ := a
  obtain ⟨n', v'⟩ := b
  simp only [Cus.enc, DV.agg.injEq, List.cons.injEq, DV.str.injEq, DV.slc.injEq, and_true, ← ZnZ] at h
  obtain ⟨rfl, h2⟩ := h
  rw [Zn9 v v' h2]
theorem Ya7 {a b : List Cus} (h : d44 a = d44 b) : a = b := by
  simp only [d44, DV.slc.injEq] at h
  induction a generalizing b with
  | nil => cases b with
    | nil => rfl
    | cons y b => simp at h
  | cons x a ih => cases b with
    | nil => simp at h
    | cons y b =>
      simp only [List.map_cons, List.cons.injEq] at h
      rw [Ycg x y h.1, ih h.2]
theorem Zsc {K : Zaa} {f : FuncId} {t rt : Nat} {s : X t → Option (X rt)} (h : ∀ a r, s a = some r → K f [.d (U.enc t a)] [] = some (.d (U.enc rt r), [])) : Zap U (Zab C K) f ⟨true, [.ty t], [rt], s⟩ := by
  intro vs a r ds g hp hd hs hr
  have hp : Zv3 U [.ty t] vs = some a := hp
  unfold Zv3 at hp
  split at hp
  · rename_i ws hws
    have e1 : vs = ws := by
      cases vs with
      | nil => simp [Zes] at hws
      | cons v vs =>
        simp only [Zes] at hws
        split at hws
        · rename_i ws' h2
          cases hws
          cases vs with
          | nil => simp only [Zes] at h2; cases h2; rfl
          | cons v2 vs => simp [Zes] at h2
        · cases hws
    subst e1
    cases vs with
    | nil => cases hp
    | cons v vs =>
      cases vs with
      | cons v2 vs => cases hp
      | nil =>
        have hp : U.prj t v = some a := hp
        have hv := ok.prj _ _ _ hp
        simp only [dvL, hv, Option.some.injEq] at hd
        subst hd
        have hr : U.inj rt = some g := hr
        refine ⟨_, ok.inj _ _ r hr, ?_⟩
        unfold Zci
        have : Zab C K f [.d (U.enc t a)] [] = some (.d (U.enc rt r), []) := Zic (h a r hs)
        simp only [List.map_cons, List.map_nil, this]
  · cases hp
open Classical in
noncomputable def Ydw (F : List Cus → Prop) (G : List Cus → DV) (args : List AV) (h : List AObj) : Option (AV × List AObj) := if e : ∃ raw : List Cus, args = [.d (d44 raw)] ∧ h = [] ∧ F raw then some (.d (G e.choose), []) else none
theorem Zxy {F : List Cus → Prop} {G : List Cus → DV} {args : List AV} {h : List AObj} {r : AV} {h' : List AObj} (he : Ydw F G args h = some (r, h')) : ∃ raw, args = [.d (d44 raw)] ∧ h = [] ∧ F raw ∧ r = .d (G raw) ∧ h' = [] := by
  unfold Ydw at he
  split at he
  · rename_i e
    obtain ⟨h1, h2, h3⟩ := e.choose_spec
    cases he
    exact ⟨_, h1, h2, h3, rfl, rfl⟩
  · cases he
theorem Ya8 {F : List Cus → Prop} (G : List Cus → DV) {raw : List Cus} (hF : F raw) : Ydw F G [.d (d44 raw)] [] = some (.d (G raw), []) := by
  have e : ∃ r : List Cus, [AV.d (d44 raw)] = [.d (d44 r)] ∧ ([] : List AObj) = [] ∧ F r := ⟨raw, rfl, rfl, hF⟩
  unfold Ydw
  rw [dif_pos e]
  have h1 := e.choose_spec.1
  have h2 : raw = e.choose := Ya7 (by simpa using h1)
  rw [← h2]
noncomputable def K1 : Zaa := fun f args h =>
  bif Nat.beq f 43 then Ydw (fun raw => (raw.map Cus.name).Nodup ∧ Zjh raw) (fun raw => .slc ((Zfd raw (ZcH raw)).map Cus.enc)) args h
  else K0 f args h
theorem YeS : Za2 Tryz.prog K1 := by
  intro f args h r h' he
  unfold K1 at he
  cases hb : Nat.beq f 43 with
  | true =>
    rw [hb, cond_true] at he
    have := Nat.eq_of_beq_eq_true hb
    subst this
    obtain ⟨raw, rfl, rfl, hF, rfl, rfl⟩ := Zxy he
    exact Zqm raw hF.1 hF.2
  | false =>
    rw [hb, cond_false] at he
    exact Yc9 _ _ _ _ _ he
theorem YcQ : Zc2 K1 := by
  intro f args h hf
  unfold K1
  rw [show Nat.beq f 43 = false from beq_ne.2 fun e => hf (by subst e; decide)]
  exact Zjt f args h hf
theorem YaY : ZgM K1 := fun args h r he => Zxt args h r he
open Classical in
noncomputable def Zk8 (raw : List Cus) : Option (List Cus) := if (raw.map Cus.name).Nodup ∧ Zjh raw then some (Zfd raw (ZcH raw)) else none
theorem ZuG {raw : List Cus} (h : (raw.map Cus.name).Nodup) (h2 : Zjh raw) : Zk8 raw = some (Zfd raw (ZcH raw)) := if_pos ⟨h, h2⟩
end Go.Tev.S1
namespace Go.Tev.S1
open Go.Abs Go.Proofs
theorem mem_usesL {n : List UInt8} {l : List Val} : n ∈ ZaX l ↔ ∃ v ∈ l, n ∈ v.uses := by
  induction l with
  | nil => simp [ZaX]
  | cons v l ih => simp [ZaX, ih]
theorem Zqi {v : Val} : ∀ {l : List Val}, v ∈ spL l → v ∈ l
  | [], h => h
  | w :: r, h => by
    unfold spL at h
    split at h
    · exact List.mem_cons_of_mem _ (Zqi h)
    · exact h
theorem Ybw {v : Val} {l : List Val} (h : v ∈ trL l) : v ∈ l := by
  unfold trL trR at h
  rw [List.mem_reverse] at h
  have := Zqi h
  rw [List.mem_reverse] at this
  exact Zqi this
theorem ZxN {v : Val} {l : List Val} (h : v ∈ (Zav l).2.1) : v ∈ l := by
  unfold Zav at h
  split at h
  · simp at h
  · rename_i x r e
    split at h
    · split at h
      · simp at h
      · rename_i y s e2
        split at h
        · have h1 : v ∈ s := Ybw h
          have h2 : v ∈ spL r := by rw [e2]; exact List.mem_cons_of_mem _ h1
          have h3 : v ∈ spL l := by rw [e]; exact List.mem_cons_of_mem _ (Zqi h2)
          exact Zqi h3
        · simp at h
    · simp at h
def Agree (lk lk' : Lk) (l : List Val) : Prop := lk [] = lk' [] ∧ ∀ n ∈ ZaX l, lk n = lk' n
theorem Agree.parts {lk lk' : Lk} {v : Val} {r : List Val} (h : Agree lk lk' (v :: r)) : Agree lk lk' r ∧ Agree lk lk' v.l ∧ Agree lk lk' (Zav v.l).2.1 ∧ (v.ref = true → lk (Zav v.l).1 = lk' (Zav v.l).1) := by
  obtain ⟨h0, h⟩ := h
  have h1 : ∀ n ∈ v.uses, lk n = lk' n := fun n hn => h n (by rw [ZaX]; exact List.mem_append_left _ hn)
  have h2 : ∀ n ∈ ZaX v.l, lk n = lk' n := fun n hn => h1 n (by rw [Val.uses_eq]; exact List.mem_append_right _ hn)
  refine ⟨⟨h0, fun n hn => h n (by rw [ZaX]; exact List.mem_append_right _ hn)⟩, ⟨h0, h2⟩, ⟨h0, fun n hn => ?_⟩, fun hr => ?_⟩
  · obtain ⟨w, hw, hn⟩ := mem_usesL.1 hn
    exact h2 n (mem_usesL.2 ⟨w, ZxN hw, hn⟩)
  · by_cases e : (Zav v.l).1 = []
    · rw [e]; exact h0
    · refine h1 _ ?_
      rw [Val.uses_eq]
      refine List.mem_append_left _ ?_
      have : (v.ref && ((Zav v.l).1 != [])) = true := by rw [hr]; simpa using e
      rw [if_pos this]
      exact List.mem_singleton.2 rfl
theorem Zx6 {lk lk' : Lk} : ∀ l, Agree lk lk' l → ZeK lk l = ZeK lk' l ∧ Zek lk l = Zek lk' l := by
  refine Zhu _ ?_ ?_
  · intro _; exact ⟨by rw [ZdH, ZdH], by rw [Zfc, Zfc]⟩
  · intro v r h1 h2 h3 ha
    obtain ⟨a1, a2, a3, a4⟩ := ha.parts
    obtain ⟨b1, c1⟩ := h1 a1
    obtain ⟨b2, c2⟩ := h2 a2
    obtain ⟨b3, c3⟩ := h3 a3
    rw [ZcK, ZcK, Zee, Zee, b1, c1]
    cases hr : v.ref with
    | false =>
      rw [ZnP hr, ZnP hr, ZrD hr, ZrD hr, b2, c2]
      exact ⟨rfl, rfl⟩
    | true =>
      have a4 := a4 hr
      unfold Zsh ZuP
      rw [if_pos hr, if_pos hr, if_pos hr, if_pos hr, a4, b3, c3]
      exact ⟨rfl, rfl⟩
theorem ZvB {lk lk' : Lk} {l : List Val} (h : Agree lk lk' l) : Zik lk l = Zik lk' l := by
  obtain ⟨h1, h2⟩ := Zx6 l h
  unfold Zik
  rw [h1, h2]
def ZxO (lk : Lk) (x : Cus) : Option (List Val) := bif decide ((Zik lk x.val).2 = 0) && decide ((Zaq (Zik lk x.val).1 : Int) ≤ 2000) then some (Zik lk x.val).1 else none
theorem Zht {lk lk' : Lk} {x : Cus} (h : Agree lk lk' x.val) : ZxO lk x = ZxO lk' x := by unfold ZxO; rw [ZvB h]
theorem Zv1 {α : Type} {R : α → α → Prop} (tr : ∀ {a b c}, R a b → R b c → R a c) : ∀ S : List α, S ≠ [] → (∀ a ∈ S, ¬ R a a) → ∃ m ∈ S, ∀ b ∈ S, ¬ R m b
  | [], h, _ => absurd rfl h
  | a :: S, _, h => by
    have ha := h a List.mem_cons_self
    cases S with
    | nil =>
      refine ⟨a, List.mem_cons_self, fun b hb => ?_⟩
      rw [List.mem_singleton] at hb
      subst hb
      exact ha
    | cons c S =>
      obtain ⟨m, hm, hmx⟩ := Zv1 (R := R) tr (c :: S) (by simp) (fun x hx => h x (List.mem_cons_of_mem _ hx))
      by_cases hma : R m a
      · refine ⟨a, List.mem_cons_self, fun b hb hab => ?_⟩
        rcases List.mem_cons.1 hb with rfl | hb
        · exact ha hab
        · exact hmx b hb (tr hma hab)
      · refine ⟨m, List.mem_cons_of_mem _ hm, fun b hb => ?_⟩
        rcases List.mem_cons.1 hb with rfl | hb
        · exact hma
        · exact hmx b hb
theorem Path.trans {G : Nd} {a b c : List UInt8} (h : Path G a b) (k : Path G b c) : Path G a c := by
  induction h with
  | one e => exact .step e k
  | step e t ih => exact .step e (ih k)
def Zpb (raw : List Cus) (n : List UInt8) : Prop := Path (ZaS raw) n n
structure Sol (raw : List Cus) (lk : Lk) : Prop where
  out : ∀ n, n ∉ raw.map Cus.name → lk n = none
  loop : ∀ n, Zpb raw n → lk n = none
  val : ∀ x ∈ raw, ¬ Zpb raw x.name → lk x.name = ZxO lk x
theorem Zpy {raw : List Cus} (hn : (raw.map Cus.name).Nodup) {x : Cus} (hx : x ∈ raw) : Za7 BEq.beq x.name (ZaS raw) = some (Zej [] x.val) := by
  induction raw with
  | nil => cases hx
  | cons y r ih =>
    rw [List.map_cons, List.nodup_cons] at hn
    simp only [ZaS, List.map_cons, Za7]
    rcases List.mem_cons.1 hx with rfl | hx
    · simp
    · have : (x.name == y.name) = false := by
        rw [beq_eq_false_iff_ne]
        intro e
        exact hn.1 (e ▸ List.mem_map.2 ⟨x, hx, rfl⟩)
      rw [this, cond_false]
      exact ih hn.2 hx
theorem ZvA {raw : List Cus} {n : List UInt8} (h : n ∈ raw.map Cus.name) : (Za7 BEq.beq n (ZaS raw)).isSome = true := by
  cases e : Za7 BEq.beq n (ZaS raw) with
  | some u => rfl
  | none =>
    exfalso
    induction raw with
    | nil => simp at h
    | cons y r ih =>
      simp only [ZaS, List.map_cons, Za7] at e
      cases e2 : (n == y.name) with
      | true => rw [e2] at e; cases e
      | false =>
        rw [e2] at e
        rw [List.map_cons, List.mem_cons] at h
        rcases h with h | h
        · rw [beq_eq_false_iff_ne] at e2; exact e2 h
        · exact ih h e
theorem mem_col {n : List UInt8} {l : List Val} : n ∈ ZbV (Zej [] l) ↔ n ∈ ZaX l := by
  have put : ∀ (k : List UInt8) (h : Bm), n ∈ ZbV (ZkS BEq.beq k true h) ↔ n = k ∨ n ∈ ZbV h := by
    intro k h
    induction h with
    | nil => simp [ZkS, ZbV]
    | cons p h ih =>
      obtain ⟨k', b⟩ := p
      simp only [ZkS]
      cases e : (k == k') with
      | true =>
        rw [beq_iff_eq] at e
        subst e
        simp [ZbV]
      | false =>
        simp only [cond_false, ZbV, List.map_cons, List.mem_cons] at ih ⊢
        rw [ih]
        constructor
        · rintro (h | h | h)
          · exact .inr (.inl h)
          · exact .inl h
          · exact .inr (.inr h)
        · rintro (h | h | h)
          · exact .inr (.inl h)
          · exact .inl h
          · exact .inr (.inr h)
  have : ∀ (us : List (List UInt8)) (h : Bm), n ∈ ZbV (us.foldl (fun h n => ZkS BEq.beq n true h) h) ↔ n ∈ us ∨ n ∈ ZbV h := by
    intro us
    induction us with
    | nil => intro h; simp
    | cons k us ih =>
      intro h
      rw [List.foldl_cons, ih, put, List.mem_cons]
      constructor
      · rintro (h | h | h)
        · exact .inl (.inr h)
        · exact .inl (.inl h)
        · exact .inr h
      · rintro ((h | h) | h)
        · exact .inr (.inl h)
        · exact .inl h
        · exact .inr (.inr h)
  unfold Zej
  rw [this]
  simp [ZbV]
theorem Zfe {raw : List Cus} (hn : (raw.map Cus.name).Nodup) {x : Cus} (hx : x ∈ raw) {m : List UInt8} : Edge (ZaS raw) x.name m ↔ m ∈ ZaX x.val ∧ m ∈ raw.map Cus.name := by
  constructor
  · rintro ⟨u, h1, h2, h3⟩
    rw [Zpy hn hx] at h1
    cases h1
    refine ⟨mem_col.1 h2, ?_⟩
    have := Zin h3
    rw [ZlD] at this
    exact this
  · rintro ⟨h1, h2⟩
    exact ⟨_, Zpy hn hx, mem_col.2 h1, ZvA h2⟩
theorem Zr1 {raw : List Cus} {n : List UInt8} (h : n ∈ raw.map Cus.name) : ∃ x ∈ raw, x.name = n := by
  obtain ⟨x, hx, rfl⟩ := List.mem_map.1 h
  exact ⟨x, hx, rfl⟩
theorem Zte {raw : List Cus} (hn : (raw.map Cus.name).Nodup) (hne : [] ∉ raw.map Cus.name) {lk lk' : Lk} (h : Sol raw lk) (h' : Sol raw lk') : lk = lk' := by
  classical
  funext n
  by_cases hd : ∃ x ∈ raw, lk x.name ≠ lk' x.name
  · exfalso
    let S := (raw.map Cus.name).filter fun n => decide (lk n ≠ lk' n)
    have hS : S ≠ [] := by
      obtain ⟨x, hx, hxd⟩ := hd
      intro e
      have : x.name ∈ S := List.mem_filter.2 ⟨List.mem_map.2 ⟨x, hx, rfl⟩, by simpa using hxd⟩
      rw [e] at this
      simp at this
    obtain ⟨m, hm, hmx⟩ := Zv1 (R := Path (ZaS raw)) (fun h k => h.trans k) S hS fun a ha hp => by
      have := (List.mem_filter.1 ha).2
      simp only [decide_eq_true_eq] at this
      exact this ((h.loop a hp).trans (h'.loop a hp).symm)
    obtain ⟨hmr, hmd⟩ := List.mem_filter.1 hm
    simp only [decide_eq_true_eq] at hmd
    obtain ⟨x, hx, rfl⟩ := Zr1 hmr
    have hc : ¬ Zpb raw x.name := fun hp => hmd ((h.loop _ hp).trans (h'.loop _ hp).symm)
    refine hmd ?_
    rw [h.val x hx hc, h'.val x hx hc]
    refine Zht ⟨(h.out _ hne).trans (h'.out _ hne).symm, fun u hu => ?_⟩
    by_cases hu2 : u ∈ raw.map Cus.name
    · by_cases hu3 : lk u = lk' u
      · exact hu3
      · exact absurd (Path.one ((Zfe hn hx).2 ⟨hu, hu2⟩)) (hmx u (List.mem_filter.2 ⟨hu2, by simpa using hu3⟩))
    · rw [h.out u hu2, h'.out u hu2]
  · by_cases h1 : n ∈ raw.map Cus.name
    · obtain ⟨x, hx, rfl⟩ := Zr1 h1
      by_cases h2 : lk x.name = lk' x.name
      · exact h2
      · exact absurd ⟨x, hx, h2⟩ hd
    · rw [h.out n h1, h'.out n h1]
end Go.Tev.S1
namespace Go.Tev.S1
open Go.Abs Go.Proofs
theorem mget_iff {β : Type} {a : List UInt8} : ∀ {M : List (List UInt8 × β)}, (Za7 BEq.beq a M).isSome = true ↔ a ∈ M.map Prod.fst
  | [] => by simp [Za7]
  | (k, u) :: r => by
    simp only [Za7, List.map_cons, List.mem_cons]
    cases e : (a == k) with
    | true => rw [beq_iff_eq] at e; simp [e]
    | false => rw [beq_eq_false_iff_ne] at e; simp only [cond_false]; rw [mget_iff]; simp [e]
theorem Zhx {β : Type} {a : List UInt8} {M : List (List UInt8 × β)} (h : a ∉ M.map Prod.fst) : Za7 BEq.beq a M = none := by
  cases e : Za7 BEq.beq a M with
  | none => rfl
  | some u => exact absurd (mget_iff.1 (by rw [e]; rfl)) h
theorem Zpw (a k : List UInt8) (v : List Val) : ∀ M : Mv, Za7 BEq.beq a (M ++ [(k, v)]) = match Za7 BEq.beq a M with
    | some u => some u
    | none => if a = k then some v else none
  | [] => by
    simp only [List.nil_append, Za7]
    by_cases e : a = k
    · subst e; simp
    · have e2 : (a == k) = false := by simpa using e
      rw [e2, if_neg e]; rfl
  | (k', u) :: r => by
    have ih := Zpw a k v r
    simp only [List.cons_append, Za7]
    cases (a == k') with
    | true => rfl
    | false => simpa using ih
theorem ZtX {Sv : Mv} {x : Cus} (h : x.name ∉ Sv.map Prod.fst) (n : List UInt8) : lkM (Zui Sv x) n = if n = x.name then ZxO (lkM Sv) x else lkM Sv n := by
  unfold Zui ZxO
  cases e : decide ((Zik (lkM Sv) x.val).2 = 0) && decide ((Zaq (Zik (lkM Sv) x.val).1 : Int) ≤ 2000) with
  | false =>
    simp only [cond_false]
    split
    · rename_i h2; rw [h2]; exact Zhx h
    · rfl
  | true =>
    simp only [cond_true, lkM]
    rw [Zpw]
    split
    · rename_i u hu
      split
      · rename_i h2
        rw [h2, Zhx h] at hu
        cases hu
      · exact hu.symm
    · rename_i hu
      split
      · rfl
      · exact hu.symm
structure Jv (raw : List Cus) (Sv Op : Mv) : Prop where
  opn : ∀ a ∈ Op.map Prod.fst, a ∈ raw.map Cus.name ∧ ¬ Zpb raw a
  svn : ∀ a ∈ Sv.map Prod.fst, a ∈ raw.map Cus.name ∧ ¬ Zpb raw a ∧ a ∉ Op.map Prod.fst
  clo : ∀ x ∈ raw, ¬ Zpb raw x.name → x.name ∉ Op.map Prod.fst → lkM Sv x.name = ZxO (lkM Sv) x ∧ ∀ u ∈ ZaX x.val, u ∉ Op.map Prod.fst
theorem ready_iff {Op : Mv} {x : Cus} : Zcs Op x = true ↔ x.name ∈ Op.map Prod.fst ∧ ∀ u ∈ ZaX x.val, u ∉ Op.map Prod.fst := by
  unfold Zcs
  rw [Bool.and_eq_true, mget_iff, Bool.not_eq_true', ← Bool.not_eq_true, List.any_eq_true]
  constructor
  · rintro ⟨h1, h2⟩
    refine ⟨h1, fun u hu hm => h2 ?_⟩
    obtain ⟨p, hp, rfl⟩ := List.mem_map.1 (mem_col.2 hu)
    exact ⟨p, hp, mget_iff.2 hm⟩
  · rintro ⟨h1, h2⟩
    refine ⟨h1, ?_⟩
    rintro ⟨p, hp, hm⟩
    exact h2 p.1 (mem_col.1 (List.mem_map.2 ⟨p, hp, rfl⟩)) (mget_iff.1 hm)
theorem Zus {raw : List Cus} (hn : (raw.map Cus.name).Nodup) {O : List (List UInt8)} (hO : ∀ a ∈ O, a ∈ raw.map Cus.name ∧ ¬ Zpb raw a) (hne : O ≠ []) : ∃ x ∈ raw, x.name ∈ O ∧ ∀ u ∈ ZaX x.val, u ∉ O := by
  obtain ⟨m, hm, hmx⟩ := Zv1 (R := Path (ZaS raw)) (fun h k => h.trans k) O hne (fun a ha => (hO a ha).2)
  obtain ⟨x, hx, rfl⟩ := Zr1 (hO m hm).1
  exact ⟨x, hx, hm, fun u hu huO => hmx u huO (.one ((Zfe hn hx).2 ⟨hu, (hO u huO).1⟩))⟩
theorem Jv.step {raw : List Cus} (hne : [] ∉ raw.map Cus.name) {Sv Op : Mv} (J : Jv raw Sv Op) {x : Cus} (hx : x ∈ raw) (hinj : ∀ y ∈ raw, y.name = x.name → y = x) (h : Zcs Op x = true) : Jv raw (Zui Sv x) (rmv x.name Op) := by
  obtain ⟨h1, h2⟩ := ready_iff.1 h
  have hxs : x.name ∉ Sv.map Prod.fst := fun hm => (J.svn _ hm).2.2 h1
  have agree : ∀ y : Cus, (∀ u ∈ ZaX y.val, u ≠ x.name) → Agree (lkM (Zui Sv x)) (lkM Sv) y.val := fun y hy => by
    refine ⟨?_, fun u hu => ?_⟩
    · rw [ZtX hxs, if_neg]
      intro e
      exact hne (e ▸ (J.opn _ h1).1)
    · rw [ZtX hxs, if_neg (hy u hu)]
  refine ⟨fun a ha => J.opn a (rmv_names.1 ha).1, fun a ha => ?_, fun y hy hc hyo => ?_⟩
  · rcases Zno Sv x a ha with h3 | rfl
    · obtain ⟨g1, g2, g3⟩ := J.svn a h3
      exact ⟨g1, g2, fun h4 => g3 (rmv_names.1 h4).1⟩
    · exact ⟨(J.opn _ h1).1, (J.opn _ h1).2, fun h4 => (rmv_names.1 h4).2 rfl⟩
  · by_cases e : y.name = x.name
    · have := hinj y hy e
      subst this
      refine ⟨?_, fun u hu hm => h2 u hu (rmv_names.1 hm).1⟩
      rw [ZtX hxs, if_pos rfl]
      exact (Zht (agree y fun u hu e => h2 u hu (e ▸ h1))).symm
    · obtain ⟨g1, g2⟩ := J.clo y hy hc (fun hm => hyo (rmv_names.2 ⟨hm, e⟩))
      refine ⟨?_, fun u hu hm => g2 u hu (rmv_names.1 hm).1⟩
      rw [ZtX hxs, if_neg e, g1]
      exact (Zht (agree y fun u hu e => g2 u hu (e ▸ h1))).symm
theorem Jv.done {raw : List Cus} {Sv : Mv} (J : Jv raw Sv []) : Sol raw (lkM Sv) := by
  refine ⟨fun n hn => Zhx fun hm => hn (J.svn n hm).1, fun n hc => Zhx fun hm => (J.svn n hm).2.1 hc, fun x hx hc => (J.clo x hx hc (by simp)).1⟩
theorem YdM {raw : List Cus} (hn : (raw.map Cus.name).Nodup) {x : Cus} (hx : x ∈ raw) : ∀ y ∈ raw, y.name = x.name → y = x := by
  intro y hy e
  obtain ⟨i, hi, rfl⟩ := List.mem_iff_getElem.1 hx
  obtain ⟨j, hj, rfl⟩ := List.mem_iff_getElem.1 hy
  have := (List.getElem_inj hn (i := j) (j := i) (h₀ := by simpa using hj) (h₁ := by simpa using hi)).1 (by simpa using e)
  subst this; rfl
theorem Zux {raw : List Cus} (hn : (raw.map Cus.name).Nodup) (hne : [] ∉ raw.map Cus.name) : ∀ (n : Nat) (Sv Op : Mv), Jv raw Sv Op → Op.length ≤ n → Sol raw (lkM (ZhP raw n Sv Op)) := by
  intro n
  induction n with
  | zero =>
    intro Sv Op J h
    have : Op = [] := List.eq_nil_of_length_eq_zero (by omega)
    subst this
    exact J.done
  | succ n ih =>
    intro Sv Op J h
    simp only [ZhP]
    cases hf : raw.find? (Zcs Op) with
    | some x =>
      have hr := List.find?_some hf
      have hx := List.mem_of_find?_eq_some hf
      have hlt := YaE (ready_iff.1 hr).1
      exact ih _ _ (J.step hne hx (YdM hn hx) hr) (by omega)
    | none =>
      have : Op = [] := by
        apply Classical.byContradiction
        intro ho
        obtain ⟨x, hx, h1, h2⟩ := Zus hn (O := Op.map Prod.fst) J.opn (by simpa using ho)
        have := (List.find?_eq_none.1 hf) x hx
        exact this (ready_iff.2 ⟨h1, h2⟩)
      subst this
      exact J.done
theorem open0_names {raw : List Cus} {a : List UInt8} : a ∈ (ZjE raw).map Prod.fst ↔ a ∈ raw.map Cus.name ∧ ¬ Zpb raw a := by
  unfold ZjE Znl Zbf Zpb
  simp only [List.mem_map, List.mem_filter, decide_eq_true_eq, Prod.mk.injEq, not_exists, not_and]
  constructor
  · rintro ⟨p, ⟨⟨x, hx, rfl⟩, h⟩, rfl⟩
    exact ⟨⟨x, hx, rfl⟩, fun hp => h x hx rfl hp⟩
  · rintro ⟨⟨x, hx, rfl⟩, h⟩
    refine ⟨(x.name, x.val), ⟨⟨x, hx, rfl⟩, fun y hy e hp => h ?_⟩, rfl⟩
    have e : y.name = x.name := e
    rw [← e]; exact hp
theorem Zm3 {raw : List Cus} (hn : (raw.map Cus.name).Nodup) (hne : [] ∉ raw.map Cus.name) : Sol raw (lkM (ZcH raw)) := by
  refine Zux hn hne _ _ _ ⟨fun a ha => open0_names.1 ha, fun a ha => by simp at ha, fun x hx hc ho => absurd (open0_names.2 ⟨List.mem_map.2 ⟨x, hx, rfl⟩, hc⟩) ho⟩ (Nat.le_refl _)
theorem YbP {raw : List Cus} (hn : (raw.map Cus.name).Nodup) {Sv : Mv} (h : ∀ n, n ∉ raw.map Cus.name → lkM Sv n = none) (n : List UInt8) : lkC (Zfd raw Sv) n = lkM Sv n := by
  by_cases hr : n ∈ raw.map Cus.name
  · clear h
    induction raw with
    | nil => simp at hr
    | cons y r ih =>
      rw [List.map_cons, List.nodup_cons] at hn
      have hcons : Zfd (y :: r) Sv = (match Za7 BEq.beq y.name Sv with
        | some v => ⟨y.name, v⟩ :: Zfd r Sv
        | none => Zfd r Sv) := by
        unfold Zfd
        rw [List.filterMap_cons]
        cases Za7 BEq.beq y.name Sv <;> rfl
      rw [hcons]
      by_cases e : n = y.name
      · subst e
        cases hm : Za7 BEq.beq y.name Sv with
        | some v =>
          simp only [lkC]
          rw [if_pos (by simp)]
          exact hm.symm
        | none =>
          have : ∀ r : List Cus, y.name ∉ r.map Cus.name → lkC (Zfd r Sv) y.name = none := by
            intro r
            induction r with
            | nil => intro _; rfl
            | cons z r ih2 =>
              intro hz
              simp only [List.map_cons, List.mem_cons, not_or] at hz
              have hcons : Zfd (z :: r) Sv = (match Za7 BEq.beq z.name Sv with
                | some v => ⟨z.name, v⟩ :: Zfd r Sv
                | none => Zfd r Sv) := by
                unfold Zfd
                rw [List.filterMap_cons]
                cases Za7 BEq.beq z.name Sv <;> rfl
              rw [hcons]
              cases Za7 BEq.beq z.name Sv with
              | none => exact ih2 hz.2
              | some v =>
                simp only [lkC]
                rw [if_neg (by simpa using fun e => hz.1 e.symm)]
                exact ih2 hz.2
          simp only
          rw [this r hn.1]
          exact hm.symm
      · rw [List.map_cons, List.mem_cons] at hr
        have hr' := hr.resolve_left e
        cases hm : Za7 BEq.beq y.name Sv with
        | some v =>
          simp only [lkC]
          rw [if_neg (by simpa using fun h => e h.symm)]
          exact ih hn.2 hr'
        | none => exact ih hn.2 hr'
  · rw [h n hr]
    cases e : lkC (Zfd raw Sv) n with
    | none => rfl
    | some v =>
      exfalso
      have : ∀ c : List Cus, lkC c n = some v → n ∈ c.map Cus.name := by
        intro c
        induction c with
        | nil => intro h; cases h
        | cons y c ih =>
          intro h
          simp only [lkC] at h
          split at h
          · rename_i h2; rw [beq_iff_eq] at h2; simp [h2]
          · exact List.mem_cons_of_mem _ (ih h)
      have := this _ e
      obtain ⟨x, hx, rfl⟩ := List.mem_map.1 this
      unfold Zfd at hx
      obtain ⟨y, hy, hxy⟩ := List.mem_filterMap.1 hx
      cases hm : Za7 BEq.beq y.name Sv with
      | none => rw [hm] at hxy; cases hxy
      | some u => rw [hm] at hxy; cases hxy; exact hr (List.mem_map.2 ⟨y, hy, rfl⟩)
def Srt (c : List Cus) : Prop := c.Pairwise fun a b => Op.bytesLess a.name b.name = true
theorem Zx3 {a b : List UInt8} (h : Op.bytesLess a b = true) (k : Op.bytesLess b a = true) : False := by
  have := Zg3 h k
  rw [ZeH] at this
  cases this
theorem ZiG {c : List Cus} {n : List UInt8} {v : List Val} (h : lkC c n = some v) : ∃ x ∈ c, x.name = n := by
  induction c with
  | nil => cases h
  | cons y c ih =>
    simp only [lkC] at h
    split at h
    · rename_i h2; rw [beq_iff_eq] at h2; exact ⟨y, List.mem_cons_self, h2⟩
    · obtain ⟨x, hx, e⟩ := ih h; exact ⟨x, List.mem_cons_of_mem _ hx, e⟩
theorem Zsp : ∀ {c d : List Cus}, Srt c → Srt d → lkC c = lkC d → c = d
  | [], [], _, _, _ => rfl
  | [], y :: d, _, _, h => by
    have := congrFun h y.name
    simp [lkC] at this
  | x :: c, [], _, _, h => by
    have := congrFun h x.name
    simp [lkC] at this
  | x :: c, y :: d, hc, hd, h => by
    have hc' := List.pairwise_cons.1 hc
    have hd' := List.pairwise_cons.1 hd
    have e : x.name = y.name := by
      have h1 := congrFun h x.name
      have h2 := congrFun h y.name
      have l1 : lkC (x :: c) x.name = some x.val := by simp [lkC]
      have l2 : lkC (y :: d) y.name = some y.val := by simp [lkC]
      rw [l1] at h1
      rw [l2] at h2
      obtain ⟨z, hz, ez⟩ := ZiG h1.symm
      obtain ⟨w, hw, ew⟩ := ZiG h2
      rcases List.mem_cons.1 hz with rfl | hz
      · exact ez.symm
      · rcases List.mem_cons.1 hw with rfl | hw
        · exact ew
        · have a1 := hd'.1 z hz
          have a2 := hc'.1 w hw
          rw [ez] at a1
          rw [ew] at a2
          exact (Zx3 a1 a2).elim
    have h1 := congrFun h x.name
    have ev : x.val = y.val := by
      simp only [lkC, e] at h1
      simpa using h1
    have exy : x = y := by obtain ⟨a, b⟩ := x; obtain ⟨a', b'⟩ := y; cases e; cases ev; rfl
    subst exy
    congr 1
    refine Zsp hc'.2 hd'.2 (funext fun n => ?_)
    have none_of : ∀ {c : List Cus}, (∀ z ∈ c, Op.bytesLess x.name z.name = true) → lkC c x.name = none := fun {c} hz => by
      cases e : lkC c x.name with
      | none => rfl
      | some v =>
        obtain ⟨z, hz2, ez⟩ := ZiG e
        have := hz z hz2
        rw [ez, ZeH] at this
        cases this
    by_cases hnx : n = x.name
    · rw [hnx, none_of hc'.1, none_of hd'.1]
    · have h2 := congrFun h n
      simp only [lkC] at h2
      have : (x.name == n) = false := by simpa using fun e => hnx e.symm
      rw [this] at h2
      simpa using h2
end Go.Tev.S1
namespace Go.Tev.S1
open Go.Abs Go.Proofs
mutual
def Zsm : DV → DV → Bool
  | .bool a, .bool b => a == b
  | .int k a, .int m b => decide (k = m) && a == b
  | .str a, .str b => a == b
  | .slc a, .slc b => ZrB a b
  | .agg a, .agg b => ZrB a b
  | _, _ => false
def ZrB : List DV → List DV → Bool
  | [], [] => true
  | a :: l, b :: m => Zsm a b && ZrB l m
  | _, _ => false
end
mutual
theorem Zwj : ∀ a b, Zsm a b = true → a = b
  | .bool a, .bool b, h => by simp only [Zsm, beq_iff_eq] at h; rw [h]
  | .int k a, .int m b, h => by simp only [Zsm, Bool.and_eq_true, beq_iff_eq, decide_eq_true_eq] at h; rw [h.1, h.2]
  | .str a, .str b, h => by simp only [Zsm, beq_iff_eq] at h; rw [h]
  | .slc a, .slc b, h => by simp only [Zsm] at h; rw [Znw a b h]
  | .agg a, .agg b, h => by simp only [Zsm] at h; rw [Znw a b h]
  | .bool _, .int .., h | .bool _, .str _, h | .bool _, .slc _, h | .bool _, .agg _, h | .bool _, .nilp, h | .bool _, .nilm, h | .bool _, .nilf, h | .bool _, .nili, h | .bool _, .fmap _, h | .bool _, .fn .., h | .bool _, .tup _, h | .bool _, .iface .., h => by simp [Zsm] at h
  | .int .., .bool _, h | .int .., .str _, h | .int .., .slc _, h | .int .., .agg _, h | .int .., .nilp, h | .int .., .nilm, h | .int .., .nilf, h | .int .., .nili, h | .int .., .fmap _, h | .int .., .fn .., h | .int .., .tup _, h | .int .., .iface .., h => by simp [Zsm] at h
  | .str _, .bool _, h | .str _, .int .., h | .str _, .slc _, h | .str _, .agg _, h | .str _, .nilp, h | .str _, .nilm, h | .str _, .nilf, h | .str _, .nili, h | .str _, .fmap _, h | .str _, .fn .., h | .str _, .tup _, h | .str _, .iface .., h => by simp [Zsm] at h
  | .slc _, .bool _, h | .slc _, .int .., h | .slc _, .str _, h | .slc _, .agg _, h | .slc _, .nilp, h | .slc _, .nilm, h | .slc _, .nilf, h | .slc _, .nili, h | .slc _, .fmap _, h | .slc _, .fn .., h | .slc _, .tup _, h | .slc _, .iface .., h => by simp [Zsm] at h
  | .agg _, .bool _, h | .agg _, .int .., h | .agg _, .slc _, h | .agg _, .str _, h | .agg _, .nilp, h | .agg _, .nilm, h | .agg _, .nilf, h | .agg _, .nili, h | .agg _, .fmap _, h | .agg _, .fn .., h | .agg _, .tup _, h | .agg _, .iface .., h => by simp [Zsm] at h
  | .nilp, _, h | .nilm, _, h | .nilf, _, h | .nili, _, h | .fmap _, _, h | .fn .., _, h | .tup _, _, h | .iface .., _, h => by simp [Zsm] at h
theorem Znw : ∀ a b, ZrB a b = true → a = b
  | [], [], _ => rfl
  | a :: l, b :: m, h => by
    simp only [ZrB, Bool.and_eq_true] at h
    rw [Zwj a b h.1, Znw l m h.2]
  | [], _ :: _, h => by simp [ZrB] at h
  | _ :: _, [], h => by simp [ZrB] at h
end
def tA (k : Int) (t : List UInt8) (l : List Val) : Val := .mk ⟨k, t, 0, [], false⟩ l
def nA (n : Int) : Val := .mk ⟨10, [], n, [], true⟩ []
def cA (n : UInt8) (l : List Val) : Cus := ⟨[45, 45, n], l⟩
def rawA : List Cus := [cA 97 [tA 2 [118, 97, 114] [tA 1 [45, 45, 98] []]], cA 98 [nA 2000], cA 99 [tA 2 [118, 97, 114] [tA 1 [45, 45, 99] [], tA 18 [] [], tA 13 [] [], nA 1000]]]
def outA : List Cus := [cA 97 [nA 2000], cA 98 [nA 2000]]
def lkA : Lk := fun n => if n = [45, 45, 97] ∨ n = [45, 45, 98] then some [nA 2000] else none
theorem ZkT : (rawA.map Cus.name).Nodup := by decide
theorem usA : ∀ x ∈ rawA, ZaX x.val = if x.name = [45, 45, 97] then [[45, 45, 98]] else if x.name = [45, 45, 98] then [] else [[45, 45, 99]] := by
  intro x hx
  simp only [rawA, List.mem_cons, List.not_mem_nil, or_false] at hx
  rcases hx with rfl | rfl | rfl <;> rfl
theorem Yez : ∀ x ∈ rawA, x.name ≠ [45, 45, 99] → ZxO lkA x = some [nA 2000] := by
  have h1 : ZeK lkA [nA 2000] = some 1 := by
    simp [ZeK, nA, Val.ref, Val.tok, Val.l, ZkO]
  have h2 : Zek lkA [nA 2000] = [nA 2000] := by
    simp [Zek, nA, Val.ref, Val.tok, Val.l]
  have h0 : Zfa [118, 97, 114] = [118, 97, 114] := by decide
  have h5 : (Zav [tA 1 [45, 45, 98] []]).1 = [45, 45, 98] := by rfl
  have h6 : lkA [45, 45, 98] = some [nA 2000] := by rfl
  have h3 : ZeK lkA [tA 2 [118, 97, 114] [tA 1 [45, 45, 98] []]] = some 1 := by
    rw [ZcK, ZdH, Ztw (x := [nA 2000]) rfl (h5 ▸ h6)]; rfl
  have h4 : Zek lkA [tA 2 [118, 97, 114] [tA 1 [45, 45, 98] []]] = [nA 2000] := by
    rw [Zek, Zek, if_pos (by rfl), show (Zav (tA 2 [118, 97, 114] [tA 1 [45, 45, 98] []]).l).1 = [45, 45, 98] from h5, h6]; rfl
  have hc : Zba [nA 2000] = 0 := by decide
  intro x hx hn
  simp only [rawA, List.mem_cons, List.not_mem_nil, or_false] at hx
  rcases hx with rfl | rfl | rfl
  · simp only [ZxO, cA, Zik, h3, h4, hc, if_true]; rw [if_neg (by omega)]; rfl
  · simp only [ZxO, cA, Zik, h1, h2, hc, if_true]; rw [if_neg (by omega)]; rfl
  · exact absurd rfl hn
theorem Yeu {a b : List UInt8} (h : Edge (ZaS rawA) a b) : ∃ x ∈ rawA, x.name = a ∧ b ∈ ZaX x.val := by
  obtain ⟨u, h1, h2, h3⟩ := h
  have : a ∈ (ZaS rawA).map Prod.fst := mget_iff.1 (by rw [h1]; rfl)
  have : a ∈ rawA.map Cus.name := by simpa [ZaS] using this
  obtain ⟨x, hx, rfl⟩ := List.mem_map.1 this
  exact ⟨x, hx, rfl, ((Zfe ZkT hx).1 ⟨u, h1, h2, h3⟩).1⟩
theorem edA {a b : List UInt8} (h : Edge (ZaS rawA) a b) : a = [45, 45, 97] ∧ b = [45, 45, 98] ∨ a = [45, 45, 99] ∧ b = [45, 45, 99] := by
  obtain ⟨x, hx, rfl, hb⟩ := Yeu h
  rw [usA x hx] at hb
  simp only [rawA, List.mem_cons, List.not_mem_nil, or_false] at hx
  rcases hx with rfl | rfl | rfl
  · left; simpa [cA] using hb
  · simp [cA] at hb
  · right; simpa [cA] using hb
theorem YeI {a b : List UInt8} (h : Path (ZaS rawA) a b) : a = [45, 45, 97] ∧ b = [45, 45, 98] ∨ a = [45, 45, 99] ∧ b = [45, 45, 99] := by
  induction h with
  | one h => exact edA h
  | step h t ih =>
    rcases edA h with ⟨rfl, rfl⟩ | ⟨rfl, rfl⟩
    · rcases ih with ⟨h, _⟩ | ⟨h, _⟩ <;> simp at h
    · rcases ih with ⟨h, _⟩ | ⟨_, h⟩
      · simp at h
      · exact .inr ⟨rfl, h⟩
theorem solA : Sol rawA lkA where
  out n hn := by
    unfold lkA
    rw [if_neg]
    rintro (rfl | rfl) <;> exact hn (by decide)
  loop n hn := by
    unfold lkA
    rw [if_neg]
    rintro (rfl | rfl) <;> rcases YeI hn with ⟨h1, h2⟩ | ⟨h1, h2⟩ <;> first | (simp at h1; done) | (simp at h2; done)
  val x hx hn := by
    by_cases h3 : x.name = [45, 45, 99]
    · have hm : x.name ∈ ZaX x.val := by
        rw [usA x hx, h3]
        decide
      exact absurd (.one ((Zfe ZkT hx).2 ⟨hm, List.mem_map.2 ⟨x, hx, rfl⟩⟩)) hn
    · rw [Yez x hx h3]
      simp only [rawA, List.mem_cons, List.not_mem_nil, or_false] at hx
      rcases hx with rfl | rfl | rfl
      · rfl
      · rfl
      · exact absurd rfl h3
theorem Ycx : Zfd rawA (ZcH rawA) = outA := by
  have h : lkM (ZcH rawA) = lkA := Zte ZkT (by decide) (Zm3 ZkT (by decide)) solA
  unfold Zfd
  have e : ∀ n, Za7 BEq.beq n (ZcH rawA) = lkA n := fun n => by rw [← h]; rfl
  simp only [e]
  rfl
def K8 : Zaa := fun f args h => bif Nat.beq f 43 then (match args, h with
  | [.d v], [] => bif Zsm v (d44 rawA) then some (.d (.slc (outA.map Cus.enc)), []) else none
  | _, _ => none) else none
theorem Yel : Za2 Tryz.prog K8 := by
  intro f args h r h' he
  unfold K8 at he
  cases hb : Nat.beq f 43 with
  | false => rw [hb] at he; cases he
  | true =>
    rw [hb, cond_true] at he
    have := Nat.eq_of_beq_eq_true hb
    subst this
    split at he
    · rename_i v
      cases hv : Zsm v (d44 rawA) with
      | false => rw [hv] at he; cases he
      | true =>
        rw [hv, cond_true] at he
        have := Zwj _ _ hv
        subst this
        cases he
        rw [← Ycx]
        exact Zqm rawA ZkT ⟨by decide, by decide⟩
    · cases he
set_option maxRecDepth 100000 in
theorem al8 : ZjS C K8 80 8 [] [] = some (.d (.bool true), []) := by kernel_rfl
noncomputable def K2 (K : Zaa) : Zaa := fun f args h => bif Nat.beq f 8 then (match args, h with
  | [], [] => some (.d (.bool true), [])
  | _, _ => none) else K f args h
theorem Yey {K : Zaa} (hK : Za2 Tryz.prog K) : Za2 Tryz.prog (K2 K) := by
  intro f args h r h' he
  unfold K2 at he
  cases hb : Nat.beq f 8 with
  | false => rw [hb] at he; exact hK _ _ _ _ _ he
  | true =>
    rw [hb, cond_true] at he
    have := Nat.eq_of_beq_eq_true hb
    subst this
    split at he
    · cases he
      exact ZhY Zae mixed Yel 80 _ _ _ _ _ al8
    · cases he
theorem Yce {K : Zaa} (hK : Zc2 K) : Zc2 (K2 K) := by
  intro f args h hf
  unfold K2
  rw [show Nat.beq f 8 = false from beq_ne.2 fun e => hf (by subst e; decide)]
  exact hK f args h hf
theorem Yb9 {K : Zaa} (hK : ZgM K) : ZgM (K2 K) := fun args h r he => hK args h r he
theorem YbS {K : Zaa} : Zap U (Zab C (K2 K)) 8 ⟨true, [], [4], fun _ => some true⟩ := by
  intro vs a r ds g hp hd hs hr
  have hp : Zv3 U [] vs = some a := hp
  cases vs with
  | cons v vs => simp [Zv3, Zes] at hp
  | nil =>
    simp only [dvL, Option.some.injEq] at hd
    subst hd
    have hr : U.inj 4 = some g := hr
    have hs : some true = some r := hs
    refine ⟨_, ok.inj _ _ r hr, ?_⟩
    unfold Zci
    have : Zab C (K2 K) 8 [] [] = some (.d (.bool true), []) := Zic rfl
    cases hs
    simp only [List.map_nil, this]
    rfl
end Go.Tev.S1
namespace Go.Tev.S1
open Go.Abs Go.Proofs
abbrev T5a : Type := (List Val) × (List Val) → Option Bool
abbrev T5b : Type := (List Cus) → Option Bool
abbrev T5c : Type := (List Cus) → Option (List Cus)
abbrev T5d : Type := (List Val) → Option Int
abbrev P5a (K : Zaa) (t : T5a) : Prop := Zap U (Zab C K) 15 ⟨true, [.ty 22, .ty 22], [4], t⟩
abbrev P5b (K : Zaa) (t : T5b) : Prop := Zap U (Zab C K) 42 ⟨true, [.ty 23], [4], t⟩
abbrev P5c (K : Zaa) (t : T5c) : Prop := Zap U (Zab C K) 43 ⟨true, [.ty 23], [23], t⟩
abbrev P5d (K : Zaa) (t : T5d) : Prop := Zap U (Zab C K) 33 ⟨true, [.ty 22], [28], t⟩
def Zet (qa : T5a) {R : Type} (n : Nat) (a0 : List Cus) (a1 : List Cus) (kx0 : Bool → Option R) (kr : Bool → Option R) (y4 : Bool) (y5 : Int) (k : Bool → Int → Option R) : Option R :=
  cond (decide (y5 < (a0.length : Int)))
  (Option.bind (Zeu a0 y5) fun x3 =>
  Option.bind (Zeu a1 y5) fun x4 =>
  Option.bind (cond (!(x3.name != x4.name)) (Zeu a0 y5) (some Yec)) fun x5 =>
  Option.bind (cond (!(x3.name != x4.name)) (Zeu a1 y5) (some Yec)) fun x6 =>
  Option.bind (cond (!(x3.name != x4.name)) (qa (x5.val, x6.val)) (some false)) fun r7 =>
  Option.bind (some (cond (x3.name != x4.name) true (!r7))) fun m8 =>
  cond m8
  (kr false)
  (k y4 (IntKind.i64.wrap (y5 + (1 : Int)))))
  (kx0 y4)
def ZfI (qa : T5a) (n : Nat) (p0 : List Cus) (p1 : List Cus) : Option Bool :=
  cond ((p0.length : Int) != (p1.length : Int))
  (some false)
  (Zff (Zet qa n p0 p1 (fun z1 =>
  some true) (fun z2 =>
  some z2)) n false (0 : Int))
abbrev Zp8 (qa : T5a) : List (Nat × TCall X) := [(15, ⟨true, [.ty 22, .ty 22], [4], qa⟩)]
noncomputable abbrev Zco (qa : T5a) : Cx := ⟨C, U, Zp8 qa, [], fun _ => []⟩
theorem ZoM : okF (C.ann 18) Tryz.f18 2 = true := by kernel_rfl
abbrev ref30_Same_L0_D : LD := ⟨0, [.val 0 23, .val 1 23], [.val 4 4, .val 5 2], [(0, [.val 4 4])], [.val 4 4]⟩
abbrev Zdm (qa : T5a) (n : Nat) : LG U (PX X [4]) ref30_Same_L0_D := fun c kx kr y k => Zet qa n c.1 c.2.1 (fun z0 => kx 0 (z0, ())) (fun z0 => kr (z0, ())) y.1 y.2.1 (fun z0 z1 => k (z0, z1, ()))
noncomputable abbrev Zdr (qa : T5a) (n : Nat) : Zfm (Zco qa) (PX X [4]) := [(0, Zfl U ref30_Same_L0_D (Zdm qa n) n)]
theorem Zlr (qa : T5a) (n : Nat) : ∀ c kx kr y k1, evL (Zco qa) (ann 18) (Zdr qa n) 0 (Zao (Zac Tryz.f18) 0) (ZeL U ref30_Same_L0_D kx kr k1) (encS U ref30_Same_L0_D.cap ref30_Same_L0_D.din c y) = Zdm qa n c (fun i z => kx i c z) kr y (fun y2 => k1 c y2) := by
  intro c kx kr y k1
  kernel_rfl
theorem Zpq (qa : T5a) (n : Nat) : ∀ a, fnL (Zco qa) true 18 Tryz.f18 [.ty 23, .ty 23] [4] (Zdr qa n) a = ZfI qa n a.1 a.2 := by
  intro a
  kernel_rfl
theorem ZiW {K : Zaa} (qa : T5a) (h0 : P5a K qa) : CallsOk (Zco qa) (Zab C K) :=
  ⟨(Zah h0 ZaF), ZaG⟩
theorem ZjP {K : Zaa} (qa : T5a) (h0 : P5a K qa) (n : Nat) (b0 : Base) (bn0 : b0.nr ≤ 0) : Law (Zco qa) b0 (Zab C K) (ann 18) n (Zao (Zac Tryz.f18) 0) (Zfl U ref30_Same_L0_D (Zdm qa n) n) :=
  Zdt (x := Zco qa) (id := 0) ok (ZiW qa h0) (sums := Zdr qa n) (Zau (show Zat 0 (Zao (Zac Tryz.f18) 0) = [] by kernel_rfl)) ref30_Same_L0_D bn0 (Zdm qa n) (Zlr qa n)
theorem Zkz {K : Zaa} (hK : ∀ args h, K 18 args h = none) (qa : T5a) (h0 : P5a K qa) (t : PX X (AK.tys [.ty 23, .ty 23]) → Option (PX X [4])) (h : ∀ a r, t a = some r → ∃ n, ZfI qa n a.1 a.2 = some r) : Zap U (Zab C K) 18 ⟨true, [.ty 23, .ty 23], [4], t⟩ := by
  refine Zax (x := Zco qa) (ak := [.ty 23, .ty 23]) (rts := [4]) (dir := true) ok (ZiW qa h0) hK Tryz.func18 ZoM fun a r hr => ?_
  obtain ⟨n, hn⟩ := h a r hr
  exact ⟨n, Zdr qa n, (Zbq (ids := [0]) (by kernel_rfl) (by decide) (fun i hi => by
    simp only [List.mem_cons, List.not_mem_nil, or_false] at hi
    rcases hi with rfl
    · exact Zbg (c2 := Zao (Zac Tryz.f18) 0) (by kernel_rfl) (by kernel_rfl) (ZjP qa h0 _ _ (Nat.le_refl _))
    )), (Zpq qa n a).trans hn⟩
def Zep (qb : T5b) (qc : T5c) (qd : T5d) {R : Type} (n : Nat) (a0 : List Cus) (a13 : List Cus) (a14 : Int) (kx0 : List Cus → Int → Option R) (kr : List Cus → Int → Option R) (y2 : List Cus) (y3 : Int) (y15 : Int) (k : List Cus → Int → Int → Option R) : Option R :=
  cond (decide (y15 < a14))
  (Option.bind (Zeu a13 y15) fun x7 =>
  Option.bind (qd x7.val) fun r8 =>
  cond (r8 != (0 : Int))
  (kr [] r8)
  (k y2 y3 (IntKind.i64.wrap (y15 + (1 : Int)))))
  (kx0 y2 y3)
def Zhj (qb : T5b) (qc : T5c) (qd : T5d) (n : Nat) (p0 : List Cus) : Option ((List Cus) × Int) :=
  cond (decide ((p0.length : Int) > (64 : Int)))
  (some ([], (4 : Int)))
  (Option.bind (qb p0) fun r1 =>
  cond (!r1)
  (some ([], (8 : Int)))
  (Zoi (Zep qb qc qd n p0 p0 (p0.length : Int) (fun z2 z3 =>
  Option.bind (qc p0) fun r4 =>
  some (r4, (0 : Int))) (fun z5 z6 =>
  some (z5, z6))) n [] (0 : Int) (0 : Int)))
abbrev Zqn (qb : T5b) (qc : T5c) (qd : T5d) : List (Nat × TCall X) := [(42, ⟨true, [.ty 23], [4], qb⟩), (43, ⟨true, [.ty 23], [23], qc⟩), (33, ⟨true, [.ty 22], [28], qd⟩)]
noncomputable abbrev Zcq (qb : T5b) (qc : T5c) (qd : T5d) : Cx := ⟨C, U, Zqn qb qc qd, [], fun _ => []⟩
theorem ZnI : okF (C.ann 16) Tryz.f16 1 = true := by kernel_rfl
abbrev vars_Solve_L0_D : LD := ⟨0, [.val 0 23, .val 13 23, .val 14 2], [.val 2 23, .val 3 2, .val 15 2], [(0, [.val 2 23, .val 3 2])], [.val 2 23, .val 3 28]⟩
abbrev Zdj (qb : T5b) (qc : T5c) (qd : T5d) (n : Nat) : LG U (PX X [23, 28]) vars_Solve_L0_D := fun c kx kr y k => Zep qb qc qd n c.1 c.2.1 c.2.2.1 (fun z0 z1 => kx 0 (z0, z1, ())) (fun z0 z1 => kr (z0, z1, ())) y.1 y.2.1 y.2.2.1 (fun z0 z1 z2 => k (z0, z1, z2, ()))
noncomputable abbrev ZdA (qb : T5b) (qc : T5c) (qd : T5d) (n : Nat) : Zfm (Zcq qb qc qd) (PX X [23, 28]) := [(0, Zfl U vars_Solve_L0_D (Zdj qb qc qd n) n)]
theorem Zlg (qb : T5b) (qc : T5c) (qd : T5d) (n : Nat) : ∀ c kx kr y k1, evL (Zcq qb qc qd) (ann 16) (ZdA qb qc qd n) 0 (Zao (Zac Tryz.f16) 0) (ZeL U vars_Solve_L0_D kx kr k1) (encS U vars_Solve_L0_D.cap vars_Solve_L0_D.din c y) = Zdj qb qc qd n c (fun i z => kx i c z) kr y (fun y2 => k1 c y2) := by
  intro c kx kr y k1
  kernel_rfl
theorem Zqp (qb : T5b) (qc : T5c) (qd : T5d) (n : Nat) : ∀ a, fnL (Zcq qb qc qd) true 16 Tryz.f16 [.ty 23] [23, 28] (ZdA qb qc qd n) a = Zhj qb qc qd n a := by
  intro a
  kernel_rfl
theorem Zi8 {K : Zaa} (qb : T5b) (qc : T5c) (qd : T5d) (h0 : P5b K qb) (h1 : P5c K qc) (h2 : P5d K qd) : CallsOk (Zcq qb qc qd) (Zab C K) :=
  ⟨(Zah h0 (Zah h1 (Zah h2 ZaF))), ZaG⟩
theorem Zjl {K : Zaa} (qb : T5b) (qc : T5c) (qd : T5d) (h0 : P5b K qb) (h1 : P5c K qc) (h2 : P5d K qd) (n : Nat) (b0 : Base) (bn0 : b0.nr ≤ 0) : Law (Zcq qb qc qd) b0 (Zab C K) (ann 16) n (Zao (Zac Tryz.f16) 0) (Zfl U vars_Solve_L0_D (Zdj qb qc qd n) n) :=
  Zdt (x := Zcq qb qc qd) (id := 0) ok (Zi8 qb qc qd h0 h1 h2) (sums := ZdA qb qc qd n) (Zau (show Zat 0 (Zao (Zac Tryz.f16) 0) = [] by kernel_rfl)) vars_Solve_L0_D bn0 (Zdj qb qc qd n) (Zlg qb qc qd n)
theorem Zkv {K : Zaa} (hK : ∀ args h, K 16 args h = none) (qb : T5b) (qc : T5c) (qd : T5d) (h0 : P5b K qb) (h1 : P5c K qc) (h2 : P5d K qd) (t : PX X (AK.tys [.ty 23]) → Option (PX X [23, 28])) (h : ∀ a r, t a = some r → ∃ n, Zhj qb qc qd n a = some r) : Zap U (Zab C K) 16 ⟨true, [.ty 23], [23, 28], t⟩ := by
  refine Zax (x := Zcq qb qc qd) (ak := [.ty 23]) (rts := [23, 28]) (dir := true) ok (Zi8 qb qc qd h0 h1 h2) hK Tryz.func16 ZnI fun a r hr => ?_
  obtain ⟨n, hn⟩ := h a r hr
  exact ⟨n, ZdA qb qc qd n, (Zbq (ids := [0]) (by kernel_rfl) (by decide) (fun i hi => by
    simp only [List.mem_cons, List.not_mem_nil, or_false] at hi
    rcases hi with rfl
    · exact Zbg (c2 := Zao (Zac Tryz.f16) 0) (by kernel_rfl) (by kernel_rfl) (Zjl qb qc qd h0 h1 h2 _ _ (Nat.le_refl _))
    )), (Zqp qb qc qd n a).trans hn⟩
end Go.Tev.S1
namespace Go.Tev.S1
open Go.Abs Go.Proofs
theorem ZiU {c : List Cus} (h : Srt c) : (c.map Cus.name).Nodup := by
  unfold List.Nodup
  rw [List.pairwise_map]
  exact h.imp fun {a b} hab e => by rw [e, ZeH] at hab; cases hab
theorem ZoJ : ∀ {p : Option (List UInt8)} {c : List Cus}, namL p c = true → Srt c
  | _, [], _ => List.Pairwise.nil
  | p, y :: c, h => by
    obtain ⟨_, h2⟩ := ZpK h
    exact List.pairwise_cons.2 ⟨fun x hx => Zw7 h2 x hx, ZoJ h2⟩
theorem Zs0 : ∀ {p : Option (List UInt8)} {c : List Cus}, namL p c = true → [] ∉ c.map Cus.name
  | _, [], _ => by simp
  | p, y :: c, h => by
    have h1 : ZbY y.name = true := by
      rw [namL.eq_def] at h
      simp only [Bool.and_eq_true] at h
      exact h.1.1
    obtain ⟨_, h2⟩ := ZpK h
    rw [List.map_cons, List.mem_cons]
    rintro (h3 | h3)
    · exact Zqr h1 h3.symm
    · exact Zs0 h2 h3
def Zrm : List Cus → Int
  | [] => 0
  | v :: r => if Zba v.val = 0 then Zrm r else Zba v.val
open Classical in
noncomputable def Zd9 (raw : List Cus) : List Cus × Int := if raw.length > 64 then ([], 4) else if namL none raw = false then ([], 8) else if Zrm raw = 0 then (Zfd raw (ZcH raw), 0) else ([], Zrm raw)
noncomputable def Znn (raw : List Cus) : Option (List Cus × Int) := if Zjh raw then some (Zd9 raw) else none
theorem Zqb {raw : List Cus} (h : Zjh raw) : Znn raw = some (Zd9 raw) := if_pos h
theorem YcU {R : Type} (z : Int → Option R) (k : Option R) (l : List Cus) : Zjg (fun (_ : Unit) v => if Zba v.val = 0 then .inl () else .inr (z (Zba v.val))) (fun _ => k) l () = if Zrm l = 0 then k else z (Zrm l) := by
  induction l with
  | nil => rfl
  | cons v l ih =>
    simp only [Zjg]
    by_cases h : Zba v.val = 0
    · have e : Zrm (v :: l) = Zrm l := by rw [Zrm, if_pos h]
      rw [if_pos h, e]; exact ih
    · have e : Zrm (v :: l) = Zba v.val := by rw [Zrm, if_neg h]
      rw [if_neg h, e, if_neg h]
theorem Zwf {raw : List Cus} (hok : Zjh raw) {v : Cus} (hv : v ∈ raw) : Znf v.val = some (Zba v.val) := by
  have hB : B = 2 ^ 36 := rfl
  have hV : V = 2 ^ 24 := rfl
  exact ZiS (Nat.le_trans (hok.2 v hv) (by rw [hB, hV]; decide))
theorem ZrK (raw : List Cus) (hok : Zjh raw) : Zhj ZtG Zk8 Znf (raw.length + 1) raw = some (Zd9 raw) := by
  unfold Zhj Zd9
  by_cases h1 : raw.length > 64
  · have : decide ((raw.length : Int) > 64) = true := by simp; omega
    rw [this, if_pos h1]; rfl
  · have : decide ((raw.length : Int) > 64) = false := by simp; omega
    rw [this, if_neg h1]
    simp only [cond_false, ZvP hok.1, Option.bind_some]
    cases h2 : namL none raw with
    | false => rfl
    | true =>
      simp only [Bool.not_true, cond_false]
      rw [if_neg (by decide)]
      refine (Zg8 raw (fun (_ : Unit) => ([] : List Cus)) (fun _ => (0 : Int)) (fun _ v => if Zba v.val = 0 then .inl () else .inr (some (([] : List Cus), Zba v.val))) (fun _ => some (Zfd raw (ZcH raw), (0 : Int))) (fun i b => True) ?_ ?_ ?_ () trivial _ (Nat.lt_succ_self _)).trans ?_
      · intro i b v k hv hlt hb
        have hi : IntKind.i64.wrap ((i : Int) + 1) = ((i + 1 : Nat) : Int) := Za1 (by omega)
        simp only [Zep, dlt hlt, cond_true, Zbh hv, Option.bind_some, Zwf hok (List.mem_of_getElem? hv), hi]
        by_cases h3 : Zba v.val = 0
        · have e : (Zba v.val != 0) = false := by simpa using h3
          rw [if_pos h3, e]; rfl
        · have e : (Zba v.val != 0) = true := by simpa using h3
          rw [if_neg h3, e]; rfl
      · intro i b v b' _ _ _; trivial
      · intro b k hb
        simp only [Zep, Zpc, cond_false, ZuG (ZiU (ZoJ h2)) hok, Option.bind_some]
      · rw [YcU (fun e => some (([] : List Cus), e))]
        split <;> rfl
open Classical in
noncomputable def ZlY (a : List Cus × List Cus) : Option Bool := if a.1 = a.2 ∧ Zjh a.1 then some true else none
theorem ZpW {c : List Cus} (h : Zjh c) : ZlY (c, c) = some true := if_pos ⟨rfl, h⟩
theorem ZuC (c : List Cus) (hok : Zjh c) : ZfI Zp9 (c.length + 1) c c = some true := by
  have hB : B = 2 ^ 36 := rfl
  have hV : V = 2 ^ 24 := rfl
  have hl := hok.1
  rw [hB] at hl
  unfold ZfI
  have e0 : ((c.length : Int) != (c.length : Int)) = false := by simp
  rw [e0]
  simp only [cond_false]
  refine (Zcy c (fun (_ : Unit) => false) (fun _ v => .inl ()) (fun _ => some true) (fun i b => True) ?_ ?_ ?_ () trivial _ (Nat.lt_succ_self _)).trans ?_
  · intro i b v k hv hlt hb
    have hi : IntKind.i64.wrap ((i : Int) + 1) = ((i + 1 : Nat) : Int) := Za1 (by omega)
    have hx := hok.2 v (List.mem_of_getElem? hv)
    have hx2 : Zaq v.val ≤ B := Nat.le_trans hx (by rw [hB, hV]; decide)
    have e1 : (v.name != v.name) = false := by simp
    simp only [Zet, dlt hlt, cond_true, Zbh hv, Option.bind_some, e1, Bool.not_false, cond_false, ZtY hx2 hx2, Zmd, Bool.not_true, hi]
  · intro i b v b' _ _ _; trivial
  · intro b k hb
    simp only [Zet, Zpc, cond_false]
  · rw [Zd6 (fun (_ : Unit) _ => ())]
theorem Ycr {K : Zaa} (hK : Zc2 K) : Zap U (Zab C K) 18 ⟨true, [.ty 23, .ty 23], [4], ZlY⟩ :=
  Zkz (kf hK 18 (by decide)) _ (Ydd hK) _ fun a r h => by
    have h : ZlY a = some r := h
    unfold ZlY at h
    split at h
    · rename_i h3
      cases h
      have e : a.2 = a.1 := h3.1.symm
      refine ⟨List.length a.1 + 1, ?_⟩
      have h5 : ZfI Zp9 (List.length a.1 + 1) a.1 a.2 = some true := by rw [e]; exact ZuC a.1 h3.2
      exact h5
    · cases h
structure Dn (raw : List Cus) (c : List Cus) : Prop where
  ok : Zjh raw
  le : raw.length ≤ 64
  nam : namL none raw = true
  err : Zrm raw = 0
  eq : c = Zfd raw (ZcH raw)
theorem Ydq {raw : List Cus} (hok : Zjh raw) (h : (Zd9 raw).2 = 0) : Dn raw (Zd9 raw).1 := by
  unfold Zd9 at h ⊢
  split
  · rename_i h1; rw [if_pos h1] at h; cases h
  · rename_i h1
    rw [if_neg h1] at h
    split
    · rename_i h2; rw [if_pos h2] at h; cases h
    · rename_i h2
      rw [if_neg h2] at h
      split
      · rename_i h3; exact ⟨hok, by omega, by simpa using h2, h3, rfl⟩
      · rename_i h3; rw [if_neg h3] at h; exact absurd h h3
theorem Zqw : ∀ {raw : List Cus}, Zrm raw = 0 → ∀ x ∈ raw, Zba x.val = 0
  | [], _, x, hx => by cases hx
  | v :: r, h, x, hx => by
    rw [Zrm] at h
    split at h
    · rename_i h1
      rcases List.mem_cons.1 hx with rfl | hx
      · exact h1
      · exact Zqw h x hx
    · rename_i h1; exact absurd h h1
theorem Zuu (raw : List Cus) : OkS (ZcH raw) := by
  have okS : ∀ (n : Nat) (Sv Op : Mv), OkS Sv → OkS (ZhP raw n Sv Op) := by
    intro n
    induction n with
    | zero => intro Sv Op h; exact h
    | succ n ih =>
      intro Sv Op h
      simp only [ZhP]
      split
      · exact ih _ _ (Zxp h _)
      · exact h
  exact okS _ [] (ZjE raw) fun p hp => by simp at hp
theorem Zpn : ∀ {p : Option (List UInt8)} {q : List UInt8} {l : List Cus}, (∀ q0, p = some q0 → Op.bytesLess q0 q = true) → namL (some q) l = true → namL p l = true
  | p, q, [], _, _ => by cases p <;> rfl
  | p, q, v :: r, h, h2 => by
    rw [namL.eq_def] at h2 ⊢
    simp only [Bool.and_eq_true] at h2 ⊢
    refine ⟨⟨h2.1.1, ?_⟩, h2.2⟩
    cases p with
    | none => rfl
    | some q0 => exact Zg3 (h q0 rfl) h2.1.2
theorem ZsF {Sv : Mv} : ∀ {p : Option (List UInt8)} {raw : List Cus}, namL p raw = true → namL p (Zfd raw Sv) = true
  | p, [], h => h
  | p, y :: r, h => by
    have h0 := h
    rw [namL.eq_def] at h
    simp only [Bool.and_eq_true] at h
    have ih := ZsF (Sv := Sv) h.2
    have hcons : Zfd (y :: r) Sv = (match Za7 BEq.beq y.name Sv with
        | some v => ⟨y.name, v⟩ :: Zfd r Sv
        | none => Zfd r Sv) := by
      unfold Zfd
      rw [List.filterMap_cons]
      cases Za7 BEq.beq y.name Sv <;> rfl
    rw [hcons]
    cases Za7 BEq.beq y.name Sv with
    | none =>
      refine Zpn (fun q0 hq => ?_) ih
      subst hq
      exact h.1.2
    | some v =>
      rw [namL.eq_def]
      simp only [Bool.and_eq_true]
      exact ⟨h.1, ih⟩
section
variable {raw c : List Cus} (D : Dn raw c)
include D
theorem Dn.nd : (raw.map Cus.name).Nodup := ZiU (ZoJ D.nam)
theorem Dn.sol : Sol raw (lkM (ZcH raw)) := Zm3 D.nd (Zs0 D.nam)
theorem Dn.lk (n : List UInt8) : lkC c n = lkM (ZcH raw) n := by rw [D.eq]; exact YbP D.nd D.sol.out n
theorem Dn.lkf : lkC c = lkM (ZcH raw) := funext D.lk
theorem Dn.chk {x : Cus} (hx : x ∈ raw) : Zba x.val = 0 := Zqw D.err x hx
theorem Dn.tot {x : Cus} (hx : x ∈ raw) : Zaq x.val ≤ B := Nat.le_trans (D.ok.2 x hx) (by decide)
theorem Dn.val {x : Cus} (hx : x ∈ raw) (h : ¬ Zpb raw x.name) : lkC c x.name = ZxO (lkC c) x := by rw [D.lkf]; exact D.sol.val x hx h
theorem Dn.loop {n : List UInt8} (h : Zpb raw n) : lkC c n = none := by rw [D.lk]; exact D.sol.loop n h
theorem Dn.mem {y : Cus} (hy : y ∈ c) : (∃ x ∈ raw, x.name = y.name) ∧ lkM (ZcH raw) y.name = some y.val := by
  rw [D.eq] at hy
  unfold Zfd at hy
  obtain ⟨x, hx, he⟩ := List.mem_filterMap.1 hy
  cases hm : Za7 BEq.beq x.name (ZcH raw) with
  | none => rw [hm] at he; cases he
  | some u =>
    rw [hm] at he
    cases he
    exact ⟨⟨x, hx, rfl⟩, hm⟩
theorem Dn.small {y : Cus} (hy : y ∈ c) : Zaq y.val ≤ 2000 ∧ ZbR y.val = false := by
  obtain ⟨p, hp, h⟩ := ZwZ (D.mem hy).2
  rw [← h]
  exact Zuu raw p hp
theorem Dn.okc : Zjh c := by
  refine ⟨?_, fun y hy => Nat.le_trans (D.small hy).1 (by decide)⟩
  rw [D.eq]
  exact Nat.le_trans (Zov _ _) D.ok.1
end
end Go.Tev.S1
namespace Go.Tev.S1
open Go.Abs Go.Proofs
theorem A26 : (ann 26).nt = 65 ∧ (ann 26).keep = [0, 1, 4, 5, 6, 7, 8, 10, 11, 19, 37, 48, 57] ∧ (ann 26).take = [6] ∧ (ann 26).heapy = [] ∧ (ann 26).frz = [31, 45] ∧ (ann 26).lend = [] := ⟨rfl, rfl, rfl, rfl, rfl, rfl⟩
noncomputable abbrev B26 : Code := Zac Tryz.f26
noncomputable abbrev ZzC : Code := sq1 B26
noncomputable abbrev ZzV : Code := sq1 (sq2 B26)
noncomputable abbrev Zio : Code := sq1 (sq2 (sq2 B26))
noncomputable abbrev L26 : Code := inn (inn (sq1 (sq2 (sq2 (sq2 B26)))))
noncomputable abbrev ZhH : Code := sq1 (sq1 L26)
noncomputable abbrev K26 : Code := inn (sq2 L26)
noncomputable abbrev Zgu : Code := sq1 K26
noncomputable abbrev Zgw : Code := sq1 (sq2 K26)
noncomputable abbrev Zwo : Code := sq1 (sq2 (sq2 K26))
noncomputable abbrev Zv5 : Code := sq1 (sq2 (sq2 (sq2 K26)))
noncomputable abbrev Y26 : Code := inn (inn (sq2 (sq2 (sq2 (sq2 K26)))))
noncomputable abbrev ZuB : Code := sq1 (sq1 Y26)
noncomputable abbrev M26 : Code := inn (sq1 (sq2 Y26))
noncomputable abbrev ZuK : Code := sq2 (sq2 Y26)
noncomputable abbrev Zln : Code := sq1 M26
noncomputable abbrev Zk3 : Code := sq1 (sq1 (sq2 M26))
noncomputable abbrev ZlM : Code := sq1 (cn1 (sq2 (sq1 (sq2 M26))))
noncomputable abbrev ZiM : Code := sq1 (sq2 (sq2 M26))
noncomputable abbrev ZkX : Code := sq1 (cn1 (sq2 (sq2 (sq2 M26))))
noncomputable abbrev Zcr : Code := sq2 (cn1 (sq2 (sq2 (sq2 M26))))
noncomputable abbrev ZsA : Code := sq1 (sq2 (sq2 (sq2 (sq2 B26))))
theorem YbM : Tryz.f26.body = some (.seq ZzC (.seq ZzV (.seq Zio (.seq (.block 0 (.loop (.seq (.seq ZhH (.cond (.tmp 19) .skip (.exit 0)))
  (.block 1 (.seq Zgu (.seq Zgw (.seq Zwo (.seq Zv5 (.block 2 (.loop (.seq (.seq ZuB (.cond (.tmp 37) .skip (.exit 2)))
    (.seq (.block 3 (.seq Zln (.seq (.seq Zk3 (.cond (.tmp 48) (.seq ZlM .ret) .skip)) (.seq ZiM (.cond (.tmp 57) (.seq ZkX Zcr) .skip))))) ZuK)))))))))))) (.seq ZsA .ret))))) := by kernel_rfl
theorem Yas : okC (C.ann 26) ZzC = true ∧ okC (C.ann 26) ZzV = true ∧ okC (C.ann 26) Zwo = true ∧ okC (C.ann 26) Zv5 = true ∧ okC (C.ann 26) ZuB = true ∧ okC (C.ann 26) ZuK = true ∧ okC (C.ann 26) Zln = true ∧ okC (C.ann 26) Zk3 = true ∧ okC (C.ann 26) ZlM = true ∧ okC (C.ann 26) ZiM = true ∧ okC (C.ann 26) ZkX = true ∧ okC (C.ann 26) ZsA = true := by
  refine ⟨?_, ?_, ?_, ?_, ?_, ?_, ?_, ?_, ?_, ?_, ?_, ?_⟩ <;> kernel_rfl
theorem ez77 : C.elemZero 77 = some (.bool false) := by kernel_rfl
theorem Yem : C.elemSize 77 = some 1 := by kernel_rfl
theorem eo77 : C.elemOk 77 1 = true := by kernel_rfl
theorem eb77 : C.elemBytes 77 = some 1 := by kernel_rfl
theorem YdF : C.elemSize 78 = some 1 := by kernel_rfl
theorem eo78 : C.elemOk 78 1 = true := by kernel_rfl
theorem eb78 : C.elemBytes 78 = some 8 := by kernel_rfl
theorem hz78 : C.hasZero 78 = true := by kernel_rfl
theorem ag3 : C.isAgg 3 = some false := by kernel_rfl
theorem ag4z : C.isAgg 4 = some false := by kernel_rfl
theorem sz4z : C.size 4 = some 1 := by kernel_rfl
theorem es31 : C.elemSize 31 = some 1 := by kernel_rfl
theorem rm77 {n : Nat} (h : n ≤ 2 ^ 40) : ZbU C 77 n = true := by
  simp only [ZbU, eb77, Bool.and_eq_true, Nat.ble_eq]
  exact ⟨by omega, by omega⟩
theorem rm78 {n : Nat} (h : n ≤ 2 ^ 40) : ZbU C 78 n = true := by
  simp only [ZbU, eb78, Bool.and_eq_true, Nat.ble_eq]
  exact ⟨by omega, by omega⟩
def YaA (n : Nat) (f : Nat → Bool) : List AV := (List.range n).map fun j => AV.d (.bool (f j))
theorem Zw2 {n : Nat} {f : Nat → Bool} {j : Nat} (h : j < n) : (YaA n f)[j]? = some (.d (.bool (f j))) := by
  unfold YaA
  rw [List.getElem?_map, List.getElem?_range h]
  rfl
theorem Ybm {n : Nat} {f : Nat → Bool} {j : Nat} : (YaA n f).set j (.d (.bool true)) = YaA n (fun b => if b = j then true else f b) := by
  apply List.ext_getElem?
  intro k
  rw [List.getElem?_set]
  unfold YaA
  simp only [List.getElem?_map, List.length_map, List.length_range]
  rcases Nat.lt_or_ge k n with hk | hk
  · rw [List.getElem?_range hk]
    by_cases e : j = k
    · subst e; simp [hk]
    · have e2 : k ≠ j := fun h => e h.symm
      simp [e, e2]
  · rw [List.getElem?_eq_none (by simpa using hk)]
    by_cases e : j = k
    · subst e; simp; omega
    · simp [e]
def hS (n : Nat) (f : Nat → Bool) : List AObj := [.arr 0 true (YaA n f)]
def eA (raw : List Cus) (fr : Nat) (v : Value) : List (Nat × SV) := [(0, .val (.d (d44 raw))), (1, .val (.d (.int .i64 fr))), (4, .val (.d (.bool false))), (5, .val (.osl 0 0 raw.length)), (6, .val (.raw v))]
def eB (raw : List Cus) (fr : Nat) (v : Value) : List (Nat × SV) := eA raw fr v ++ [(19, .val (.d (.bool true)))]
def eC (raw : List Cus) (fr : Nat) (v : Value) (i : Nat) : List (Nat × SV) := eB raw fr v ++ [(7, .val (.d (.int .i64 i)))]
def eD (raw : List Cus) (fr : Nat) (v : Value) (i : Nat) (us : List (List UInt8)) : List (Nat × SV) := eC raw fr v i ++ [(8, .val (.d (.slc (us.map DV.str))))]
def eE (raw : List Cus) (fr : Nat) (v : Value) (i : Nat) (us : List (List UInt8)) (k : Nat) : List (Nat × SV) := eD raw fr v i us ++ [(10, .val (.d (.int .i64 k)))]
def eF (raw : List Cus) (fr : Nat) (v : Value) (i : Nat) (us : List (List UInt8)) (k : Nat) : List (Nat × SV) := eE raw fr v i us k ++ [(37, .val (.d (.bool true)))]
def eG (raw : List Cus) (fr : Nat) (v : Value) (i : Nat) (us : List (List UInt8)) (k : Nat) (z : Int) : List (Nat × SV) := eF raw fr v i us k ++ [(11, .val (.d (.int .i64 z)))]
section
attribute [local simp] List.getElem?_cons_zero Option.bind_some Zvk Zeb Zcm Zbk ZfL ZdV ZcD Zjp ZfJ ZdR ZfH ZfF Zjz Zfo Zcf Zbz ZiB ZaB ZaQ Zjf ZaY Zck Zds Zc8 Zce has opx opd opA opD XV.flat XV.copy oD oA Zad ins ZlA ZfR St.put St.putOwn St.lose St.loseEnv unal ZjL Zjr Zpd dUn Zgx Zay Zcb Zbl Zbd ZaR Zch ZbE Zb6 Zig Zbi AV.cells AV.cellOk AV.single DV.cellOk ZuL ZuN Zvp DV.cells ZaJ ZeT ZaK Zb3 ZaL Za3 Zka Za0 Zeh mapO AV.toD ZaA ZbX Zea optD Zcd Za8 ZfD Zam Zb1 Zbo ZaE Zaz Zdi Zc1 Zbn St.trim Out.st
theorem Ya5 {call : Zaa} (raw : List Cus) (fr : Nat) : evQ C call (ann 26) 0 ZzC ⟨ZgN 0 [.d (d44 raw), .d (.int .i64 fr)], [], []⟩ = some (.norm ⟨[(0, .val (.d (d44 raw))), (1, .val (.d (.int .i64 fr))), (4, .val (.d (.bool false)))], [], []⟩) := by
  unfold ZzC B26 Zac Tryz.f26 d44
  simp only [Option.getD_some, sq1, sq2]
  simp [-getElem?_pos, A26, Zai, ZgN]
end
theorem YcG (n : Nat) : List.replicate n (AV.d (.bool false)) = YaA n fun _ => false := by
  apply List.ext_getElem?
  intro k
  unfold YaA
  rw [List.getElem?_map, List.getElem?_replicate]
  rcases Nat.lt_or_ge k n with hk | hk
  · rw [List.getElem?_range hk, if_pos hk]; rfl
  · rw [List.getElem?_eq_none (by simpa using hk), if_neg (by omega)]; rfl
section
attribute [local simp] List.getElem?_cons_zero Option.bind_some Zvk Zeb Zcm Zbk ZfL ZdV ZcD Zjp ZfJ ZdR ZfH ZfF Zjz Zfo Zcf Zbz ZiB ZaB ZaQ Zjf ZaY Zck Zds Zc8 Zce has opx opd opA opD XV.flat XV.copy oD oA Zad ins ZlA ZfR St.put St.putOwn St.lose St.loseEnv unal ZjL Zjr Zpd dUn Zgx Zay Zcb Zbl Zbd ZaR Zch ZbE Zb6 Zig Zbi AV.cells AV.cellOk AV.single DV.cellOk ZuL ZuN Zvp DV.cells ZaJ ZeT ZaK Zb3 ZaL Za3 Zka Za0 Zeh mapO AV.toD ZaA ZbX Zea optD Zcd Za8 ZfD Zam Zb1 Zbo ZaE Zaz Zdi Zc1 Zbn St.trim Out.st
theorem Yba {call : Zaa} (raw : List Cus) (fr : Nat) (hl : raw.length ≤ 2 ^ 40) : evQ C call (ann 26) 0 ZzV ⟨[(0, .val (.d (d44 raw))), (1, .val (.d (.int .i64 fr))), (4, .val (.d (.bool false)))], [], []⟩ =
    some (.norm ⟨[(0, .val (.d (d44 raw))), (1, .val (.d (.int .i64 fr))), (4, .val (.d (.bool false))), (5, .val (.osl 0 0 raw.length))], [], hS raw.length fun _ => false⟩) := by
  have hr := rm77 hl
  unfold ZzV B26 Zac Tryz.f26 d44 hS
  simp only [Option.getD_some, sq1, sq2]
  simp [-getElem?_pos, A26, Zai, ez77, Yem, eo77, hr, ZuX, YcG]
theorem Ya9 {call : Zaa} (raw : List Cus) (fr : Nat) (v : Value) (i : Nat) (us : List (List UInt8)) (h : List AObj) : evQ C call (ann 26) 0 Zv5 ⟨eD raw fr v i us, [], h⟩ = some (.norm ⟨eE raw fr v i us 0, [], h⟩) := by
  unfold Zv5 K26 L26 B26 Zac Tryz.f26 eE eD eC eB eA
  simp only [Option.getD_some, sq1, sq2, inn]
  simp [-getElem?_pos, A26, Zai]
theorem YcS {call : Zaa} (raw : List Cus) (fr : Nat) (v : Value) (i : Nat) (x : Cus) (hx : raw[i]? = some x) (us : List (List UInt8)) (h : List AObj)
    (hc : Zci call true 13 [.slc (x.val.map Val.enc)] = some (.tup [.slc (us.map DV.str), .int .i64 0])) : evQ C call (ann 26) 0 Zwo ⟨eC raw fr v i, [], h⟩ = some (.norm ⟨eD raw fr v i us, [], h⟩) := by
  have hlt : i < raw.length := (List.getElem?_eq_some_iff.1 hx).1
  have hg := ZlX hx
  have hi := YaX hlt
  unfold Zwo K26 L26 B26 Zac Tryz.f26 eD eC eB eA d44
  simp only [Option.getD_some, sq1, sq2, inn]
  simp [-getElem?_pos, A26, Zai, ZuX, hg, hi, hc, ZoV, ZyQ, Zz9, -List.getElem?_map]
theorem ZvG {call : Zaa} (raw : List Cus) (fr : Nat) (v : Value) (i : Nat) (us : List (List UInt8)) (k : Nat) (h : List AObj) : evQ C call (ann 26) 0 ZuB ⟨eE raw fr v i us k, [], h⟩ = some (.norm ⟨eE raw fr v i us k ++ [(37, .val (.d (.bool (decide (k < us.length)))))], [], h⟩) := by
  unfold ZuB Y26 K26 L26 B26 Zac Tryz.f26 eE eD eC eB eA
  simp only [Option.getD_some, sq1, sq2, inn]
  simp [-getElem?_pos, A26, Zai, es31]
theorem Ybr {call : Zaa} (raw : List Cus) (fr : Nat) (v : Value) (i : Nat) (us : List (List UInt8)) (k : Nat) (hk : k < 2 ^ 40) (h : List AObj) : evQ C call (ann 26) 0 ZuK ⟨eF raw fr v i us k, [], h⟩ = some (.norm ⟨eE raw fr v i us (k + 1) ++ [(37, .val (.d (.bool true)))], [], h⟩) := by
  have hw : IntKind.i64.wrap ((k : Int) + 1) = (k : Int) + 1 := Za1 (by omega)
  unfold ZuK Y26 K26 L26 B26 Zac Tryz.f26 eF eE eD eC eB eA
  simp only [Option.getD_some, sq1, sq2, inn]
  simp [-getElem?_pos, A26, Zai, hw]
theorem Zz1 {call : Zaa} (raw : List Cus) (fr : Nat) (v : Value) (i : Nat) (us : List (List UInt8)) (k : Nat) (u : List UInt8) (hu : us[k]? = some u) (z : Int) (h : List AObj) (hc : Zci call true 17 [d44 raw, .str u] = some (.int .i64 z)) :
    evQ C call (ann 26) 0 Zln ⟨eF raw fr v i us k, [], h⟩ = some (.norm ⟨eG raw fr v i us k z, [], h⟩) := by
  have hlt : k < us.length := (List.getElem?_eq_some_iff.1 hu).1
  have hg : (us.map DV.str)[k]? = some (.str u) := by rw [List.getElem?_map, hu]; rfl
  have hi : idx (k : Int) us.length = some k := Ztk hlt
  unfold Zln M26 Y26 K26 L26 B26 Zac Tryz.f26 eG eF eE eD eC eB eA
  simp only [Option.getD_some, sq1, sq2, inn]
  simp [-getElem?_pos, A26, Zai, es31, hg, hi, hc, hz9, ag9, -List.getElem?_map]
theorem ZtZ {call : Zaa} (raw : List Cus) (fr : Nat) (v : Value) (i : Nat) (us : List (List UInt8)) (k : Nat) (z : Int) (h : List AObj) : evQ C call (ann 26) 0 Zk3 ⟨eG raw fr v i us k z, [], h⟩ = some (.norm ⟨eG raw fr v i us k z ++ [(48, .val (.d (.bool (z == (fr : Int)))))], [], h⟩) := by
  unfold Zk3 M26 Y26 K26 L26 B26 Zac Tryz.f26 eG eF eE eD eC eB eA
  simp only [Option.getD_some, sq1, sq2, inn]
  simp [-getElem?_pos, A26, Zai]
end
end Go.Tev.S1
namespace Go.Tev.S1
open Go.Abs Go.Proofs
section
attribute [local simp] List.getElem?_cons_zero Option.bind_some Zvk Zeb Zcm Zbk ZfL ZdV ZcD Zjp ZfJ ZdR ZfH ZfF Zjz Zfo Zcf Zbz ZiB ZaB ZaQ Zjf ZaY Zck Zds Zc8 Zce has opx opd opA opD XV.flat XV.copy oD oA Zad ins ZlA ZfR St.put St.putOwn St.lose St.loseEnv unal ZjL Zjr Zpd dUn Zgx Zay Zcb Zbl Zbd ZaR Zch ZbE Zb6 Zig Zbi AV.cells AV.cellOk AV.single DV.cellOk ZuL ZuN Zvp DV.cells ZaJ ZeT ZaK Zb3 ZaL Za3 Zka Za0 Zeh mapO AV.toD ZaA ZbX Zea optD Zcd Za8 ZfD Zam Zb1 Zbo ZaE Zaz Zdi Zc1 Zbn St.trim Out.st
theorem Zy5 {call : Zaa} (raw : List Cus) (fr : Nat) (v : Value) (i : Nat) (us : List (List UInt8)) (k : Nat) (z : Int) (h : List AObj) : evQ C call (ann 26) 0 ZlM ⟨eG raw fr v i us k z ++ [(48, .val (.d (.bool true)))], [], h⟩ = some (.norm ⟨Zgx (eG raw fr v i us k z ++ [(48, .val (.d (.bool true)))]) 4 (.val (.d (.bool true))), [], h⟩) := by
  unfold ZlM M26 Y26 K26 L26 B26 Zac Tryz.f26 eG eF eE eD eC eB eA
  simp only [Option.getD_some, sq1, sq2, inn, cn1]
  simp [-getElem?_pos, A26, Zai]
def eH (raw : List Cus) (fr : Nat) (v : Value) (i : Nat) (us : List (List UInt8)) (k : Nat) (z : Int) : List (Nat × SV) := eG raw fr v i us k z ++ [(48, .val (.d (.bool false)))]
theorem ZvS {call : Zaa} (raw : List Cus) (fr : Nat) (v : Value) (i : Nat) (us : List (List UInt8)) (k : Nat) (z : Int) (hz : z < 0) (h : List AObj) : evQ C call (ann 26) 0 ZiM ⟨eH raw fr v i us k z, [], h⟩ = some (.norm ⟨eH raw fr v i us k z ++ [(57, .val (.d (.bool false)))], [], h⟩) := by
  have hd : decide (z ≥ 0) = false := by simp; omega
  have hn : ¬ (0 ≤ z) := by omega
  unfold ZiM M26 Y26 K26 L26 B26 Zac Tryz.f26 eH eG eF eE eD eC eB eA
  simp only [Option.getD_some, sq1, sq2, inn]
  simp [-getElem?_pos, A26, Zai, hd, hn, hz]
theorem ZwJ {call : Zaa} (raw : List Cus) (fr : Nat) (v : Value) (i : Nat) (us : List (List UInt8)) (k : Nat) (z : Nat) (f : Nat → Bool) (hz : z < raw.length) : evQ C call (ann 26) 0 ZiM ⟨eH raw fr v i us k z, [], hS raw.length f⟩ = some (.norm ⟨eH raw fr v i us k z ++ [(57, .val (.d (.bool (!f z))))], [], hS raw.length f⟩) := by
  have hi : idx (z : Int) raw.length = some z := Ztk hz
  have hg := Zw2 (f := f) hz
  unfold ZiM M26 Y26 K26 L26 B26 Zac Tryz.f26 eH eG eF eE eD eC eB eA hS
  simp only [Option.getD_some, sq1, sq2, inn]
  simp [-getElem?_pos, A26, Zai, Yem, Zeg, hi, hg, ag4z]
theorem Zzv {call : Zaa} (raw : List Cus) (fr : Nat) (v : Value) (i : Nat) (us : List (List UInt8)) (k : Nat) (z : Nat) (f : Nat → Bool) (hz : z < raw.length) : evQ C call (ann 26) 0 ZkX ⟨eH raw fr v i us k z ++ [(57, .val (.d (.bool true)))], [], hS raw.length f⟩ =
    some (.norm ⟨eH raw fr v i us k z ++ [(57, .val (.d (.bool true)))], [], hS raw.length fun b => if b = z then true else f b⟩) := by
  have hi : idx (z : Int) raw.length = some z := Ztk hz
  have hg := Zw2 (f := f) hz
  have hs := Ybm (n := raw.length) (f := f) (j := z)
  unfold ZkX M26 Y26 K26 L26 B26 Zac Tryz.f26 eH eG eF eE eD eC eB eA hS
  simp only [Option.getD_some, sq1, sq2, inn, cn1]
  simp [-getElem?_pos, A26, Zai, Yem, Zeg, hi, hg, ag4z, sz4z, Zd7, Zp0, hs]
theorem ZyY {call : Zaa} (raw : List Cus) (fr : Nat) (v : Value) (h : List AObj) : evQ C call (ann 26) 0 ZsA ⟨eA raw fr v, [], h⟩ = some (.norm ⟨eA raw fr v, [], h⟩) := by
  unfold ZsA B26 Zac Tryz.f26 eA
  simp only [Option.getD_some, sq1, sq2]
  simp [-getElem?_pos, A26, Zai]
noncomputable abbrev nth (c : Code) (k : Nat) : Oper := op0 ((opsL c).drop k)
theorem q26_2 : Zio = .region 2 (ops Zio) false ∧ (ops Zio).toList = (opsL Zio).take 1 ++ nth Zio 1 :: (opsL Zio).drop 2 := ⟨by kernel_rfl, by kernel_rfl⟩
theorem q26_3 : ZhH = .region 3 (ops ZhH) false ∧ (ops ZhH).toList = (opsL ZhH).take 1 ++ nth ZhH 1 :: (opsL ZhH).drop 2 := ⟨by kernel_rfl, by kernel_rfl⟩
theorem q26_4 : Zgu = .region 4 (ops Zgu) false ∧ (ops Zgu).toList = (opsL Zgu).take 1 ++ nth Zgu 1 :: (opsL Zgu).drop 2 := ⟨by kernel_rfl, by kernel_rfl⟩
theorem q26_5 : Zgw = .region 5 (ops Zgw) false ∧ (ops Zgw).toList = (opsL Zgw).take 1 ++ nth Zgw 1 :: (opsL Zgw).drop 2 := ⟨by kernel_rfl, by kernel_rfl⟩
theorem q26_15 : Zcr = .region 15 (ops Zcr) false ∧ (ops Zcr).toList = (opsL Zcr).take 3 ++ nth Zcr 3 :: (opsL Zcr).drop 4 := ⟨by kernel_rfl, by kernel_rfl⟩
theorem YeG : (nth Zio 1).guard = none ∧ (nth Zio 1).dst = some 16 ∧ (nth Zio 1).op = .buildSlice 78 1 #[(0, .tmp 15)] := ⟨by kernel_rfl, by kernel_rfl, by kernel_rfl⟩
theorem YeH : (nth ZhH 1).guard = none := by kernel_rfl
theorem Yee : (nth Zgu 1).guard = none := by kernel_rfl
theorem Yek : (nth Zgw 1).guard = none ∧ (nth Zgw 1).dst = some 24 ∧ (nth Zgw 1).op = .slice 78 (.tmp 23) (some (.const (.int .i64 1))) none none := ⟨by kernel_rfl, by kernel_rfl, by kernel_rfl⟩
theorem YdW : (nth Zcr 3).guard = none ∧ (nth Zcr 3).dst = some 64 ∧ (nth Zcr 3).op = .call { callee := .builtin .append, args := #[.tmp 61, .tmp 63], argTypes := #[78, 78] } := ⟨by kernel_rfl, by kernel_rfl, by kernel_rfl⟩
theorem Yei {call : Zaa} {all : List Oper} (raw : List Cus) (fr : Nat) (h : List AObj) : Zai C call (ann 26) all ((opsL Zio).take 1) ⟨[(0, .val (.d (d44 raw))), (1, .val (.d (.int .i64 fr))), (4, .val (.d (.bool false))), (5, .val (.osl 0 0 raw.length))], [], h⟩ =
    some ⟨[(0, .val (.d (d44 raw))), (1, .val (.d (.int .i64 fr))), (4, .val (.d (.bool false))), (5, .val (.osl 0 0 raw.length))], [(15, .a (.d (.int .i64 fr)))], h⟩ := by
  unfold opsL ops Zio B26 Zac Tryz.f26
  simp only [Option.getD_some, sq1, sq2, List.take]
  simp [-getElem?_pos, A26, Zai]
theorem Yer (raw : List Cus) (fr : Nat) (h : List AObj) : Zam C 78 1 ⟨[(0, .val (.d (d44 raw))), (1, .val (.d (.int .i64 fr))), (4, .val (.d (.bool false))), (5, .val (.osl 0 0 raw.length))], [(15, .a (.d (.int .i64 fr)))], h⟩ [(0, .tmp 15)] = some [.int .i64 fr] := by
  simp [-getElem?_pos, A26, YdF, hz78]
theorem YeW {call : Zaa} {all : List Oper} (raw : List Cus) (fr : Nat) (v : Value) (h : List AObj) : Zai C call (ann 26) all ((opsL Zio).drop 2) ⟨[(0, .val (.d (d44 raw))), (1, .val (.d (.int .i64 fr))), (4, .val (.d (.bool false))), (5, .val (.osl 0 0 raw.length))], [(16, .a (.raw v)), (15, .a (.d (.int .i64 fr)))], h⟩ =
    some ⟨eA raw fr v, [(16, .a (.raw v)), (15, .a (.d (.int .i64 fr)))], h⟩ := by
  unfold opsL ops Zio B26 Zac Tryz.f26 eA
  simp only [Option.getD_some, sq1, sq2, List.drop]
  simp [-getElem?_pos, A26, Zai]
theorem YeL {call : Zaa} {all : List Oper} (raw : List Cus) (fr : Nat) (v : Value) (h : List AObj) : Zai C call (ann 26) all ((opsL ZhH).take 1) ⟨eA raw fr v, [], h⟩ = some ⟨eA raw fr v, [(17, .a (.raw v))], h⟩ := by
  unfold opsL ops ZhH L26 B26 Zac Tryz.f26 eA
  simp only [Option.getD_some, sq1, sq2, inn, List.take]
  simp [-getElem?_pos, A26, Zai]
theorem Yeo {call : Zaa} (raw : List Cus) (fr : Nat) (v : Value) (qs : List Int) (h : List AObj) : Zjf C call (ann 26) (nth ZhH 1) ⟨eA raw fr v, [(17, .a (.d (ints qs)))], h⟩ = some ⟨eA raw fr v, [(18, .a (.d (.int .i64 qs.length))), (17, .a (.d (ints qs)))], h⟩ := by
  unfold nth op0 opsL ops ZhH L26 B26 Zac Tryz.f26 eA ints
  simp only [Option.getD_some, sq1, sq2, inn, List.drop, List.headD]
  simp [-getElem?_pos, A26, Zai, YdF]
theorem YeZ {call : Zaa} {all : List Oper} (raw : List Cus) (fr : Nat) (v : Value) (qs : List Int) (h : List AObj) : Zai C call (ann 26) all ((opsL ZhH).drop 2) ⟨eA raw fr v, [(18, .a (.d (.int .i64 qs.length))), (17, .a (.d (ints qs)))], h⟩ =
    some ⟨eA raw fr v ++ [(19, .val (.d (.bool (decide (0 < qs.length)))))], [(18, .a (.d (.int .i64 qs.length))), (17, .a (.d (ints qs)))], h⟩ := by
  unfold opsL ops ZhH L26 B26 Zac Tryz.f26 eA
  simp only [Option.getD_some, sq1, sq2, inn, List.drop]
  simp [-getElem?_pos, A26, Zai]
theorem Yex {call : Zaa} {all : List Oper} (raw : List Cus) (fr : Nat) (v : Value) (h : List AObj) : Zai C call (ann 26) all ((opsL Zgu).take 1) ⟨eB raw fr v, [], h⟩ = some ⟨eB raw fr v, [(20, .a (.raw v))], h⟩ := by
  unfold opsL ops Zgu K26 L26 B26 Zac Tryz.f26 eB eA
  simp only [Option.getD_some, sq1, sq2, inn, List.take]
  simp [-getElem?_pos, A26, Zai]
theorem Yeh {call : Zaa} (raw : List Cus) (fr : Nat) (v : Value) (i : Int) (qs : List Int) (h : List AObj) : Zjf C call (ann 26) (nth Zgu 1) ⟨eB raw fr v, [(20, .a (.d (ints (i :: qs))))], h⟩ = some ⟨eB raw fr v, [(21, .fp [.int .i64 i]), (20, .a (.d (ints (i :: qs))))], h⟩ := by
  have h0 : idx 0 (qs.length + 1) = some 0 := by unfold idx; rw [if_pos (by constructor <;> omega)]; rfl
  unfold nth op0 opsL ops Zgu K26 L26 B26 Zac Tryz.f26 eB eA ints
  simp only [Option.getD_some, sq1, sq2, inn, List.drop, List.headD]
  simp [-getElem?_pos, A26, Zai, YdF, h0]
theorem YeC {call : Zaa} {all : List Oper} (raw : List Cus) (fr : Nat) (v : Value) (i : Nat) (qs : List Int) (h : List AObj) : ∃ tm, Zai C call (ann 26) all ((opsL Zgu).drop 2) ⟨eB raw fr v, [(21, .fp [.int .i64 i]), (20, .a (.d (ints ((i : Int) :: qs))))], h⟩ = some ⟨eC raw fr v i, tm, h⟩ := by
  refine ⟨[(22, .a (.d (.int .i64 i))), (21, .fp [.int .i64 i]), (20, .a (.d (ints ((i : Int) :: qs))))], ?_⟩
  unfold opsL ops Zgu K26 L26 B26 Zac Tryz.f26 eC eB eA
  simp only [Option.getD_some, sq1, sq2, inn, List.drop]
  simp [-getElem?_pos, A26, Zai, ag3]
theorem YeT {call : Zaa} {all : List Oper} (raw : List Cus) (fr : Nat) (v : Value) (i : Nat) (h : List AObj) : Zai C call (ann 26) all ((opsL Zgw).take 1) ⟨eC raw fr v i, [], h⟩ = some ⟨eC raw fr v i, [(23, .a (.raw v))], h⟩ := by
  unfold opsL ops Zgw K26 L26 B26 Zac Tryz.f26 eC eB eA
  simp only [Option.getD_some, sq1, sq2, inn, List.take]
  simp [-getElem?_pos, A26, Zai]
theorem Yej {call : Zaa} {all : List Oper} (raw : List Cus) (fr : Nat) (v v' : Value) (i : Nat) (h : List AObj) : ∃ tm, Zai C call (ann 26) all ((opsL Zgw).drop 2) ⟨eC raw fr v i, [(24, .a (.raw v')), (23, .a (.raw v))], h⟩ = some ⟨eC raw fr v' i, tm, h⟩ := by
  refine ⟨[(24, .a (.raw v')), (23, .a (.raw v))], ?_⟩
  unfold opsL ops Zgw K26 L26 B26 Zac Tryz.f26 eC eB eA
  simp only [Option.getD_some, sq1, sq2, inn, List.drop]
  simp [-getElem?_pos, A26, Zai]
def eI (raw : List Cus) (fr : Nat) (v : Value) (i : Nat) (us : List (List UInt8)) (k : Nat) (z : Int) : List (Nat × SV) := eH raw fr v i us k z ++ [(57, .val (.d (.bool true)))]
theorem YdE {call : Zaa} {all : List Oper} (raw : List Cus) (fr : Nat) (v : Value) (i : Nat) (us : List (List UInt8)) (k : Nat) (z : Int) (h : List AObj) : Zai C call (ann 26) all ((opsL Zcr).take 3) ⟨eI raw fr v i us k z, [], h⟩ =
    some ⟨eI raw fr v i us k z, [(63, .a (.d (.slc [.int .i64 z]))), (62, .a (.d (.int .i64 z))), (61, .a (.raw v))], h⟩ := by
  unfold opsL ops Zcr M26 Y26 K26 L26 B26 Zac Tryz.f26 eI eH eG eF eE eD eC eB eA
  simp only [Option.getD_some, sq1, sq2, inn, cn1, List.take]
  simp [-getElem?_pos, A26, Zai, YdF, hz78]
theorem YdC {call : Zaa} {all : List Oper} (raw : List Cus) (fr : Nat) (v v' : Value) (i : Nat) (us : List (List UInt8)) (k : Nat) (z : Int) (h : List AObj) : ∃ tm, Zai C call (ann 26) all ((opsL Zcr).drop 4) ⟨eI raw fr v i us k z, [(64, .a (.raw v')), (63, .a (.d (.slc [.int .i64 z]))), (62, .a (.d (.int .i64 z))), (61, .a (.raw v))], h⟩ = some ⟨eI raw fr v' i us k z, tm, h⟩ := by
  refine ⟨[(64, .a (.raw v')), (63, .a (.d (.slc [.int .i64 z]))), (62, .a (.d (.int .i64 z))), (61, .a (.raw v))], ?_⟩
  unfold opsL ops Zcr M26 Y26 K26 L26 B26 Zac Tryz.f26 eI eH eG eF eE eD eC eB eA
  simp only [Option.getD_some, sq1, sq2, inn, cn1, List.drop]
  simp [-getElem?_pos, A26, Zai]
end
end Go.Tev.S1
namespace Go.Abs
theorem ZwG {C : Ctx} {fa : FA} {c : Code} {st : St} {Q : Out → Prop} (h : ∀ w0 ZbW, TJ C fa w0 ZbW st.heap c st none (fun o _ => Q o)) : Tri C fa c st Q := fun own a w S =>
  wp_mono (h w own own a w ⟨S, .refl w own, (Grow.refl w).extA own _, trivial⟩) fun e a' w' ⟨o, q', hq, he, own', J⟩ => ⟨o, hq, he, own', J.s, J.f, J.e⟩
end Go.Abs
namespace Go.Tev.S1
open Go.Abs Go.Proofs
inductive Way (A : Nat → Nat → Prop) (a : Nat) : Nat → Prop where
  | one {b : Nat} (h : A a b) : Way A a b
  | snoc {b c : Nat} (t : Way A a b) (h : A b c) : Way A a c
def un : Nat → (Nat → Bool) → Nat
  | 0, _ => 0
  | n + 1, f => un n f + (if f n = true then 0 else 1)
def mark (f : Nat → Bool) (y : Nat) : Nat → Bool := fun b => if b = y then true else f b
theorem Zt2 {f : Nat → Bool} {y : Nat} : ∀ {n : Nat}, n ≤ y → un n (mark f y) = un n f
  | 0, _ => rfl
  | n + 1, h => by
    have e : mark f y n = f n := by unfold mark; rw [if_neg (by omega)]
    rw [un, un, Zt2 (by omega), e]
theorem ZxS {f : Nat → Bool} {y : Nat} (hf : f y = false) : ∀ {n : Nat}, y < n → un n (mark f y) + 1 = un n f
  | n + 1, h => by
    rw [un, un]
    by_cases e : y = n
    · subst e
      rw [Zt2 (Nat.le_refl _), show mark f y y = true by simp [mark], hf]
      simp
    · have e2 : mark f y n = f n := by unfold mark; rw [if_neg (by omega)]
      have := ZxS hf (n := n) (by omega)
      rw [e2]
      omega
def Adj (raw : List Cus) (a b : Nat) : Prop := ∃ x, raw[a]? = some x ∧ ∃ u ∈ ZaX x.val, Zc7 raw u 0 = (b : Int)
structure Srch (A : Nat → Nat → Prop) (fr n : Nat) (qs : List Nat) (f : Nat → Bool) : Prop where
  lt : ∀ x ∈ qs, x < n ∧ (x = fr ∨ f x = true)
  way : ∀ x, f x = true → Way A fr x
def Cl (A : Nat → Nat → Prop) (fr : Nat) (f : Nat → Bool) (x : Nat) : Prop := ∀ y, A x y → y ≠ fr ∧ f y = true
theorem Zwn (f : Nat → Bool) (y : Nat) : mark f y y = true := by simp [mark]
theorem Ziw {f : Nat → Bool} {y x : Nat} (h : f x = true) : mark f y x = true := by
  unfold mark; split
  · rfl
  · exact h
theorem Cl.mono {A : Nat → Nat → Prop} {fr : Nat} {f : Nat → Bool} {x y : Nat} (h : Cl A fr f x) : Cl A fr (mark f y) x := fun z hz => ⟨(h z hz).1, Ziw (h z hz).2⟩
theorem Zzo {A : Nat → Nat → Prop} {fr : Nat} {f : Nat → Bool} (h : ∀ x, x = fr ∨ f x = true → Cl A fr f x) : ¬ Way A fr fr := by
  have : ∀ b, Way A fr b → b ≠ fr ∧ f b = true := by
    intro b hb
    induction hb with
    | one e => exact h fr (.inl rfl) _ e
    | snoc t e ih => exact h _ (.inr ih.2) _ e
  exact fun hw => (this fr hw).1 rfl
theorem ZsC (raw : List Cus) (u : List UInt8) : ∀ b : Int, Zc7 raw u b = -1 ∨ (b ≤ Zc7 raw u b ∧ Zc7 raw u b < b + raw.length) := by
  induction raw with
  | nil => intro b; exact .inl rfl
  | cons x r ih =>
    intro b
    simp only [Zc7]
    cases x.name == u with
    | true => right; simp only [if_true, List.length_cons]; constructor <;> omega
    | false =>
      simp only [Bool.false_eq_true, if_false, List.length_cons]
      rcases ih (b + 1) with h | ⟨h1, h2⟩
      · exact .inl h
      · exact .inr ⟨by omega, by omega⟩
theorem ZsY : ∀ {raw : List Cus}, (raw.map Cus.name).Nodup → ∀ (u : List UInt8) (k : Int) (b : Nat), Zc7 raw u k = k + b ↔ (∃ y, raw[b]? = some y ∧ y.name = u) ∨ (Zc7 raw u k = -1 ∧ k + b = -1)
  | [], _, u, k, b => by simp [Zc7]; omega
  | x :: r, hn, u, k, b => by
    simp only [List.map_cons, List.nodup_cons] at hn
    simp only [Zc7]
    cases e : (x.name == u) with
    | true =>
      have hx : x.name = u := by simpa using e
      simp only [if_true]
      constructor
      · intro h
        have : b = 0 := by omega
        subst this
        exact .inl ⟨x, rfl, hx⟩
      · rintro (⟨y, h1, h2⟩ | ⟨h1, h2⟩)
        · rcases b with _ | b
          · simp
          · rw [List.getElem?_cons_succ] at h1
            exact absurd (List.mem_map.2 ⟨y, List.mem_of_getElem? h1, by rw [h2, hx]⟩) hn.1
        · omega
    | false =>
      have hx : x.name ≠ u := by simpa using e
      simp only [Bool.false_eq_true, if_false]
      have ih := ZsY hn.2 u (k + 1)
      rcases b with _ | b
      · constructor
        · intro h
          rcases ZsC r u (k + 1) with h1 | ⟨h1, _⟩
          · exact .inr ⟨h1, by omega⟩
          · omega
        · rintro (⟨y, h1, h2⟩ | ⟨h1, h2⟩)
          · rw [List.getElem?_cons_zero] at h1; cases h1; exact absurd h2 hx
          · omega
      · have := ih b
        rw [List.getElem?_cons_succ, show k + ((b + 1 : Nat) : Int) = k + 1 + b by omega]
        exact this
theorem ZgO {raw : List Cus} (hn : (raw.map Cus.name).Nodup) (u : List UInt8) (b : Nat) : Zc7 raw u 0 = (b : Int) ↔ ∃ y, raw[b]? = some y ∧ y.name = u := by
  have := ZsY hn u 0 b
  rw [Int.zero_add] at this
  rw [this]
  constructor
  · rintro (h | ⟨_, h⟩)
    · exact h
    · omega
  · exact .inl
theorem ZyV {raw : List Cus} (hn : (raw.map Cus.name).Nodup) {a b : Nat} {x y : Cus} (hx : raw[a]? = some x) (hy : raw[b]? = some y) (h : Way (Adj raw) a b) : Path (ZaS raw) x.name y.name := by
  have edge : ∀ {a b : Nat} {x y : Cus}, raw[a]? = some x → raw[b]? = some y → Adj raw a b → Edge (ZaS raw) x.name y.name := by
    intro a b x y hx hy ⟨x', h1, u, hu, h2⟩
    rw [hx] at h1; cases h1
    obtain ⟨y', h3, h4⟩ := (ZgO hn u b).1 h2
    rw [hy] at h3; cases h3
    subst h4
    exact (Zfe hn (List.mem_of_getElem? hx)).2 ⟨hu, List.mem_map.2 ⟨y, List.mem_of_getElem? hy, rfl⟩⟩
  induction h generalizing y with
  | one e => exact .one (edge hx hy e)
  | @snoc m c t e ih =>
    have e' := e
    obtain ⟨z, hz, _⟩ := e'
    exact (ih hz).trans (.one (edge hz hy e))
theorem ZzK {raw : List Cus} (hn : (raw.map Cus.name).Nodup) {p q : List UInt8} (h : Path (ZaS raw) p q) : ∀ {a : Nat} {x : Cus}, raw[a]? = some x → x.name = p → ∃ b y, raw[b]? = some y ∧ y.name = q ∧ Way (Adj raw) a b := by
  have edge : ∀ {p q : List UInt8}, Edge (ZaS raw) p q → ∀ {a : Nat} {x : Cus}, raw[a]? = some x → x.name = p → ∃ b y, raw[b]? = some y ∧ y.name = q ∧ Adj raw a b := by
    intro p q he a x hx hp
    subst hp
    obtain ⟨h1, h2⟩ := (Zfe hn (List.mem_of_getElem? hx)).1 he
    obtain ⟨y, hy, rfl⟩ := List.mem_map.1 h2
    obtain ⟨b, hb⟩ := List.mem_iff_getElem?.1 hy
    exact ⟨b, y, hb, rfl, x, hx, y.name, h1, (ZgO hn _ b).2 ⟨y, hb, rfl⟩⟩
  have pre : ∀ {A : Nat → Nat → Prop} {a b c : Nat}, A a b → Way A b c → Way A a c := by
    intro A a b c h t
    induction t with
    | one e => exact .snoc (.one h) e
    | snoc t e ih => exact .snoc ih e
  induction h with
  | one e => intro a x hx hp; obtain ⟨b, y, h1, h2, h3⟩ := edge e hx hp; exact ⟨b, y, h1, h2, .one h3⟩
  | step e t ih =>
    intro a x hx hp
    obtain ⟨b, y, h1, h2, h3⟩ := edge e hx hp
    obtain ⟨c, z, h4, h5, h6⟩ := ih h1 h2
    exact ⟨c, z, h4, h5, pre h3 h6⟩
theorem ZtU {raw : List Cus} (hn : (raw.map Cus.name).Nodup) {a : Nat} {x : Cus} (hx : raw[a]? = some x) : Zpb raw x.name ↔ Way (Adj raw) a a := by
  constructor
  · intro h
    obtain ⟨b, y, h1, h2, h3⟩ := ZzK hn h hx rfl
    have : b = a := by
      have e1 := (ZgO hn x.name b).2 ⟨y, h1, h2⟩
      have e2 := (ZgO hn x.name a).2 ⟨x, hx, rfl⟩
      rw [e1] at e2
      exact Int.ofNat.inj e2
    rw [this] at h3
    exact h3
  · intro h
    exact ZyV hn hx hx h
theorem ZvE (raw : List Cus) (hl : raw.length ≤ B) (u : List UInt8) : Zci (Zab C K0) true 17 [d44 raw, .str u] = some (.int .i64 (Zc7 raw u 0)) := by
  obtain ⟨d, h1, h2⟩ := Yax Zjt [.l 39 raw, .s u] (raw, u) _ [d44 raw, .str u] _ rfl rfl (Ztf hl) rfl
  cases h1
  exact ZgJ h2
theorem Zw0 {l : List Val} (hl : Zaq l ≤ B) (hc : Zba l = 0) : Zci (Zab C K0) true 13 [.slc (l.map Val.enc)] = some (.tup [.slc ((Zde (ZaX l)).map DV.str), .int .i64 0]) := by
  have he : Zsi l = (Zde (ZaX l), 0) := by unfold Zsi; rw [if_neg (by simpa using hc)]
  obtain ⟨d, h1, h2⟩ := Zm0 Zjt Zxt [.l 51 l] l (show List (List UInt8) × Int from (Zde (ZaX l), 0)) [.slc (l.map Val.enc)] _ rfl rfl (show Zj3 l = some (Zde (ZaX l), 0) by rw [ZqG hl, he]) rfl
  cases h1
  exact ZgJ h2
section
variable {raw c : List Cus} {fr : Nat} {w0 : World} {ZbW : Own} {h0 : List AObj}
def OI (raw : List Cus) (fr : Nat) (m : Nat) (s : St) (q : Option (Value × List Int)) : Prop := ∃ v qs f, s = ⟨eA raw fr v, [], hS raw.length f⟩ ∧ q = some (v, qs.map Int.ofNat) ∧ Srch (Adj raw) fr raw.length qs f ∧
  (∀ x, x = fr ∨ f x = true → x ∈ qs ∨ Cl (Adj raw) fr f x) ∧ qs.length + un raw.length f = m
end
end Go.Tev.S1
namespace Go.Abs
theorem Zgn {C : Ctx} {call : Zaa} {fa : FA} {w0 : World} {ZbW : Own} {h0 : List AObj} {x y : Code} {st s : St} {q : Option (Value × List Int)} {Q : Out → Option (Value × List Int) → Prop} (hn : Za4 C.P) (hm : C.P.follows .mixedOrders = true) (hK : Za2 C.P call) {n : Nat}
    (hok : okC fa x = true) (h : evQ C call fa n x st = some (.norm s)) (h2 : TJ C fa w0 ZbW h0 y s q Q) : TJ C fa w0 ZbW h0 (.seq x y) st q Q :=
  Zgp (Q2 := fun o q' => o = .norm s ∧ q' = q) (Zyj hn hm hK hok h ⟨rfl, rfl⟩) (fun s' q' hs => by obtain ⟨h1, rfl⟩ := hs; cases h1; exact h2) (fun o q' h1 h2 => absurd h1.1 (h2 _))
end Go.Abs
namespace Go.Tev.S1
open Go.Abs Go.Proofs
section
variable {raw c : List Cus} {fr : Nat} {w0 : World} {ZbW : Own} {h0 : List AObj}
noncomputable abbrev Yd4 : FA := C.ann 26
structure Ins (raw : List Cus) (fr i : Nat) (us : List (List UInt8)) (k m : Nat) (qs : List Nat) (f : Nat → Bool) : Prop where
  s : Srch (Adj raw) fr raw.length qs f
  cl : ∀ x, x = fr ∨ f x = true → x = i ∨ x ∈ qs ∨ Cl (Adj raw) fr f x
  hi : i = fr ∨ f i = true
  dn : ∀ u ∈ us.take k, ∀ y : Nat, Zc7 raw u 0 = (y : Int) → y ≠ fr ∧ f y = true
  ct : qs.length + un raw.length f = m
theorem Ins.next {i : Nat} {us : List (List UInt8)} {k m : Nat} {qs : List Nat} {f : Nat → Bool} (I : Ins raw fr i us k m qs f) {u : List UInt8} (hu : us[k]? = some u) (h : ∀ y : Nat, Zc7 raw u 0 = (y : Int) → y ≠ fr ∧ f y = true) : Ins raw fr i us (k + 1) m qs f := by
  refine ⟨I.s, I.cl, I.hi, fun u' hu' y hy => ?_, I.ct⟩
  rw [List.take_add_one, hu] at hu'
  rcases List.mem_append.1 hu' with h1 | h1
  · exact I.dn u' h1 y hy
  · simp only [Option.toList_some, List.mem_singleton] at h1
    subst h1
    exact h y hy
theorem Ins.push {i : Nat} {us : List (List UInt8)} {k m : Nat} {qs : List Nat} {f : Nat → Bool} (I : Ins raw fr i us k m qs f) {y : Nat} (hy : y < raw.length) (hf : f y = false) (ha : Adj raw i y) : Ins raw fr i us k m (qs ++ [y]) (mark f y) := by
  refine ⟨⟨fun x hx => ?_, fun x hx => ?_⟩, fun x hx => ?_, I.hi.imp id Ziw, fun u hu z hz => ⟨(I.dn u hu z hz).1, Ziw (I.dn u hu z hz).2⟩, ?_⟩
  · rcases List.mem_append.1 hx with h | h
    · exact ⟨(I.s.lt x h).1, (I.s.lt x h).2.imp id Ziw⟩
    · simp only [List.mem_singleton] at h
      subst h
      exact ⟨hy, .inr (Zwn f x)⟩
  · by_cases e : x = y
    · subst e
      rcases I.hi with h | h
      · subst h; exact .one ha
      · exact .snoc (I.s.way i h) ha
    · refine I.s.way x ?_
      unfold mark at hx
      rwa [if_neg e] at hx
  · by_cases e : x = y
    · exact .inr (.inl (List.mem_append.2 (.inr (by simp [e]))))
    · have hx' : x = fr ∨ f x = true := by
        unfold mark at hx
        rwa [if_neg e] at hx
      rcases I.cl x hx' with h | h | h
      · exact .inl h
      · exact .inr (.inl (List.mem_append.2 (.inl h)))
      · exact .inr (.inr h.mono)
  · have := ZxS hf hy
    have := I.ct
    rw [List.length_append, List.length_singleton]
    omega
def II' (raw : List Cus) (fr i : Nat) (us : List (List UInt8)) (m : Nat) (j : Nat) (s : St) (q : Option (Value × List Int)) : Prop := ∃ k v qs f, s = ⟨eE raw fr v i us k, [], hS raw.length f⟩ ∧ q = some (v, qs.map Int.ofNat) ∧ Ins raw fr i us k m qs f ∧ k ≤ us.length ∧ us.length - k = j
def QI (raw : List Cus) (fr i : Nat) (us : List (List UInt8)) (m : Nat) : Out → Option (Value × List Int) → Prop
  | .ret s, _ => (Zad s.env 4 = some (.val (.d (.bool true))) ∧ s.tmp = []) ∧ Way (Adj raw) fr fr
  | .exit 2 s, q => ∃ v qs f, s = ⟨eE raw fr v i us us.length ++ [(37, .val (.d (.bool false)))], [], hS raw.length f⟩ ∧ q = some (v, qs.map Int.ofNat) ∧ Ins raw fr i us us.length m qs f
  | _, _ => False
def QM (raw : List Cus) (fr i : Nat) (us : List (List UInt8)) (k m : Nat) : Out → Option (Value × List Int) → Prop
  | .ret s, _ => (Zad s.env 4 = some (.val (.d (.bool true))) ∧ s.tmp = []) ∧ Way (Adj raw) fr fr
  | .norm s, q => ∃ v qs f, s = ⟨eF raw fr v i us k, [], hS raw.length f⟩ ∧ q = some (v, qs.map Int.ofNat) ∧ Ins raw fr i us (k + 1) m qs f
  | _, _ => False
theorem Zk4 (raw : List Cus) (u : List UInt8) : Zc7 raw u 0 = -1 ∨ ∃ y : Nat, Zc7 raw u 0 = (y : Int) ∧ y < raw.length := by
  rcases ZsC raw u 0 with h | ⟨h1, h2⟩
  · exact .inl h
  · exact .inr ⟨(Zc7 raw u 0).toNat, by omega, by omega⟩
theorem YdV (hl : raw.length ≤ B) {i : Nat} {x : Cus} (hx : raw[i]? = some x) {us : List (List UInt8)} (hus : ∀ u ∈ us, u ∈ ZaX x.val) {k m : Nat} {v : Value} {qs : List Nat} {f : Nat → Bool} (I : Ins raw fr i us k m qs f) {u : List UInt8} (hu : us[k]? = some u) (hq40 : qs.length ≤ 2 ^ 30) :
    TJ C Yd4 w0 ZbW h0 (.block 3 (.seq Zln (.seq (.seq Zk3 (.cond (.tmp 48) (.seq ZlM .ret) .skip)) (.seq ZiM (.cond (.tmp 57) (.seq ZkX Zcr) .skip))))) ⟨eF raw fr v i us k, [], hS raw.length f⟩ (some (v, qs.map Int.ofNat)) (QM raw fr i us k m) := by
  obtain ⟨_, _, _, _, _, _, o10, o11, o12, o13, o14, _⟩ := Yas
  have hadj : ∀ y : Nat, Zc7 raw u 0 = (y : Int) → Adj raw i y := fun y hy => ⟨x, hx, u, hus u (List.mem_of_getElem? hu), hy⟩
  refine ZkP ?_
  refine Zgn (call := Zab C K0) Zae mixed Zag o10 (Zz1 raw fr v i us k u hu _ _ (ZvE raw hl u)) ?_
  by_cases hz : Zc7 raw u 0 = (fr : Int)
  · have hb : (Zc7 raw u 0 == (fr : Int)) = true := by rw [hz]; simp
    have hw : Way (Adj raw) fr fr := by
      rcases I.hi with h | h
      · have := hadj fr hz; rw [h] at this; exact .one this
      · exact .snoc (I.s.way i h) (hadj fr hz)
    refine Zgp (Q2 := fun o _ => ∃ s, o = .ret s ∧ Zad s.env 4 = some (.val (.d (.bool true))) ∧ s.tmp = []) ?_ (fun s q' h => by obtain ⟨_, h, _⟩ := h; cases h) (fun o q' h h2 => ?_)
    · refine Zgn (call := Zab C K0) Zae mixed Zag o11 (ZtZ raw fr v i us k _ _) ?_
      refine Zf6 (b := true) (by rw [hb]; rfl) ?_
      simp only [cond_true]
      rw [hb]
      refine Zgn (call := Zab C K0) Zae mixed Zag o12 (Zy5 raw fr v i us k _ _) ?_
      exact Zyj (call := Zab C K0) (n := 0) Zae mixed Zag rfl rfl ⟨_, rfl, rfl, rfl⟩
    · obtain ⟨s, rfl, h4⟩ := h
      exact ⟨h4, hw⟩
  · have hb : (Zc7 raw u 0 == (fr : Int)) = false := by simpa using hz
    refine Zgp (Q2 := fun o q' => o = .norm ⟨eH raw fr v i us k (Zc7 raw u 0), [], hS raw.length f⟩ ∧ q' = some (v, qs.map Int.ofNat)) ?_ (fun s q' h => ?_) (fun o q' h h2 => absurd h.1 (h2 _))
    · refine Zgn (call := Zab C K0) Zae mixed Zag o11 (ZtZ raw fr v i us k _ _) ?_
      refine Zf6 (b := false) (by rw [hb]; rfl) ?_
      simp only [cond_false]
      rw [hb]
      exact ZlU ⟨rfl, rfl⟩
    · obtain ⟨h1, rfl⟩ := h
      cases h1
      rcases Zk4 raw u with hn | ⟨y, hy, hlt⟩
      · refine Zgn (call := Zab C K0) Zae mixed Zag o13 (ZvS raw fr v i us k _ (by rw [hn]; decide) _) ?_
        refine Zf6 (b := false) rfl ?_
        simp only [cond_false]
        refine ZlU ⟨v, qs, f, rfl, rfl, I.next hu fun y hy => ?_⟩
        rw [hn] at hy; omega
      · rw [hy]
        have hne : y ≠ fr := fun h => hz (by rw [hy, h])
        refine Zgn (call := Zab C K0) Zae mixed Zag o13 (ZwJ raw fr v i us k y f hlt) ?_
        cases hf : f y with
        | true =>
          refine Zf6 (b := false) rfl ?_
          simp only [cond_false]
          refine ZlU ⟨v, qs, f, rfl, rfl, I.next hu fun z hz => ?_⟩
          rw [hy] at hz
          have : z = y := by omega
          subst this
          exact ⟨hne, hf⟩
        | false =>
          refine Zf6 (b := true) rfl ?_
          simp only [cond_true, Bool.not_false]
          refine Zgn (call := Zab C K0) Zae mixed Zag o14 (Zzv raw fr v i us k y f hlt) ?_
          rw [q26_15.1]
          obtain ⟨g1, g2, g3⟩ := YdW
          have hp := YdE (call := Zab C K0) (all := (opsL Zcr).take 3 ++ nth Zcr 3 :: (opsL Zcr).drop 4) raw fr v i us k (y : Int) (hS raw.length (mark f y))
          refine ZgV (call := Zab C K0) Zae Zag q26_15.2 hp g1 (Ybd (n := (y : Int)) g3 rfl rfl rfl g2 rfl rfl YdF (rm78 (by rw [List.length_map]; omega)) eo78 rfl rfl) ?_
          rintro s q' ⟨v', rfl, rfl⟩
          obtain ⟨tm, ht⟩ := YdC (call := Zab C K0) (all := (opsL Zcr).take 3 ++ nth Zcr 3 :: (opsL Zcr).drop 4) raw fr v v' i us k (y : Int) (hS raw.length (mark f y))
          refine ⟨_, ht, v', qs ++ [y], mark f y, rfl, by rw [List.map_append]; rfl, (I.push hlt hf (hadj y hy)).next hu fun z hz => ?_⟩
          rw [hy] at hz
          have : z = y := by omega
          subst this
          exact ⟨hne, Zwn f z⟩
theorem Zz5 (hl : raw.length ≤ 64) {i : Nat} {x : Cus} (hx : raw[i]? = some x) {us : List (List UInt8)} (hus : ∀ u ∈ us, u ∈ ZaX x.val) (hul : us.length < 2 ^ 40) {m : Nat} (hm : m ≤ 2 ^ 30) {v : Value} {qs : List Nat} {f : Nat → Bool} (I : Ins raw fr i us 0 m qs f) :
    TJ C Yd4 w0 ZbW h0 (.loop (.seq (.seq ZuB (.cond (.tmp 37) .skip (.exit 2))) (.seq (.block 3 (.seq Zln (.seq (.seq Zk3 (.cond (.tmp 48) (.seq ZlM .ret) .skip)) (.seq ZiM (.cond (.tmp 57) (.seq ZkX Zcr) .skip))))) ZuK))) ⟨eE raw fr v i us 0, [], hS raw.length f⟩ (some (v, qs.map Int.ofNat)) (QI raw fr i us m) := by
  obtain ⟨_, _, _, _, o8, o9, _⟩ := Yas
  refine Zxi (II' raw fr i us m) (n := us.length) ⟨0, v, qs, f, rfl, rfl, I, Nat.zero_le _, rfl⟩ ?_
  rintro j s q1 ⟨k, v, qs, f, rfl, rfl, I, hk, rfl⟩
  by_cases hlt : k < us.length
  · refine Zgp (Q2 := fun o q' => o = .norm ⟨eF raw fr v i us k, [], hS raw.length f⟩ ∧ q' = some (v, qs.map Int.ofNat)) ?_ (fun s q' h => ?_) (fun o q' h h2 => absurd h.1 (h2 _))
    · refine Zgn (call := Zab C K0) Zae mixed Zag o8 (ZvG raw fr v i us k _) ?_
      rw [decide_eq_true hlt]
      refine Zf6 (b := true) rfl ?_
      exact ZlU ⟨rfl, rfl⟩
    · obtain ⟨h1, rfl⟩ := h
      cases h1
      have hu := List.getElem?_eq_getElem hlt
      refine Zgp (Q2 := QM raw fr i us k m) (YdV (Nat.le_trans hl (by decide)) hx hus I hu (by have := I.ct; omega)) (fun s q' h => ?_) (fun o q' h h2 => ?_)
      · obtain ⟨v', qs', f', rfl, rfl, I'⟩ := h
        refine Zyj (call := Zab C K0) Zae mixed Zag o9 (Ybr raw fr v' i us k (by omega) _) ?_
        refine ⟨us.length - (k + 1), _, by omega, ⟨k + 1, v', qs', f', rfl, rfl, I', hlt, rfl⟩, ⟨fun n sv hs => ?_, rfl, rfl⟩⟩
        exact ZaW hs
      · cases o with
        | norm s => exact absurd rfl (h2 s)
        | ret s => exact h
        | exit id s => exact h.elim
        | goto l s => exact h.elim
  · have hke : k = us.length := by omega
    subst hke
    refine Zgp (Q2 := fun o q' => o = .exit 2 ⟨eE raw fr v i us us.length ++ [(37, .val (.d (.bool false)))], [], hS raw.length f⟩ ∧ q' = some (v, qs.map Int.ofNat)) ?_ (fun s q' h => by cases h.1) (fun o q' h h2 => ?_)
    · refine Zgn (call := Zab C K0) Zae mixed Zag o8 (ZvG raw fr v i us us.length _) ?_
      rw [decide_eq_false hlt]
      refine Zf6 (b := false) rfl ?_
      exact ZwL ⟨rfl, rfl⟩
    · obtain ⟨rfl, rfl⟩ := h
      exact ⟨v, qs, f, rfl, rfl, I⟩
abbrev QRR (raw : List Cus) (fr : Nat) : Out → Prop
  | .ret s => (Zad s.env 4 = some (.val (.d (.bool true))) ∧ s.tmp = []) ∧ Way (Adj raw) fr fr
  | .norm s => ∃ v f, s = ⟨eA raw fr v, [], hS raw.length f⟩ ∧ ¬ Way (Adj raw) fr fr
  | _ => False
theorem Ydu {v : Value} {h : List AObj} {l : List (Nat × SV)} : Sub ⟨eA raw fr v, [], h⟩ ⟨eA raw fr v ++ l, [], h⟩ := ⟨fun n sv hs => ZaW hs, rfl, rfl⟩
set_option maxRecDepth 4000 in
theorem outer {c : List Cus} (D : Dn raw c) (hfr : fr < raw.length) {m : Nat} {v : Value} {qs : List Nat} {f : Nat → Bool} (S : Srch (Adj raw) fr raw.length qs f) (hc : ∀ x, x = fr ∨ f x = true → x ∈ qs ∨ Cl (Adj raw) fr f x) (hm : qs.length + un raw.length f = m) (hmm : m ≤ 2 ^ 30) :
    TJ C Yd4 w0 ZbW h0 (.block 0 (.loop (.seq (.seq ZhH (.cond (.tmp 19) .skip (.exit 0)))
  (.block 1 (.seq Zgu (.seq Zgw (.seq Zwo (.seq Zv5 (.block 2 (.loop (.seq (.seq ZuB (.cond (.tmp 37) .skip (.exit 2)))
    (.seq (.block 3 (.seq Zln (.seq (.seq Zk3 (.cond (.tmp 48) (.seq ZlM .ret) .skip)) (.seq ZiM (.cond (.tmp 57) (.seq ZkX Zcr) .skip))))) ZuK)))))))))))) ⟨eA raw fr v, [], hS raw.length f⟩ (some (v, qs.map Int.ofNat)) (fun o _ => QRR raw fr o) := by
  have okr := Yas
  obtain ⟨_, _, o6, o7, _⟩ := okr
  refine ZkP ?_
  refine Zxi (fun k s q => OI raw fr k s q ∧ k ≤ m) (n := m) ⟨⟨v, qs, f, rfl, rfl, S, hc, hm⟩, Nat.le_refl _⟩ ?_
  rintro j s q1 ⟨⟨v, qs, f, rfl, rfl, S, hc, hj⟩, hjm⟩
  have r3 : TJ C Yd4 w0 ZbW h0 (.seq ZhH (.cond (.tmp 19) .skip (.exit 0))) ⟨eA raw fr v, [], hS raw.length f⟩ (some (v, qs.map Int.ofNat)) (fun o q' => q' = some (v, qs.map Int.ofNat) ∧ (if 0 < qs.length then o = .norm ⟨eB raw fr v, [], hS raw.length f⟩ else o = .exit 0 ⟨eA raw fr v ++ [(19, .val (.d (.bool false)))], [], hS raw.length f⟩)) := by
    have hlen : (qs.map Int.ofNat).length = qs.length := List.length_map _
    refine Zgp (Q2 := fun o q' => o = .norm ⟨eA raw fr v ++ [(19, .val (.d (.bool (decide (0 < qs.length)))))], [], hS raw.length f⟩ ∧ q' = some (v, qs.map Int.ofNat)) ?_ (fun s q' h => ?_) (fun o q' h h2 => absurd h.1 (h2 _))
    · rw [q26_3.1]
      refine ZgV (call := Zab C K0) Zae Zag q26_3.2 (YeL raw fr v _) YeH (ZtL (call := Zab C K0) Zae Zag (u := 17) rfl (Yeo raw fr v _ _)) ?_
      rintro s q' ⟨rfl, rfl⟩
      refine ⟨_, YeZ raw fr v _ _, ?_, rfl⟩
      rw [hlen]
    · obtain ⟨h1, rfl⟩ := h
      cases h1
      by_cases h0' : 0 < qs.length
      · rw [decide_eq_true h0']
        refine Zf6 (b := true) rfl ?_
        exact ZlU ⟨rfl, by rw [if_pos h0']; rfl⟩
      · rw [decide_eq_false h0']
        refine Zf6 (b := false) rfl ?_
        exact ZwL ⟨rfl, by rw [if_neg h0']⟩
  refine Zgp r3 (fun s q' h => ?_) (fun o q' h h2 => ?_)
  · obtain ⟨rfl, h⟩ := h
    split at h
    case isFalse => cases h
    case isTrue hpos =>
      cases h
      rcases qs with _ | ⟨i, r⟩
      · simp at hpos
      have hil := (S.lt i List.mem_cons_self).1
      have hin := (S.lt i List.mem_cons_self).2
      have hx := List.getElem?_eq_getElem hil
      generalize raw[i] = x at hx
      have hxm := List.mem_of_getElem? hx
      refine ZkP ?_
      refine Zgp (Q2 := fun o q' => o = .norm ⟨eC raw fr v i, [], hS raw.length f⟩ ∧ q' = some (v, (i :: r).map Int.ofNat)) ?_ (fun s q' h => ?_) (fun o q' h h2 => absurd h.1 (h2 _))
      · rw [q26_4.1]
        refine ZgV (call := Zab C K0) Zae Zag q26_4.2 (Yex raw fr v _) Yee (ZtL (call := Zab C K0) Zae Zag (u := 20) rfl (Yeh raw fr v (i : Int) (r.map Int.ofNat) _)) ?_
        rintro s q' ⟨rfl, rfl⟩
        obtain ⟨tm, ht⟩ := YeC (call := Zab C K0) (all := (opsL Zgu).take 1 ++ nth Zgu 1 :: (opsL Zgu).drop 2) raw fr v i (r.map Int.ofNat) (hS raw.length f)
        exact ⟨_, ht, rfl, rfl⟩
      obtain ⟨h1, rfl⟩ := h
      cases h1
      refine Zgp (Q2 := fun o q' => ∃ v', o = .norm ⟨eC raw fr v' i, [], hS raw.length f⟩ ∧ q' = some (v', r.map Int.ofNat)) ?_ (fun s q' h => ?_) (fun o q' h h2 => absurd h.choose_spec.1 (h2 _))
      · rw [q26_5.1]
        obtain ⟨g1, g2, g3⟩ := Yek
        refine ZgV (call := Zab C K0) Zae Zag q26_5.2 (YeT raw fr v i _) g1 (Zy8 (n := (i : Int)) (r := r.map Int.ofNat) (i := (C.P.info? 3).getD default) (e := 3) g3 g2 rfl (by kernel_rfl) (by kernel_rfl) (by kernel_rfl) rfl rfl) ?_
        rintro s q' ⟨v', rfl, rfl⟩
        obtain ⟨tm, ht⟩ := Yej (call := Zab C K0) (all := (opsL Zgw).take 1 ++ nth Zgw 1 :: (opsL Zgw).drop 2) raw fr v v' i (hS raw.length f)
        exact ⟨_, ht, v', rfl, rfl⟩
      obtain ⟨v', h1, rfl⟩ := h
      cases h1
      have hus : ∀ u ∈ Zde (ZaX x.val), u ∈ ZaX x.val := fun u hu => ((ZhB _).2 u).1 hu
      have hul : (Zde (ZaX x.val)).length < 2 ^ 40 := Nat.lt_of_le_of_lt (Nat.le_trans (ZpP _) (Nat.le_trans (Zg0 _) (D.tot hxm))) (by decide)
      have I : Ins raw fr i (Zde (ZaX x.val)) 0 (r.length + un raw.length f) r f := by
        refine ⟨⟨fun z hz => S.lt z (List.mem_cons_of_mem _ hz), S.way⟩, fun z hz => ?_, hin, fun u hu => by simp at hu, rfl⟩
        rcases hc z hz with h | h
        · rcases List.mem_cons.1 h with h | h
          · exact .inl h
          · exact .inr (.inl h)
        · exact .inr (.inr h)
      refine Zgn (call := Zab C K0) Zae mixed Zag o6 (YcS raw fr v' i x hx (Zde (ZaX x.val)) _ (Zw0 (D.tot hxm) (D.chk hxm))) ?_
      refine Zgn (call := Zab C K0) Zae mixed Zag o7 (Ya9 raw fr v' i _ _) ?_
      refine ZkP ?_
      simp only [List.length_cons] at hj
      refine YcK (Zz5 D.le hx hus hul (by omega) I) fun o q' h => ?_
      cases o with
      | norm s => exact h.elim
      | goto l s => exact h.elim
      | ret s => exact h
      | exit id s =>
        by_cases e : id = 2
        · subst e
          obtain ⟨v2, qs2, f2, rfl, rfl, I2⟩ := h
          refine ⟨qs2.length + un raw.length f2, ⟨eA raw fr v2, [], hS raw.length f2⟩, by have := I2.ct; omega, ⟨⟨v2, qs2, f2, rfl, rfl, I2.s, fun z hz => ?_, rfl⟩, by have := I2.ct; omega⟩, Ydu⟩
          rcases I2.cl z hz with h | h | h
          · subst h
            refine .inr fun y ⟨x', h1, u, hu, hy⟩ => ?_
            rw [hx] at h1; cases h1
            exact I2.dn u (by rw [List.take_length]; exact ((ZhB _).2 u).2 hu) y hy
          · exact .inl h
          · exact .inr h
        · have : QI raw fr i (Zde (ZaX x.val)) (r.length + un raw.length f) (.exit id s) q' = False := by
            unfold QI
            split
            · rename_i heq; cases heq
            · rename_i heq; cases heq; exact absurd rfl e
            · rfl
          rw [this] at h
          exact h.elim
  · obtain ⟨rfl, h⟩ := h
    split at h
    · exact absurd h (h2 _)
    · rename_i hpos
      subst h
      have hq : qs = [] := List.eq_nil_of_length_eq_zero (by omega)
      subst hq
      refine ⟨v, f, rfl, Zzo (f := f) fun z hz => ?_⟩
      rcases hc z hz with h | h
      · cases h
      · exact h
theorem ZwK : ∀ n, un n (fun _ => false) = n
  | 0 => rfl
  | n + 1 => by rw [un, ZwK n]; rfl
end
set_option maxRecDepth 4000 in
open Classical in
theorem Zsf {raw c : List Cus} (D : Dn raw c) {fr : Nat} {x : Cus} (hx : raw[fr]? = some x) : Has Tryz.prog 26 [.d (d44 raw), .d (.int .i64 fr)] [] (.d (.bool (decide (Zpb raw x.name)))) [] := by
  obtain ⟨o0, o1, _, _, _, _, _, _, _, _, _, o16⟩ := Yas
  have hfr : fr < raw.length := (List.getElem?_eq_some_iff.1 hx).1
  have h : HasN Tryz.prog 26 [.d (d44 raw), .d (.int .i64 fr)] [] (fun r h' => r = .d (.bool (decide (Zpb raw x.name)))) := by
    refine ZeE (C := C) (f := 26) (fn := Tryz.f26) Tryz.func26 YbM (by kernel_rfl) ?_
    refine ZaT (call := Zab C K0) Zae mixed Zag o0 (Ya5 raw fr) ?_
    refine ZaT (call := Zab C K0) Zae mixed Zag o1 (Yba raw fr (Nat.le_trans D.le (by decide))) ?_
    refine ZwG fun w0 ZbW => ?_
    refine Zgp (Q2 := fun o q' => ∃ v', o = .norm ⟨eA raw fr v', [], hS raw.length fun _ => false⟩ ∧ q' = some (v', [(fr : Int)])) ?_ (fun s q' h => ?_) (fun o q' h h2 => absurd h.choose_spec.1 (h2 _))
    · rw [q26_2.1]
      obtain ⟨g1, g2, g3⟩ := YeG
      refine ZgV (call := Zab C K0) Zae Zag q26_2.2 (Yei raw fr _) g1 (YbL (n := (fr : Int)) g3 g2 (Yer raw fr _) rfl rfl) ?_
      rintro s q' ⟨v', rfl, rfl⟩
      exact ⟨_, YeW raw fr v' _, v', rfl, rfl⟩
    · obtain ⟨v', h1, rfl⟩ := h
      cases h1
      have S0 : Srch (Adj raw) fr raw.length [fr] (fun _ => false) := ⟨fun z hz => by simp only [List.mem_singleton] at hz; subst hz; exact ⟨hfr, .inl rfl⟩, fun z hz => by cases hz⟩
      refine Zgp (outer D hfr (qs := [fr]) S0 (fun z hz => .inl (by rcases hz with h | h; exact List.mem_singleton.2 h; cases h)) rfl (by rw [ZwK]; have := D.le; simp; omega)) (fun s q' h => ?_) (fun o q' h h2 => ?_)
      · obtain ⟨v, f, rfl, hw⟩ := h
        refine Zgn (call := Zab C K0) Zae mixed Zag o16 (ZyY raw fr v _) ?_
        refine Zyj (call := Zab C K0) (n := 0) Zae mixed Zag rfl rfl ?_
        refine ⟨[.d (.bool false)], rfl, ?_⟩
        rw [decide_eq_false (fun hp => hw ((ZtU D.nd hx).1 hp))]
        rfl
      · cases o with
        | norm s => exact absurd rfl (h2 s)
        | ret s =>
          refine ⟨[.d (.bool true)], ?_, ?_⟩
          · show Zcm C s [.tmp 4] = _
            simp only [Zcm, opA, opd, opx, h.1.1, h.1.2, Zad, XV.flat, Option.map_some]
          · rw [decide_eq_true ((ZtU D.nd hx).2 h.2)]
            rfl
        | exit id s => exact h.elim
        | goto l s => exact h.elim
  refine HasN.frozen (ds := [d44 raw, .int .i64 fr]) h ?_
  rintro r h' rfl
  exact ⟨0, rfl⟩
end Go.Tev.S1
namespace Go.Tev
open Go.Abs
end Go.Tev
namespace Go.Tev.S1
open Go.Abs Go.Proofs
def YaU (a : List Cus × Int) : Prop := Zjh a.1 ∧ a.1.length ≤ 64 ∧ namL none a.1 = true ∧ Zrm a.1 = 0 ∧ 0 ≤ a.2 ∧ a.2 < a.1.length
open Classical in
noncomputable def Yc4 (a : List Cus × Int) : Option Bool := if YaU a then some (decide (∃ x, a.1[a.2.toNat]? = some x ∧ Zpb a.1 x.name)) else none
open Classical in
theorem YcN {raw : List Cus} {c : List Cus} (D : Dn raw c) {i : Nat} {x : Cus} (hx : raw[i]? = some x) : Yc4 (raw, (i : Int)) = some (decide (Zpb raw x.name)) := by
  have hi : i < raw.length := (List.getElem?_eq_some_iff.1 hx).1
  unfold Yc4
  rw [if_pos (show YaU (raw, (i : Int)) from ⟨D.ok, D.le, D.nam, D.err, by simp, by simpa using hi⟩)]
  congr 1
  have : (∃ y, raw[(i : Int).toNat]? = some y ∧ Zpb raw y.name) ↔ Zpb raw x.name := by
    rw [show (i : Int).toNat = i from rfl, hx]
    exact ⟨fun ⟨y, h1, h2⟩ => by cases h1; exact h2, fun h => ⟨x, rfl, h⟩⟩
  exact decide_eq_decide.2 this
open Classical in
noncomputable def Yen (args : List AV) (h : List AObj) : Option (AV × List AObj) := if e : ∃ a : (List Cus × Int) × Bool, args = [.d (d44 a.1.1), .d (.int .i64 a.1.2)] ∧ h = [] ∧ Yc4 a.1 = some a.2 then some (.d (.bool e.choose.2), []) else none
theorem Zy9 {args : List AV} {h : List AObj} {r : AV} {h' : List AObj} (he : Yen args h = some (r, h')) : Has Tryz.prog 26 args h r h' := by
  unfold Yen at he
  split at he
  · rename_i e
    obtain ⟨h1, h2, h3⟩ := e.choose_spec
    generalize e.choose = a at he h1 h3
    cases he
    subst h1 h2
    obtain ⟨⟨raw, fr⟩, b⟩ := a
    simp only at h3
    unfold Yc4 at h3
    split at h3
    · rename_i hok
      obtain ⟨k1, k2, k3, k4, k5, k6⟩ := hok
      simp only at k1 k2 k3 k4 k5 k6
      obtain ⟨i, rfl⟩ := Int.eq_ofNat_of_zero_le k5
      have hi : i < raw.length := by omega
      have D : Dn raw (Zfd raw (ZcH raw)) := ⟨k1, k2, k3, k4, rfl⟩
      have hx := List.getElem?_eq_getElem hi
      have := Zsf D hx
      have e2 := YcN D hx
      unfold Yc4 at e2
      rw [if_pos (show YaU (raw, (i : Int)) from ⟨k1, k2, k3, k4, k5, k6⟩)] at e2
      have e3 := h3.symm.trans e2
      rw [Option.some.inj e3]
      exact this
    · cases h3
  · cases he
noncomputable def KR (K : Zaa) : Zaa := fun f args h => bif Nat.beq f 26 then Yen args h else K f args h
theorem YeQ {K : Zaa} (hK : Za2 Tryz.prog K) : Za2 Tryz.prog (KR K) := by
  intro f args h r h' he
  unfold KR at he
  cases hb : Nat.beq f 26 with
  | false => rw [hb] at he; exact hK _ _ _ _ _ he
  | true =>
    rw [hb, cond_true] at he
    have := Nat.eq_of_beq_eq_true hb
    subst this
    exact Zy9 he
theorem YcM {K : Zaa} (hK : Zc2 K) : Zc2 (KR K) := by
  intro f args h hf
  unfold KR
  rw [show Nat.beq f 26 = false from beq_ne.2 fun e => hf (by subst e; decide)]
  exact hK f args h hf
theorem Ybj {K : Zaa} (hK : ZgM K) : ZgM (KR K) := fun args h r he => hK args h r he
noncomputable abbrev Kz : Zaa := K2 (KR K1)
theorem Yed : Za2 Tryz.prog Kz := Yey (YeQ YeS)
theorem Zfg : Zc2 Kz := Yce (YcM YcQ)
theorem YaV : ZgM Kz := Yb9 (Ybj YaY)
theorem ZzN : Zap U (Zab C Kz) 43 ⟨true, [.ty 23], [23], Zk8⟩ := Zsc (t := 23) (rt := 23) fun a r h => by
  have h : Zk8 a = some r := h
  unfold Zk8 at h
  split at h
  · rename_i hc
    cases h
    exact Ya8 (F := fun raw => (raw.map Cus.name).Nodup ∧ Zjh raw) (fun raw => .slc ((Zfd raw (ZcH raw)).map Cus.enc)) hc
  · cases h
theorem Ycv : Zap U (Zab C Kz) 16 ⟨true, [.ty 23], [23, 28], Znn⟩ :=
  Zkv (kf Zfg 16 (by decide)) _ _ _ (Ycb Zfg) ZzN (Zif (kf Zfg 33 (by decide)) (kf Zfg 52 (by decide)) (kf Zfg 66 (by decide))) _ fun a r h => by
    unfold Znn at h
    split at h
    · rename_i h3; cases h; exact ⟨_, ZrK a h3⟩
    · cases h
end Go.Tev.S1
