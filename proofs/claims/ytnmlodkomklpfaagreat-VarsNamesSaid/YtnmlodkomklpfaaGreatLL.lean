/- A certified evaluator for the walked functions, and their contracts, for the laws of the variables. -/
import Derived.Shelf.SlIter.Nil
import Derived.Shelf.SortM.Plain
import Derived.Shelf.SortM.SortNone
import Derived.Ground.GgzProg
import Derived.Ground.SlgmProg
import Derived.Test.YtnmlodkomklpfaaGreatProg
import Derived.Test.YtnmlodkomklpfaaGreatLJ
import Derived.Test.YtnmlodkomklpfaaGreatLK
set_option linter.unusedVariables false
set_option linter.unusedSimpArgs false
namespace Go.Proofs
open Go.Shelf
set_option maxRecDepth 100000 in
def Tryz.keys36_ren : Go.Shelf.Ren := ⟨fun | 7 => 38 | 10 => 59 | n => n, fun | 23 => 62 | 26 => 9 | 3 => 4 | 28 => 66 | 0 => 0 | 27 => 65 | 33 => 80 | 4 => 4 | n => n, fun | n => n⟩
set_option maxRecDepth 100000 in
theorem Tryz.keys36 : Go.Proofs.SlLaysZ.n7 Tryz.prog Tryz.keys36_ren := {
  mixed := by kernel_rfl
  f7 := ⟨Tryz.f38.name, by decide, Tryz.func38.trans (congrArg some (by kernel_rfl))⟩
  f10 := ⟨Tryz.f59.name, by decide, Tryz.func59.trans (congrArg some (by kernel_rfl))⟩
  t0 := Tryz.underlying0
  a0 := Tryz.isAgg0
  z0 := Tryz.sizeOf0
  v0 := Tryz.zeroValue0
  t4 := Tryz.underlying4
  a4 := Tryz.isAgg4
  z4 := Tryz.sizeOf4
  v4 := Tryz.zeroValue4
  t23 := Tryz.underlying62
  a23 := Tryz.isAgg62
  z23 := Tryz.sizeOf62
  v23 := Tryz.zeroValue62
  t26 := Tryz.underlying9
  a26 := Tryz.isAgg9
  z26 := Tryz.sizeOf9
  v26 := Tryz.zeroValue9
  t27 := Tryz.underlying65
  a27 := Tryz.isAgg65
  z27 := Tryz.sizeOf65
  v27 := Tryz.zeroValue65
  t28 := Tryz.underlying66
  a28 := Tryz.isAgg66
  z28 := Tryz.sizeOf66
  v28 := Tryz.zeroValue66
  t33 := Tryz.underlying80
  a33 := Tryz.isAgg80
  z33 := Tryz.sizeOf80
  v33 := Tryz.zeroValue80 }
set_option maxRecDepth 100000 in
def Tryz.sorted35_ren : Go.Shelf.Ren := ⟨fun | 6 => 37 | 8 => 57 | 9 => 58 | 11 => 69 | 13 => 71 | 12 => 70 | 23 => 87 | 24 => 88 | 14 => 78 | 15 => 79 | 16 => 80 | 17 => 81 | 18 => 82 | 19 => 83 | 20 => 84 | 21 => 85 | 22 => 86 | 25 => 102 | 26 => 103 | 27 => 104 | 28 => 105 | 29 => 106 | 30 => 107 | 31 => 116 | n => n, fun | 26 => 9 | 28 => 66 | 24 => 31 | 0 => 0 | 3 => 3 | 37 => 105 | 48 => 123 | 50 => 125 | 4 => 4 | 40 => 116 | 39 => 115 | 45 => 120 | 5 => 5 | 9 => 9 | 51 => 130 | 55 => 134 | 57 => 139 | 58 => 140 | 33 => 80 | n => n, fun | n => n⟩
set_option maxRecDepth 100000 in
theorem Tryz.sorted35 : Go.Proofs.SlLaysZ.n6 Tryz.prog Tryz.sorted35_ren := {
  mixed := by kernel_rfl
  f6 := ⟨Tryz.f37.name, by decide, Tryz.func37.trans (congrArg some (by kernel_rfl))⟩
  f8 := ⟨Tryz.f57.name, by decide, Tryz.func57.trans (congrArg some (by kernel_rfl))⟩
  f11 := ⟨Tryz.f69.name, by decide, Tryz.func69.trans (congrArg some (by kernel_rfl))⟩
  t0 := Tryz.underlying0
  a0 := Tryz.isAgg0
  z0 := Tryz.sizeOf0
  v0 := Tryz.zeroValue0
  t24 := Tryz.underlying31
  a24 := Tryz.isAgg31
  z24 := Tryz.sizeOf31
  v24 := Tryz.zeroValue31
  t26 := Tryz.underlying9
  a26 := Tryz.isAgg9
  z26 := Tryz.sizeOf9
  v26 := Tryz.zeroValue9
  t28 := Tryz.underlying66
  a28 := Tryz.isAgg66
  z28 := Tryz.sizeOf66
  v28 := Tryz.zeroValue66
  i26 := by kernel_rfl }
set_option maxRecDepth 100000 in
def Tryz.sort58_ren : Go.Shelf.Ren := ⟨fun | 6 => 58 | 8 => 71 | 9 => 70 | 19 => 87 | 20 => 88 | 21 => 78 | 22 => 79 | 23 => 80 | 24 => 81 | 25 => 82 | 26 => 83 | 27 => 84 | 28 => 85 | 29 => 86 | 36 => 102 | 31 => 103 | 32 => 104 | 37 => 105 | 38 => 106 | 39 => 107 | 41 => 116 | n => n, fun | 27 => 31 | 29 => 9 | 3 => 3 | 32 => 105 | 26 => 31 | 0 => 0 | 44 => 123 | 46 => 125 | 4 => 4 | 36 => 116 | 35 => 115 | 41 => 120 | 5 => 5 | 9 => 9 | 53 => 130 | 57 => 134 | 63 => 139 | 64 => 140 | n => n, fun | n => n⟩
set_option maxRecDepth 100000 in
theorem Tryz.sort58 : Go.Proofs.SlLaysM.n6 Tryz.prog Tryz.sort58_ren := {
  mixed := by kernel_rfl
  f6 := ⟨Tryz.f58.name, by decide, Tryz.func58.trans (congrArg some (by kernel_rfl))⟩
  f8 := Tryz.func71.trans (congrArg some (by kernel_rfl))
  f9 := ⟨Tryz.f70.name, by decide, Tryz.func70.trans (congrArg some (by kernel_rfl))⟩
  f19 := Tryz.func87.trans (congrArg some (by kernel_rfl))
  f20 := Tryz.func88.trans (congrArg some (by kernel_rfl))
  f21 := ⟨Tryz.f78.name, by decide, Tryz.func78.trans (congrArg some (by kernel_rfl))⟩
  f22 := ⟨Tryz.f79.name, by decide, Tryz.func79.trans (congrArg some (by kernel_rfl))⟩
  f23 := ⟨Tryz.f80.name, by decide, Tryz.func80.trans (congrArg some (by kernel_rfl))⟩
  f24 := ⟨Tryz.f81.name, by decide, Tryz.func81.trans (congrArg some (by kernel_rfl))⟩
  f25 := ⟨Tryz.f82.name, by decide, Tryz.func82.trans (congrArg some (by kernel_rfl))⟩
  f26 := ⟨Tryz.f83.name, by decide, Tryz.func83.trans (congrArg some (by kernel_rfl))⟩
  f27 := ⟨Tryz.f84.name, by decide, Tryz.func84.trans (congrArg some (by kernel_rfl))⟩
  f28 := ⟨Tryz.f85.name, by decide, Tryz.func85.trans (congrArg some (by kernel_rfl))⟩
  f29 := ⟨Tryz.f86.name, by decide, Tryz.func86.trans (congrArg some (by kernel_rfl))⟩
  f31 := Tryz.func103.trans (congrArg some (by kernel_rfl))
  f32 := Tryz.func104.trans (congrArg some (by kernel_rfl))
  f36 := ⟨Tryz.f102.name, by decide, Tryz.func102.trans (congrArg some (by kernel_rfl))⟩
  f37 := ⟨Tryz.f105.name, by decide, Tryz.func105.trans (congrArg some (by kernel_rfl))⟩
  f38 := ⟨Tryz.f106.name, by decide, Tryz.func106.trans (congrArg some (by kernel_rfl))⟩
  f39 := ⟨Tryz.f107.name, by decide, Tryz.func107.trans (congrArg some (by kernel_rfl))⟩
  f41 := ⟨Tryz.f116.name, by decide, Tryz.func116.trans (congrArg some (by kernel_rfl))⟩
  t0 := Tryz.underlying0
  a0 := Tryz.isAgg0
  z0 := Tryz.sizeOf0
  v0 := Tryz.zeroValue0
  t3 := Tryz.underlying3
  a3 := Tryz.isAgg3
  z3 := Tryz.sizeOf3
  v3 := Tryz.zeroValue3
  t4 := Tryz.underlying4
  a4 := Tryz.isAgg4
  z4 := Tryz.sizeOf4
  v4 := Tryz.zeroValue4
  t5 := Tryz.underlying5
  a5 := Tryz.isAgg5
  z5 := Tryz.sizeOf5
  v5 := Tryz.zeroValue5
  t9 := Tryz.underlying9
  a9 := Tryz.isAgg9
  z9 := Tryz.sizeOf9
  v9 := Tryz.zeroValue9
  t26 := Tryz.underlying31
  a26 := Tryz.isAgg31
  z26 := Tryz.sizeOf31
  v26 := Tryz.zeroValue31
  t27 := Tryz.underlying31
  a27 := Tryz.isAgg31
  z27 := Tryz.sizeOf31
  v27 := Tryz.zeroValue31
  t29 := Tryz.underlying9
  a29 := Tryz.isAgg9
  z29 := Tryz.sizeOf9
  v29 := Tryz.zeroValue9
  t32 := Tryz.underlying105
  a32 := Tryz.isAgg105
  z32 := Tryz.sizeOf105
  v32 := Tryz.zeroValue105
  t35 := Tryz.underlying115
  a35 := Tryz.isAgg115
  z35 := Tryz.sizeOf115
  v35 := Tryz.zeroValue115
  t36 := Tryz.underlying116
  a36 := Tryz.isAgg116
  z36 := Tryz.sizeOf116
  v36 := Tryz.zeroValue116
  t41 := Tryz.underlying120
  a41 := Tryz.isAgg120
  z41 := Tryz.sizeOf120
  v41 := Tryz.zeroValue120
  t44 := Tryz.underlying123
  a44 := Tryz.isAgg123
  z44 := Tryz.sizeOf123
  v44 := Tryz.zeroValue123
  t46 := Tryz.underlying125
  a46 := Tryz.isAgg125
  z46 := Tryz.sizeOf125
  v46 := Tryz.zeroValue125
  t53 := Tryz.underlying130
  a53 := Tryz.isAgg130
  z53 := Tryz.sizeOf130
  v53 := Tryz.zeroValue130
  t57 := Tryz.underlying134
  a57 := Tryz.isAgg134
  z57 := Tryz.sizeOf134
  v57 := Tryz.zeroValue134
  t63 := Tryz.underlying139
  a63 := Tryz.isAgg139
  z63 := Tryz.sizeOf139
  v63 := Tryz.zeroValue139
  t64 := Tryz.underlying140
  a64 := Tryz.isAgg140
  z64 := Tryz.sizeOf140
  v64 := Tryz.zeroValue140 }
set_option maxRecDepth 100000 in
theorem Tryz.sorts35 (m : Nat) : AnyZ.SortsIn Tryz.prog Tryz.sorted35_ren Fence.wide m :=
  ⟨fun blk off cap ss W hH hblk hsz => callsIn_wide.2 (AnyM.slices_Sort_string Tryz.sort58 blk off cap ss W hH hblk hsz),
   fun p cap W => callsIn_wide.2 (AnyM.slices_Sort_string_none Tryz.sort58 p cap W)⟩
end Go.Proofs
namespace Go.Abs
open Go.Proofs Go.RowKit Go.Maps Go.Sort Go.Shelf
set_option maxRecDepth 100000 in
set_option maxHeartbeats 1000000 in
theorem Znn : Zm2 Tryz.prog 37 59 9 := by
  intro bm b nn D0 R w hbm hcell hown hmax hbytes
  have hseq : SeqGives Fence.wide 2 Tryz.prog 59 #[.pointer (some ⟨bm, 0, none⟩)] encStr (fun ss => ss.Perm (strKeys D0)) (Maps.size D0) w :=
    AnyZ.keys_gives (ρ := Tryz.keys36_ren) { Tryz.keys36 with } Fence.wide _ trivial rfl (by omega) bm b nn D0 w hbm hcell hown
  exact callsIn_wide.1 (AnyZ.sorted_in Tryz.sorted35 Fence.wide 5 trivial trivial trivial trivial rfl (by omega) (Tryz.sorts35 _) (enters_of Tryz.func58 (by kernel_rfl) rfl) 59 #[.pointer (some ⟨bm, 0, none⟩)] trivial (enters_of Tryz.func59 (by kernel_rfl) rfl) _ _ hmax hbytes _ hseq)
theorem Ycc {args : List AV} {h : List AObj} {r : AV} {h' : List AObj} (he : Zt0 59 args h = some (r, h')) : Has Tryz.prog 37 args h r h' :=
  Zzq (vt := 4) ⟨_, Tryz.func37, by kernel_rfl⟩ Tryz.underlying9 Tryz.underlying4 Znn he
end Go.Abs
namespace Go.Abs
open Go.RowKit Go.ChangeShapes Go.WideShapes Go.ChangeAt
def Stays (W W' : World) : Prop := W'.os = W.os ∧ W'.output = W.output ∧ W.heap.size ≤ W'.heap.size ∧ ∀ b, b < W.heap.size → W'.heap[b]? = W.heap[b]?
theorem Stays.kept {W W' : World} (h : Stays W W') (may : MemPlace → Prop) : W.keptBut W' may := by
  refine ⟨h.1, h.2.1, fun i hi => ?_⟩
  rw [h.2.2.2 i hi]
  cases hx : W.heap[i]? with
  | none => exact rfl
  | some o => cases o <;> first | exact ⟨rfl, rfl, rfl, fun _ _ => rfl⟩ | exact .inr ⟨rfl, rfl⟩ | exact rfl
theorem Stays.frozen {W W' : World} (h : Stays W W') {a : Addr} (ha : a.block < W.heap.size) : W'.frozen? a = W.frozen? a := by
  simp only [World.frozen?, h.2.2.2 _ ha]
theorem Stays.same {W W' : World} (h : Stays W W') {p : MemPlace} (hp : p.block < W.heap.size) : W.sameAt W' p := by
  have h2 : ∀ W2 : World, W2 = { W' with tape := W.tape } → W.sameAt W2 p := fun W2 e => by
    have hb : Below W.heap.size W W2 := by subst e; exact ⟨h.1, rfl, h.2.1, h.2.2.1, h.2.2.2⟩
    exact hb.same hp
  have := h2 _ rfl
  exact this
theorem Znw {H : Type} {enc : TypeId × Value → H} {P : Program} {f : Func} {s : ChangeSpec} {apart fresh handsOn again : Bool} {W W' : World} {args : Array Value} {v : Value} {ds gs : List (DataW H)} {before pa pv : List MemPlace}
    (hW : DataW.Whole enc P f.params.toList s.vars apart W args.toList ds gs before)
    (hres : ∀ (b : Nat) (sp : Nat → Bool) (hd : Bool), DataW.TrodAll enc P W' b sp hd f.resultTypes.toList (v.resultList f.resultTypes.size) (s.fn H (ds ++ gs)).results [])
    (hargs : ∀ sp : Nat → Bool, (∀ p ∈ before, sp p.block = true) → DataW.TrodAll enc P W' 0 sp true f.params.toList args.toList (s.fn H (ds ++ gs)).args pa)
    (hvars : ∀ sp : Nat → Bool, (∀ p ∈ before, sp p.block = true) → DataW.TrodVars enc P W' sp s.vars (s.fn H (ds ++ gs)).vars pv)
    (hps : before = pa ++ pv) (hS : Stays W W')
    (hok : ∀ (j : Nat) (t : TypeId) (r : Value), f.resultTypes[j]? = some t → (v.resultList f.resultTypes.size)[j]? = some r → Value.okWide P W' .any 0 t r) :
    s.post enc P f apart fresh handsOn again W args v W' := by
  have hold : ∀ p ∈ before, (fun b => decide (b < W.heap.size)) p.block = true := fun p hp => by simpa using hW.lt p hp
  have hlt : ∀ p ∈ before, p.block < W.heap.size := fun p hp => hW.lt p hp
  refine ⟨ds, gs, before, [], pa, pv, hW, hres _ _ _, hargs _ hold, hvars _ hold, World.keptBut_mono (fun p hp => ⟨hp, ?_⟩) (hS.kept (· ∈ before)), fun _ => ?_⟩
  · rw [hps, List.mem_append] at hp
    exact Or.inr hp
  · obtain ⟨_, _, _, _, _, hz, hn⟩ := hW
    refine ⟨hok, _, _, ([] ++ pa) ++ pv, ⟨[] ++ pa, pv, trodAll_append (hargs _ (fun _ _ => rfl)) (hres _ _ _), hvars _ (fun _ _ => rfl), rfl, ?_, ?_⟩, ?_⟩
    · intro b off hp
      have hm : MemPlace.cell b off ∈ before := by rw [hps]; simpa using hp
      rw [hS.frozen (a := ⟨b, off, none⟩) (hlt _ hm)]
      exact hz b off hm
    · intro ha
      have := hn ha
      rw [hps] at this
      simpa using this
    · intro p hp _
      rw [hps]
      simpa using hp
theorem Yen (P : Program) (W : World) : HRel P W Zbo [] :=
  ⟨fun id o h => (by simp at h), fun b b' x f f' h => (by cases h), fun b x h => (by cases h), fun b id f h => (by cases h)⟩
theorem Zu2 {P : Program} {f : FuncId} {ds : List DV} {b : Bool} {h' : List AObj} (h : Has P f (ds.map .d) [] (.d (.bool b)) h') {W : World} {vs : Array Value} (hl : vs.size = ds.length) (hr : ∀ (i : Nat) v d, vs[i]? = some v → ds[i]? = some d → Rep W Zbo v d) :
    Calls P f vs W fun e W' => e = .returned (.bool b) ∧ Stays W W' := by
  refine (h.2 W Zbo vs (Yen P W) (fun b x f hx => by cases hx) (by simpa using hl) fun i v x hv hx => ?_).mono ?_
  · rw [List.getElem?_map] at hx
    cases hd : ds[i]? with
    | none => rw [hd] at hx; cases hx
    | some d =>
      rw [hd] at hx
      cases hx
      exact .d _ _ (hr i v d hv hd)
  · rintro e w' ⟨v, own', rfl, _, _, h1, h2, _⟩
    cases h1 with
    | d _ _ h3 =>
      cases h3
      exact ⟨rfl, h2.os, h2.output, h2.size, fun b hb => (h2.blk b hb (.inl rfl)).1⟩
end Go.Abs
namespace Go.Tev.S1
open Go.Abs Go.Proofs Go.RowKit
noncomputable def K0 : Zaa := fun f args h => bif Nat.beq f 37 then Zt0 59 args h else none
theorem YdH : Zba Tryz.prog K0 := by
  intro f args h r h' he
  unfold K0 at he
  cases hb : Nat.beq f 37 with
  | false => rw [hb] at he; cases he
  | true =>
    rw [hb] at he
    have : f = 37 := Nat.eq_of_beq_eq_true hb
    subst this
    exact Ycc he
theorem Zjl : Zde K0 := by
  intro f args h hf
  unfold K0
  have : Nat.beq f 37 = false := beq_ne.2 fun e => hf (by subst e; decide)
  rw [this]; rfl
theorem Zxs : ZgH K0 := fun args h r he => he
theorem noCount : Zbj C.P := by
  have h : (Tryz.prog.funcs.all fun fn => !(fn.name == "runtime.NumGoroutine")) = true := by kernel_rfl
  intro f fn hf
  have := (Array.all_eq_true_iff_forall_mem.1 h) fn (Array.mem_of_getElem? hf)
  simpa using this
theorem mixed : C.P.follows .mixedOrders = true := by kernel_rfl
end Go.Tev.S1
namespace Go.Abs
theorem Zbk {α : Type} {l m : List (Nat × α)} {k : Nat} {v : α} (h : Zab l k = some v) : Zab (l ++ m) k = some v := by
  induction l with
  | nil => simp [Zab] at h
  | cons p l ih =>
    obtain ⟨i, x⟩ := p
    simp only [List.cons_append, Zab] at h ⊢
    cases hb : Nat.beq i k with
    | true => rw [hb] at h; exact h
    | false => rw [hb] at h; exact ih h
end Go.Abs
namespace Go.Tev.S1
open Go.Abs Go.Proofs
def Edge (G : Nd) (a b : List UInt8) : Prop := ∃ u, Zbu BEq.beq a G = some u ∧ b ∈ Zcf u ∧ (Zbu BEq.beq b G).isSome = true
inductive Path (G : Nd) : List UInt8 → List UInt8 → Prop where
  | one {a b : List UInt8} (h : Edge G a b) : Path G a b
  | step {a b c : List UInt8} (h : Edge G a b) (t : Path G b c) : Path G a c
structure WalkPost (G : Nd) (S : List (List UInt8)) (name : List UInt8) (S' : List (List UInt8)) : Prop where
  nd : S'.Nodup
  sub : ∀ m ∈ S, m ∈ S'
  ing : ∀ m ∈ S', (Zbu BEq.beq m G).isSome = true
  next : ∀ m, Edge G name m → m ∈ S'
  new : ∀ m ∈ S', m ∉ S → Path G name m ∧ ∀ k, Edge G m k → k ∈ S'
theorem Ziz {β : Type} {a : List UInt8} : ∀ {G : List (List UInt8 × β)}, (Zbu BEq.beq a G).isSome = true → a ∈ G.map Prod.fst
  | [], h => by simp [Zbu] at h
  | (k, u) :: r, h => by
    simp only [Zbu] at h
    cases e : (a == k) with
    | true => rw [beq_iff_eq] at e; subst e; exact List.mem_cons_self
    | false => rw [e] at h; exact List.mem_cons_of_mem _ (Ziz h)
theorem YcI {G : Nd} {S : List (List UInt8)} (hn : S.Nodup) (h : ∀ m ∈ S, (Zbu BEq.beq m G).isSome = true) : S.length ≤ G.length := by
  have := hn.length_le_of_subset (l₂ := G.map Prod.fst) fun m hm => Ziz (h m hm)
  simpa using this
def R68 (G : Nd) (out : List (DV × AV)) (S : List (List UInt8)) (name : List UInt8) (r : AV) (h' : List AObj) : Prop := r = .d (.tup []) ∧ ∃ S', WalkPost G S name S' ∧ h' = H68 G out S'
structure Mid (G : Nd) (S : List (List UInt8)) (name : List UInt8) (u : Bm) (vis : List Nat) (S' : List (List UInt8)) : Prop where
  nd : S'.Nodup
  sub : ∀ m ∈ S, m ∈ S'
  ing : ∀ m ∈ S', (Zbu BEq.beq m G).isSome = true
  vis : ∀ j ∈ vis, ∀ nm b, u[j]? = some (nm, b) → (Zbu BEq.beq nm G).isSome = true → nm ∈ S'
  new : ∀ m ∈ S', m ∉ S → Path G name m ∧ ∀ k, Edge G m k → k ∈ S'
theorem Ya4 : okC (C.ann 73) (.region 3 (Go.Abs.ops Zzy) false) = true := by kernel_rfl
theorem Ya0 : okC (C.ann 73) (.region 4 (Go.Abs.ops Zzw) false) = true := by kernel_rfl
theorem o68_5 : (opZ (opsL Znx)).guard = none ∧ (opZ (opsL Znx)).dst = some 28 ∧ (opZ (opsL Znx)).op = .call { callee := .value (.tmp 26), args := #[.tmp 27], argTypes := #[9] } := by
  refine ⟨?_, ?_, ?_⟩ <;> kernel_rfl
theorem ZvO : ∀ (n : Nat) (G : Nd) (out : List (DV × AV)) (S : List (List UInt8)) (name : List UInt8), S.Nodup → (∀ m ∈ S, (Zbu BEq.beq m G).isSome = true) → (Zbu BEq.beq name G).isSome = true → G.length - S.length < n →
    HasN Tryz.prog 73 (YcN name) (H68 G out S) (R68 G out S name) := by
  intro n
  induction n with
  | zero => intro G out S name _ _ _ h; omega
  | succ n ih =>
    intro G out S name hnd hing hname hlt
    obtain ⟨u, hu⟩ := Option.isSome_iff_exists.1 hname
    have hK : Zba C.P (fun _ _ _ => none : Zaa) := fun f args h r h' he => by cases he
    refine ZdW (C := C) (f := 73) (fn := Tryz.f73) Tryz.func73 Ycu (by kernel_rfl) ?_
    refine ZeL (call := fun _ _ _ => none) noCount hK YeQ (YbD G out S name u hu) o68_0.2.1 o68_0.1 o68_0.2.2 (by kernel_rfl) (by kernel_rfl) (show opA _ (.tmp 8) = some (.d (.fmap (ZfD u))) from rfl) YfG fun p => ?_
    have he : Zdk (Zgo 0 (YcN name)) 9 (SV.val (.raw p)) = e68 name p := rfl
    show Ydo C (C.ann 73) 9 p (ZfD u) _ ⟨Zdk (Zgo 0 (YcN name)) 9 (.val (.raw p)), [], H68 G out S⟩ _
    rw [he]
    refine ZkG (call := fun _ _ _ => none) noCount hK YfN o68_1.2.1 o68_1.1 o68_1.2.2 (by kernel_rfl) (by kernel_rfl) Yfq o68_2.2.1 o68_2.1 o68_2.2.2 (by kernel_rfl) (by kernel_rfl)
      (fun vis s => ∃ S', s = ⟨e68 name p, [], H68 G out S'⟩ ∧ Mid G S name u vis S') ⟨S, rfl, hnd, fun m h => h, hing, fun j h => by simp at h, fun m h h2 => absurd h h2⟩ (fun vis s ⟨S', hs, _⟩ => by subst hs; exact ⟨rfl, rfl⟩) ?_ ?_
    ·
      rintro vis s ⟨S', rfl, hM⟩ hall
      refine ⟨_, Zwq name p _ false [], rfl, ?_⟩
      refine ⟨[], rfl, rfl, S', ⟨hM.nd, hM.sub, hM.ing, fun m hm => ?_, hM.new⟩, rfl⟩
      obtain ⟨u', h1, h2, h3⟩ := hm
      rw [hu] at h1
      cases h1
      obtain ⟨q, hq, rfl⟩ := List.mem_map.1 h2
      obtain ⟨j, hj, rfl⟩ := List.mem_iff_getElem.1 hq
      exact hM.vis j (hall j (by simp [ZfD, hj])) u[j].1 u[j].2 (List.getElem?_eq_getElem hj) h3
    · rintro vis s j k v ⟨S', rfl, hM⟩ hj hjv
      rw [ZfD, List.getElem?_map] at hj
      cases huj : u[j]? with
      | none => rw [huj] at hj; cases hj
      | some q =>
        obtain ⟨nx, bb⟩ := q
        rw [huj] at hj
        cases hj
        refine ⟨_, _, Zwq name p _ true [.str nx, .bool bb], rfl, rfl, YaE name p _ (.str nx) (.bool bb), ?_⟩
        have hsub : ∀ (more : List (Nat × SV)) (S2 : List (List UInt8)), Sub ⟨e68 name p, [], H68 G out S2⟩ ((⟨e68 name p ++ more, [], H68 G out S2⟩ : St).trim (e68 name p ++ [(11, .val (.d (.bool true)))])) := by
          intro more S2
          refine ⟨fun kk vv hv => ?_, rfl, rfl⟩
          simp only [St.trim]
          rw [alook_trimE _ _ _ (by rw [Zbk hv]; rfl)]
          exact Zbk hv
        refine Zcr (Q1 := fun o => o = .norm ⟨e68 name p ++ [(11, .val (.d (.bool true))), (5, .val (.d (.str nx))), (23, .val (.d (.bool ((Zbu BEq.beq nx G).isSome && !decide (nx ∈ S')))))], [], H68 G out S'⟩) (Zcj (call := fun _ _ _ => none) noCount mixed hK Ya4 (Ya5 G out S' name nx p) rfl) ?_ (fun o h1 h2 => absurd h1 (h2 _))
        rintro s hs
        cases hs
        cases hc : ((Zbu BEq.beq nx G).isSome && !decide (nx ∈ S')) with
        | false =>
          refine Zhd (b := false) rfl (Zkz ?_)
          simp only [Zbw]
          refine ⟨_, ⟨S', rfl, hM.nd, hM.sub, hM.ing, fun i hi nm b hb hg => ?_, hM.new⟩, hsub _ S'⟩
          rcases List.mem_cons.1 hi with rfl | hi
          · rw [huj] at hb
            cases hb
            rw [hg] at hc
            simpa using hc
          · exact hM.vis i hi nm b hb hg
        | true =>
          rw [Bool.and_eq_true, Bool.not_eq_true', decide_eq_false_iff_not] at hc
          obtain ⟨hg, hns⟩ := hc
          have hnd2 : (S' ++ [nx]).Nodup := by
            rw [List.nodup_append]
            exact ⟨hM.nd, by simp, fun a ha b hb => by rw [List.mem_singleton] at hb; subst hb; exact fun e => hns (e ▸ ha)⟩
          have hing2 : ∀ m ∈ S' ++ [nx], (Zbu BEq.beq m G).isSome = true := fun m hm => by
            rcases List.mem_append.1 hm with hm | hm
            · exact hM.ing m hm
            · rw [List.mem_singleton] at hm; subst hm; exact hg
          have hedge : Edge G name nx := ⟨u, hu, List.mem_map.2 ⟨_, List.mem_of_getElem? huj, rfl⟩, hg⟩
          refine Zhd (b := true) rfl ?_
          simp only [cond_true]
          refine Zcr (Q1 := fun o => o = .norm ⟨e68 name p ++ [(11, .val (.d (.bool true))), (5, .val (.d (.str nx))), (23, .val (.d (.bool true)))], [], H68 G out (S' ++ [nx])⟩) (Zcj (call := fun _ _ _ => none) noCount mixed hK Ya0 (YaX G out S' hns _ rfl rfl) rfl) ?_ (fun o h1 h2 => absurd h1 (h2 _))
          rintro s hs
          cases hs
          have hle : S.length ≤ S'.length := hnd.length_le_of_subset fun m hm => hM.sub m hm
          have hle2 := YcI hnd2 hing2
          simp only [List.length_append, List.length_cons, List.length_nil] at hle2
          have hrec := ih G out (S' ++ [nx]) nx hnd2 hing2 hg (by simp only [List.length_append, List.length_cons, List.length_nil]; omega)
          refine ZgY (call := fun _ _ _ => none) noCount hK Ye3 (YaV G out (S' ++ [nx]) nx _ rfl rfl) o68_5.1
            (Zhq noCount o68_5.2.2 rfl (fv := .fn 73 [.ptr 1 0, .ptr 4 0, .ptr 5 0]) (vs := [.d (.str nx)]) (caps := [.ptr 1 0, .ptr 4 0, .ptr 5 0]) rfl rfl rfl hrec (fun r h' _ => by
              rw [o68_5.2.1]
              exact ⟨_, rfl⟩)) ?_
          rintro s ⟨r, h', ⟨rfl, S2, hP, rfl⟩, hput⟩
          rw [o68_5.2.1] at hput
          cases hput
          simp only [Zbw]
          have hnew : nx ∈ S2 := hP.sub nx (by simp)
          refine ⟨_, ⟨S2, rfl, hP.nd, fun m hm => hP.sub m (List.mem_append_left _ (hM.sub m hm)), hP.ing, fun i hi nm b hb hg2 => ?_, fun m hm hmS => ?_⟩, hsub _ S2⟩
          · rcases List.mem_cons.1 hi with rfl | hi
            · rw [huj] at hb
              cases hb
              exact hnew
            · exact hP.sub nm (List.mem_append_left _ (hM.vis i hi nm b hb hg2))
          · by_cases h1 : m ∈ S'
            · obtain ⟨g1, g2⟩ := hM.new m h1 hmS
              exact ⟨g1, fun k hk => hP.sub k (List.mem_append_left _ (g2 k hk))⟩
            · by_cases h2 : m = nx
              · subst h2
                exact ⟨.one hedge, fun k hk => hP.next k hk⟩
              · obtain ⟨g1, g2⟩ := hP.new m hm (by simp [h1, h2])
                exact ⟨.step hedge g1, g2⟩
end Go.Tev.S1
namespace Go.Abs
section
variable {C : Ctx} {call : Zaa} {fa : FA} {st s : St} {x y : Code} {Q : Out → Prop}
theorem Zbg (hn : Zbj C.P) (hm : C.P.follows .mixedOrders = true) (hK : Zba C.P call) {n : Nat} (hok : okC fa x = true) (h : evQ C call fa n x st = some (.norm s)) (h2 : Tri C fa y s Q) : Tri C fa (.seq x y) st Q :=
  Zcr (Q1 := fun o => o = .norm s) (Zcj hn hm hK hok h rfl) (fun s' hs => by cases hs; exact h2) (fun o h1 h2 => absurd h1 (h2 _))
end
end Go.Abs
namespace Go.Tev.S1
open Go.Abs Go.Proofs
noncomputable abbrev B44 : Code := Zad Tryz.f62
noncomputable abbrev X44 : Code := sq1 (sq2 (sq2 B44))
noncomputable abbrev Y44 : Code := sq2 (sq2 (sq2 B44))
noncomputable abbrev Z44 : Code := sq1 (sq2 Y44)
noncomputable abbrev L44 : Code := inn (inn (sq2 X44))
noncomputable abbrev M44 : Code := inn (inn (sq2 Z44))
noncomputable abbrev K44 : Code := inn (sq1 (sq2 (sq2 M44)))
noncomputable abbrev Zx5 : Code := sq1 B44
noncomputable abbrev ZzS : Code := sq1 (sq2 B44)
noncomputable abbrev ZxI : Code := sq1 X44
noncomputable abbrev Zyw : Code := sq1 Y44
noncomputable abbrev ZzC : Code := sq1 Z44
noncomputable abbrev Zo8 : Code := sq1 M44
noncomputable abbrev Zpd : Code := sq1 K44
noncomputable abbrev ZpC : Code := sq1 (sq2 K44)
noncomputable abbrev ZpH : Code := sq1 (sq2 (sq2 K44))
noncomputable abbrev Zqr : Code := sq1 (sq2 (sq2 (sq2 K44)))
noncomputable abbrev ZhO : Code := sq1 (sq2 (sq2 (sq2 (sq2 K44))))
noncomputable abbrev ZpK : Code := sq2 (sq2 (sq2 (sq2 (sq2 K44))))
noncomputable abbrev ZpJ : Code := sq2 (sq2 (sq2 M44))
noncomputable abbrev Ztf : Code := sq1 (sq2 (sq2 Y44))
theorem Ybt : Tryz.f62.body = some (.seq Zx5 (.seq ZzS (.seq (.seq ZxI (.block 0 (.loop L44))) (.seq Zyw (.seq (.seq ZzC (.block 2 (.loop (.seq Zo8 (.seq (.cond (.tmp 34) .skip (.exit 2)) (.seq (.block 3 (.seq Zpd (.seq ZpC (.seq ZpH (.seq Zqr (.seq (.region 15 (Go.Abs.ops ZhO) false) ZpK)))))) ZpJ)))))) (.seq Ztf .ret)))))) := by kernel_rfl
def Zbq (raw : List Cus) : Nd := raw.map fun x => (x.name, Zeo [] x.val)
def d44 (raw : List Cus) : DV := .slc (raw.map Cus.enc)
def e44 (raw : List Cus) (i : Nat) : List (Nat × SV) := [(0, .val (.d (d44 raw))), (2, .val (.d .nilm)), (3, .val (.ptr 1 0)), (12, .val (.d (d44 raw))), (13, .val (.d (.int .i64 raw.length))), (14, .val (.d (.int .i64 i)))]
def h44 (G : Nd) : List AObj := [.map (Znp G), .var [.mp 0]]
theorem ZrQ : C.elemSize 23 = some 2 := by kernel_rfl
theorem zz98 : C.zero 107 = some .nilm := by kernel_rfl
theorem zz61 : C.zero 62 = some .nilm := by kernel_rfl
theorem zz99 : C.zero 108 = some .nilf := by kernel_rfl
theorem sz98 : C.size 107 = some 1 := by kernel_rfl
theorem sz61 : C.size 62 = some 1 := by kernel_rfl
theorem sz99 : C.size 108 = some 1 := by kernel_rfl
theorem YcR : C.size 39 = some 2 := by kernel_rfl
theorem YcQ : C.zero 39 = some (.agg [.str [], .slc []]) := by kernel_rfl
theorem YcK : C.isAgg 39 = some true := by kernel_rfl
theorem ag9 : C.isAgg 9 = some false := by kernel_rfl
theorem ZxZ : C.isAgg 22 = some false := by kernel_rfl
theorem Zje : C.field 39 0 = some ⟨ "Name", 9, 0, false, "", "", 0⟩ := by kernel_rfl
theorem ZnK : C.field 39 1 = some ⟨ "Value", 22, 1, false, "", "", 16⟩ := by kernel_rfl
theorem hz9 : C.hasSize 9 = true := by kernel_rfl
theorem Zx3 : C.hasSize 22 = true := by kernel_rfl
section
attribute [local simp] List.getElem?_cons_zero Option.bind_some Zgw ZbR Zbp ZaW ZbC Za8 ZaM ZcG ZbB Za7 Zbz Zby ZcH ZbA Za9 ZaK ZcB Zau Zaw Zeh ZaQ Zbs Zbm Zbx Zbn has opx opd opA opD XV.flat XV.copy oD oA Zab ins ZeT Zcg St.put St.putOwn St.lose St.loseEnv unal Zem Zep ZfC dUn Zdk Zag ZaV ZaX ZaF Zal ZaZ Za1 ZaU Zd2 ZaG AV.cells AV.cellOk AV.single DV.cellOk Zgs Zgt Zgx DV.cells Zak Zb1 Zah ZaS Zam ZaL ZeB Zaq ZcF mapO AV.toD Zai ZaO ZbO optD ZaT ZaE Zca Zae ZaP Zay Za5 Zao Zbl ZbF ZaI St.trim Out.st
theorem YaT {call : Zaa} (raw : List Cus) : evQ C call (ann 62) 0 Zx5 ⟨Zgo 0 [.d (d44 raw)], [], []⟩ = some (.norm ⟨[(0, .val (.d (d44 raw))), (2, .val (.d .nilm))], [], []⟩) := by
  unfold Zx5 B44 Zad Tryz.f62
  simp only [Option.getD_some, sq1, Zgo]
  simp [-getElem?_pos, A62, Zan]
theorem YbY {call : Zaa} (raw : List Cus) : evQ C call (ann 62) 0 ZzS ⟨[(0, .val (.d (d44 raw))), (2, .val (.d .nilm))], [], []⟩ = some (.norm ⟨[(0, .val (.d (d44 raw))), (2, .val (.d .nilm)), (3, .val (.ptr 1 0))], [], h44 []⟩) := by
  unfold ZzS B44 Zad Tryz.f62 h44 Znp
  simp only [Option.getD_some, sq1, sq2]
  simp [-getElem?_pos, A62, Zan, m98, zz98, sz98, List.getElem?_append]
theorem YaK {call : Zaa} (raw : List Cus) : evQ C call (ann 62) 0 ZxI ⟨[(0, .val (.d (d44 raw))), (2, .val (.d .nilm)), (3, .val (.ptr 1 0))], [], h44 []⟩ = some (.norm ⟨e44 raw 0, [], h44 []⟩) := by
  unfold ZxI X44 B44 Zad Tryz.f62 h44 e44 d44
  simp only [Option.getD_some, sq1, sq2]
  simp [-getElem?_pos, A62, Zan, ZrQ]
end
theorem Zqx (a : List UInt8) (v : AV) : ∀ G : Nd, Zbu BEq.beq a G = none → ZqW (.str a) v (Znp G) = some (Znp G ++ [(.str a, v)])
  | [], _ => rfl
  | (k, u) :: r, h => by
    simp only [Zbu] at h
    cases e : (a == k) with
    | true => rw [e] at h; cases h
    | false =>
      rw [e] at h
      have ih := Zqx a v r h
      simp only [Znp, List.map_cons, List.cons_append, ZqW, ZdT, e] at ih ⊢
      simp only [ih, Option.map_some]
theorem Zp4 (a : List UInt8) (v : AV) : ∀ G : Nd, Zbu BEq.beq a G = none → Zgb (.str a) (Znp G ++ [(.str a, v)]) = some (some v)
  | [], _ => by simp [Znp, Zgb, ZdT]
  | (k, u) :: r, h => by
    simp only [Zbu] at h
    cases e : (a == k) with
    | true => rw [e] at h; cases h
    | false =>
      rw [e] at h
      have ih := Zp4 a v r h
      simp only [Znp, List.map_cons, List.cons_append, Zgb, ZdT, e] at ih ⊢
      exact ih
theorem Zk1 {raw : List Cus} {i : Nat} {x : Cus} (h : raw[i]? = some x) : (raw.map Cus.enc)[i]? = some (.agg [.str x.name, .slc (x.val.map Val.enc)]) := by rw [List.getElem?_map, h]; rfl
theorem Ycy {raw : List Cus} {i : Nat} (h : i < raw.length) : idx (i : Int) raw.length = some i := Zts h
section
attribute [local simp] List.getElem?_cons_zero Option.bind_some Zgw ZbR Zbp ZaW ZbC Za8 ZaM ZcG ZbB Za7 Zbz Zby ZcH ZbA Za9 ZaK ZcB Zau Zaw Zeh ZaQ Zbs Zbm Zbx Zbn has opx opd opA opD XV.flat XV.copy oD oA Zab ins ZeT Zcg St.put St.putOwn St.lose St.loseEnv unal Zem Zep ZfC dUn Zdk Zag ZaV ZaX ZaF Zal ZaZ Za1 ZaU Zd2 ZaG AV.cells AV.cellOk AV.single DV.cellOk Zgs Zgt Zgx DV.cells Zak Zb1 Zah ZaS Zam ZaL ZeB Zaq ZcF mapO AV.toD Zai ZaO ZbO optD ZaT ZaE Zca Zae ZaP Zay Za5 Zao Zbl ZbF ZaI St.trim Out.st
theorem YbV {call : Zaa} (raw : List Cus) (i : Nat) (x : Cus) (hx : raw[i]? = some x) (hl : raw.length < 2 ^ 40) (G : Nd) (hG : Zbu BEq.beq x.name G = none) (h' : List AObj)
    (h34 : call 36 [.d (.slc (x.val.map Val.enc)), .mp 2] [.map (Znp G ++ [(.str x.name, .mp 2)]), .var [.mp 0], .map []] = some (.d (.tup []), h')) :
    evQ C call (ann 62) 0 L44 ⟨e44 raw i, [], h44 G⟩ = some (.norm ⟨e44 raw (i + 1) ++ [(15, .val (.d (.bool true)))], [], h'⟩) := by
  have hlt : i < raw.length := (List.getElem?_eq_some_iff.1 hx).1
  have hd : decide ((i : Int) < (raw.length : Int)) = true := dlt hlt
  have hw : IntKind.i64.wrap ((i : Int) + 1) = (i : Int) + 1 := wrap_add1 (by omega)
  have hg := Zk1 hx
  have hi := Ycy hlt
  unfold L44 X44 B44 Zad Tryz.f62 e44 d44 h44
  simp only [Option.getD_some, sq1, sq2, inn]
  simp [-getElem?_pos, A62, Zan, ZrQ, hlt, hw, hg, hi, YcK, YcR, YcQ, Zje, ZnK, hz9, Zx3, ag9, ZxZ, Yaz, Zqx _ _ G hG, Zp4 _ _ G hG, ZbP, z98, k98, Yc3, Zh1, AV.toD, h34, St.trim, ZaI, List.getElem?_append, AV.cellOk, -List.getElem?_map]
theorem Yb4 {call : Zaa} (raw : List Cus) (G : Nd) : evQ C call (ann 62) 0 L44 ⟨e44 raw raw.length, [], h44 G⟩ = some (.exit 0 ⟨e44 raw raw.length ++ [(15, .val (.d (.bool false)))], [], h44 G⟩) := by
  unfold L44 X44 B44 Zad Tryz.f62 e44 d44 h44
  simp only [Option.getD_some, sq1, sq2, inn]
  simp [-getElem?_pos, A62, Zan]
end
end Go.Tev.S1
namespace Go.Tev.S1
open Go.Abs Go.Proofs
def ZoM (O : Bm) : List (DV × AV) := O.map fun p => (.str p.1, .d (.bool p.2))
def f44 (raw : List Cus) (i : Nat) : List (Nat × SV) := [(0, .val (.d (d44 raw))), (2, .val (.d .nilm)), (3, .val (.ptr 1 0)), (6, .val (.mp 2)), (31, .val (.d (d44 raw))), (32, .val (.d (.int .i64 raw.length))), (33, .val (.d (.int .i64 i)))]
def g44 (G : Nd) (O : Bm) : List AObj := [.map (Znp G), .var [.mp 0], .map (ZoM O)]
def b44 (x : Cus) : Nat × SV := (8, .box [.str x.name, .slc (x.val.map Val.enc)])
theorem ZlU (a : List UInt8) (b : Bool) : ∀ O : Bm, a ∉ Zcf O → ZqW (.str a) (.d (.bool b)) (ZoM O) = some (ZoM (O ++ [(a, b)]))
  | [], _ => rfl
  | (k, c) :: r, h => by
    have ih := ZlU a b r (fun hm => h (List.mem_cons_of_mem _ hm))
    have e : (a == k) = false := by
      rw [beq_eq_false_iff_ne]
      intro e
      exact h (by rw [e]; exact List.mem_cons_self)
    simp only [ZoM, List.map_cons, List.cons_append, ZqW, ZdT, e] at ih ⊢
    simp only [ih, Option.map_some]
section
attribute [local simp] List.getElem?_cons_zero Option.bind_some Zgw ZbR Zbp ZaW ZbC Za8 ZaM ZcG ZbB Za7 Zbz Zby ZcH ZbA Za9 ZaK ZcB Zau Zaw Zeh ZaQ Zbs Zbm Zbx Zbn has opx opd opA opD XV.flat XV.copy oD oA Zab ins ZeT Zcg St.put St.putOwn St.lose St.loseEnv unal Zem Zep ZfC dUn Zdk Zag ZaV ZaX ZaF Zal ZaZ Za1 ZaU Zd2 ZaG AV.cells AV.cellOk AV.single DV.cellOk Zgs Zgt Zgx DV.cells Zak Zb1 Zah ZaS Zam ZaL ZeB Zaq ZcF mapO AV.toD Zai ZaO ZbO optD ZaT ZaE Zca Zae ZaP Zay Za5 Zao Zbl ZbF ZaI St.trim Out.st
theorem YbX {call : Zaa} (raw : List Cus) (G : Nd) : evQ C call (ann 62) 0 Zyw ⟨[(0, .val (.d (d44 raw))), (2, .val (.d .nilm)), (3, .val (.ptr 1 0))], [], h44 G⟩ = some (.norm ⟨[(0, .val (.d (d44 raw))), (2, .val (.d .nilm)), (3, .val (.ptr 1 0)), (6, .val (.mp 2))], [], g44 G []⟩) := by
  unfold Zyw Y44 B44 Zad Tryz.f62 h44 g44 ZoM
  simp only [Option.getD_some, sq1, sq2]
  simp [-getElem?_pos, A62, Zan, Yaz]
theorem YbH {call : Zaa} (raw : List Cus) (G : Nd) : evQ C call (ann 62) 0 ZzC ⟨[(0, .val (.d (d44 raw))), (2, .val (.d .nilm)), (3, .val (.ptr 1 0)), (6, .val (.mp 2))], [], g44 G []⟩ = some (.norm ⟨f44 raw 0, [], g44 G []⟩) := by
  unfold ZzC Z44 Y44 B44 Zad Tryz.f62 f44 d44
  simp only [Option.getD_some, sq1, sq2]
  simp [-getElem?_pos, A62, Zan, ZrQ]
theorem Zsi {call : Zaa} (raw : List Cus) (i : Nat) (h : List AObj) : evQ C call (ann 62) 0 Zo8 ⟨f44 raw i, [], h⟩ = some (.norm ⟨f44 raw i ++ [(34, .val (.d (.bool (decide ((i : Int) < (raw.length : Int))))))], [], h⟩) := by
  unfold Zo8 M44 Z44 Y44 B44 Zad Tryz.f62 f44
  simp only [Option.getD_some, sq1, sq2, inn]
  simp [-getElem?_pos, A62, Zan]
theorem Zyc {call : Zaa} (raw : List Cus) (i : Nat) (x : Cus) (hx : raw[i]? = some x) (h : List AObj) (v : SV) : evQ C call (ann 62) 0 Zpd ⟨f44 raw i ++ [(34, v)], [], h⟩ = some (.norm ⟨f44 raw i ++ [(34, v), b44 x], [], h⟩) := by
  have hlt : i < raw.length := (List.getElem?_eq_some_iff.1 hx).1
  have hg := Zk1 hx
  have hi := Ycy hlt
  unfold Zpd K44 M44 Z44 Y44 B44 Zad Tryz.f62 f44 b44 d44
  simp only [Option.getD_some, sq1, sq2, inn]
  simp [-getElem?_pos, A62, Zan, ZrQ, hg, hi, YcK, YcR, YcQ, -List.getElem?_map]
theorem ZxQ {call : Zaa} (raw : List Cus) (i : Nat) (x : Cus) (G : Nd) (O : Bm) (v : SV) : evQ C call (ann 62) 0 ZpC ⟨f44 raw i ++ [(34, v), b44 x], [], g44 G O⟩ = some (.norm ⟨f44 raw i ++ [(34, v), b44 x, (9, .val (.ptr 4 0))], [], g44 G O ++ [.map [], .var [.mp 3]]⟩) := by
  unfold ZpC K44 M44 Z44 Y44 B44 Zad Tryz.f62 f44 b44 g44
  simp only [Option.getD_some, sq1, sq2, inn]
  simp [-getElem?_pos, A62, Zan, Yaz, zz61, sz61, AV.cellOk]
theorem Zyg {call : Zaa} (raw : List Cus) (i : Nat) (x : Cus) (G : Nd) (O : Bm) (v : SV) : evQ C call (ann 62) 0 ZpH ⟨f44 raw i ++ [(34, v), b44 x, (9, .val (.ptr 4 0))], [], g44 G O ++ [.map [], .var [.mp 3]]⟩ = some (.norm ⟨f44 raw i ++ [(34, v), b44 x, (9, .val (.ptr 4 0)), (10, .val (.ptr 5 0))], [], g44 G O ++ [.map [], .var [.mp 3], .var [.d .nilf]]⟩) := by
  unfold ZpH K44 M44 Z44 Y44 B44 Zad Tryz.f62 f44 b44 g44
  simp only [Option.getD_some, sq1, sq2, inn]
  simp [-getElem?_pos, A62, Zan, zz99, sz99, AV.cellOk]
theorem ZyD {call : Zaa} (raw : List Cus) (i : Nat) (x : Cus) (G : Nd) (O : Bm) (v : SV) : evQ C call (ann 62) 0 Zqr ⟨f44 raw i ++ [(34, v), b44 x, (9, .val (.ptr 4 0)), (10, .val (.ptr 5 0))], [], g44 G O ++ [.map [], .var [.mp 3], .var [.d .nilf]]⟩ = some (.norm ⟨f44 raw i ++ [(34, v), b44 x, (9, .val (.ptr 4 0)), (10, .val (.ptr 5 0))], [], H68 G (ZoM O) []⟩) := by
  unfold Zqr K44 M44 Z44 Y44 B44 Zad Tryz.f62 f44 b44 g44 H68
  simp only [Option.getD_some, sq1, sq2, inn]
  simp [-getElem?_pos, A62, Zan, sz99, AV.cellOk, ZuO, AV.toD, Zrn]
theorem Zyr {call : Zaa} {all : List Oper} (raw : List Cus) (i : Nat) (x : Cus) (G : Nd) (O : Bm) (v : SV) : Zan C call (ann 62) all ((opsL ZhO).take 3) ⟨f44 raw i ++ [(34, v), b44 x, (9, .val (.ptr 4 0)), (10, .val (.ptr 5 0))], [], H68 G (ZoM O) []⟩ =
    some ⟨f44 raw i ++ [(34, v), b44 x, (9, .val (.ptr 4 0)), (10, .val (.ptr 5 0))], [(41, .a (.d (.str x.name))), (40, .sp 8 0), (39, .a (.fn 73 [.ptr 1 0, .ptr 4 0, .ptr 5 0]))], H68 G (ZoM O) []⟩ := by
  unfold opsL Go.Abs.ops ZhO K44 M44 Z44 Y44 B44 Zad Tryz.f62 f44 b44 H68
  simp only [Option.getD_some, sq1, sq2, inn]
  simp [-getElem?_pos, A62, Zan, ag99, Zje, hz9, ag9]
theorem Ydn : (Go.Abs.ops ZhO).toList = (opsL ZhO).take 3 ++ [opZ (opsL ZhO)] := by kernel_rfl
theorem o44_15 : (opZ (opsL ZhO)).guard = none ∧ (opZ (opsL ZhO)).dst = some 42 ∧ (opZ (opsL ZhO)).op = .call { callee := .value (.tmp 39), args := #[.tmp 41], argTypes := #[9] } := by
  refine ⟨?_, ?_, ?_⟩ <;> kernel_rfl
theorem Zx1 {call : Zaa} (raw : List Cus) (i : Nat) (x : Cus) (G : Nd) (O : Bm) (S : List (List UInt8)) (v : SV) (hO : x.name ∉ Zcf O) : evQ C call (ann 62) 0 ZpK ⟨f44 raw i ++ [(34, v), b44 x, (9, .val (.ptr 4 0)), (10, .val (.ptr 5 0))], [], H68 G (ZoM O) S⟩ =
    some (.norm ⟨f44 raw i ++ [(34, v), b44 x, (9, .val (.ptr 4 0)), (10, .val (.ptr 5 0))], [], H68 G (ZoM (O ++ [(x.name, decide (x.name ∈ S))])) S⟩) := by
  unfold ZpK K44 M44 Z44 Y44 B44 Zad Tryz.f62 f44 b44 H68
  simp only [Option.getD_some, sq1, sq2, inn]
  by_cases hs : x.name ∈ S
  · simp [-getElem?_pos, A62, Zan, Zje, hz9, ag9, YcL, ZbP, z61, k61, Zfu, ZlU _ _ O hO, AV.cellOk, hs]
  · simp [-getElem?_pos, A62, Zan, Zje, hz9, ag9, YcL, ZbP, z61, k61, Zfu, ZlU _ _ O hO, AV.cellOk, hs]
theorem Zys {call : Zaa} (raw : List Cus) (i : Nat) (hl : i + 1 < 2 ^ 63) (h : List AObj) (v : SV) : evQ C call (ann 62) 0 ZpJ ⟨f44 raw i ++ [(34, v)], [], h⟩ = some (.norm ⟨f44 raw (i + 1) ++ [(34, v)], [], h⟩) := by
  have hw : IntKind.i64.wrap ((i : Int) + 1) = (i : Int) + 1 := wrap_add1 hl
  unfold ZpJ M44 Z44 Y44 B44 Zad Tryz.f62 f44
  simp only [Option.getD_some, sq1, sq2, inn]
  simp [-getElem?_pos, A62, Zan, hw]
theorem ZxR {call : Zaa} (raw : List Cus) (i : Nat) (h : List AObj) : evQ C call (ann 62) 0 Ztf ⟨f44 raw i, [], h⟩ = some (.norm ⟨[(0, .val (.d (d44 raw))), (2, .val (.mp 2)), (3, .val (.ptr 1 0)), (6, .val (.mp 2)), (31, .val (.d (d44 raw))), (32, .val (.d (.int .i64 raw.length))), (33, .val (.d (.int .i64 i)))], [], h⟩) := by
  unfold Ztf Y44 B44 Zad Tryz.f62 f44
  simp only [Option.getD_some, sq1, sq2]
  simp [-getElem?_pos, A62, Zan]
end
end Go.Tev.S1
namespace Go.Abs
theorem sub_list {env1 e0 : List (Nat × SV)} {s : St} (h : ∀ p ∈ env1, Zab s.env p.1 = some p.2 ∧ (Zab e0 p.1).isSome = true) : Sub ⟨env1, [], s.heap⟩ (s.trim e0) := by
  refine ⟨fun k v hv => ?_, rfl, rfl⟩
  obtain ⟨h1, h2⟩ := h (k, v) (alook_mem0' hv)
  simp only [St.trim]
  rw [Go.Tev.alook_trimE _ _ _ h2]
  exact h1
where
  alook_mem0' {α : Type} : ∀ {l : List (Nat × α)} {t : Nat} {v : α}, Zab l t = some v → (t, v) ∈ l
    | [], t, v, h => by simp [Zab] at h
    | (k, u) :: l, t, v, h => by
      simp only [Zab] at h
      cases hb : Nat.beq k t with
      | true =>
        rw [hb] at h
        have := Nat.eq_of_beq_eq_true hb
        cases h
        subst this
        exact List.mem_cons_self
      | false =>
        rw [hb] at h
        exact List.mem_cons_of_mem _ (alook_mem0' h)
theorem Zr8 {s : St} (h : s.tmp = []) : Sub s s := ⟨fun _ _ h => h, h, rfl⟩
end Go.Abs
namespace Go.Tev.S1
open Go.Abs Go.Proofs
open Classical in
noncomputable def ZbI (raw : List Cus) : Bm := raw.map fun x => (x.name, decide (Path (Zbq raw) x.name x.name))
theorem Zaj : Zba C.P (Zac C K0) := Zl6 noCount mixed YdH
theorem Zz1 : okC (C.ann 62) L44 = true := by kernel_rfl
theorem ZjR (l : List Val) (hl : Zaz l ≤ B) (a b : AObj) : ∃ h', Zac C K0 36 [.d (.slc (l.map Val.enc)), .mp 2] [a, b, .map []] = some (.d (.tup []), h') ∧ h'[0]? = some a ∧ h'[1]? = some b ∧ h'[2]? = some (.map ((ZfD (Zeo [] l)).map fun p => (p.1, .d p.2))) := by
  obtain ⟨d, h', h1, h2, h3, h4, h5⟩ := Zpt (K := K0) Zjl [.l (X := X) 51 l] l [.slc (l.map Val.enc)] [2] [.d (.slc (l.map Val.enc)), .mp 2] ([], ()) [a, b, .map []] ((), (Zeo [] l, ())) (fun _ => .tup []) rfl rfl rfl (by simp) ⟨⟨_, rfl, rfl⟩, trivial⟩ (Zrm hl) rfl
  cases h1
  obtain ⟨⟨ao, h6, h7⟩, _⟩ := h3
  have h7 : ao = .map ((Zeo [] l).map fun p => (DV.str p.1, AV.d (DV.bool p.2))) := h7
  subst h7
  refine ⟨h', h2, ?_, ?_, ?_⟩
  · rw [h4 0 (by simp) (by simp)]; rfl
  · rw [h4 1 (by simp) (by simp)]; rfl
  · rw [h6, ZfD, List.map_map]; rfl
theorem ZoY {a : List UInt8} : ∀ {G : Nd}, a ∉ G.map Prod.fst → Zbu BEq.beq a G = none
  | [], _ => rfl
  | (k, u) :: r, h => by
    simp only [List.map_cons, List.mem_cons, not_or] at h
    simp only [Zbu]
    have : (a == k) = false := by simpa using h.1
    rw [this]
    exact ZoY h.2
theorem ZlZ (raw : List Cus) : (Zbq raw).map Prod.fst = raw.map Cus.name := by simp [Zbq, List.map_map, Function.comp_def]
theorem Zn8 {raw : List Cus} {i : Nat} {x : Cus} (hn : (raw.map Cus.name).Nodup) (hx : raw[i]? = some x) : x.name ∉ (raw.take i).map Cus.name := by
  intro hm
  obtain ⟨y, hy, he⟩ := List.mem_map.1 hm
  obtain ⟨j, hj, rfl⟩ := List.mem_iff_getElem.1 hy
  have hi : i < raw.length := (List.getElem?_eq_some_iff.1 hx).1
  have hxi : raw[i] = x := (List.getElem?_eq_some_iff.1 hx).2
  have hj1 : j < i := by simp at hj; omega
  have hj2 : j < raw.length := by omega
  rw [List.getElem_take] at he
  have := (List.getElem_inj hn (i := j) (j := i) (h₀ := by simpa using hj2) (h₁ := by simpa using hi)).1 (by simp [he, hxi])
  omega
theorem Zq0 {G : Nd} {S : List (List UInt8)} (hc : ∀ m ∈ S, ∀ k, Edge G m k → k ∈ S) {a b : List UInt8} (h : Path G a b) : a ∈ S → b ∈ S := by
  induction h with
  | one h => exact fun ha => hc _ ha _ h
  | step h t ih => exact fun ha => ih (hc _ ha _ h)
theorem Zvd {G : Nd} {a b : List UInt8} {S : List (List UInt8)} (h : WalkPost G [] a S) : b ∈ S ↔ Path G a b := by
  have hc : ∀ m ∈ S, ∀ k, Edge G m k → k ∈ S := fun m hm k hk => (h.new m hm (by simp)).2 k hk
  constructor
  · intro hb; exact (h.new b hb (by simp)).1
  · intro hp
    cases hp with
    | one e => exact h.next _ e
    | step e t => exact Zq0 hc t (h.next _ e)
def YaR (e : List (Nat × SV)) (h : List AObj) : Out → Prop := fun o => ∃ s, o = .norm s ∧ Sub ⟨e, [], h⟩ s
theorem Zhm {e : List (Nat × SV)} {h : List AObj} {c d : Code} {st : St} {fa : FA} {Q : Out → Prop} (h1 : Tri C fa c st (YaR e h)) (h2 : Tri C fa d ⟨e, [], h⟩ Q) : Tri C fa (.seq c d) st Q :=
  Zcr h1 (fun s ⟨s', hs, hsub⟩ => by cases hs; exact Zk4 hsub h2) (fun o ⟨s, hs, _⟩ hne => absurd hs (hne s))
def p44 (raw : List Cus) : List (Nat × SV) := [(0, .val (.d (d44 raw))), (2, .val (.d .nilm)), (3, .val (.ptr 1 0))]
theorem Zyf (raw : List Cus) (hn : (raw.map Cus.name).Nodup) (hok : Zgv raw) : Tri C (C.ann 62) (.block 0 (.loop L44)) ⟨e44 raw 0, [], h44 []⟩ (YaR (p44 raw) (h44 (Zbq raw))) := by
  have hB : B = 2 ^ 36 := rfl
  have hV : V = 2 ^ 24 := rfl
  have hlen : raw.length < 2 ^ 40 := by have := hok.1; omega
  refine ZeK ?_
  refine ZiO (fun m s => ∃ i, i ≤ raw.length ∧ m = raw.length - i ∧ s = ⟨e44 raw i, [], h44 (Zbq (raw.take i))⟩) (n := raw.length) ⟨0, Nat.zero_le _, rfl, rfl⟩ ?_
  rintro m s ⟨i, hi, rfl, rfl⟩
  rcases Nat.lt_or_ge i raw.length with hlt | hge
  · have hx := List.getElem?_eq_getElem hlt
    have hnew := Zn8 hn hx
    have hG : Zbu BEq.beq raw[i].name (Zbq (raw.take i)) = none := ZoY (by rw [ZlZ]; exact hnew)
    obtain ⟨h', g1, g2, g3, g4⟩ := ZjR raw[i].val (Nat.le_trans (hok.2 raw[i] (List.getElem_mem hlt)) (by rw [hB, hV]; decide)) (.map (Znp (Zbq (raw.take i)) ++ [(.str raw[i].name, .mp 2)])) (.var [.mp 0])
    refine Zr6 (n := 2) (by simp [h44]) ?_
    refine Zcj (call := Zac C K0) noCount mixed Zaj Zz1 (YbV raw i raw[i] hx hlen _ hG h' g1) ?_
    refine ⟨⟨e44 raw (i + 1), [], h44 (Zbq (raw.take (i + 1)))⟩, ⟨rfl, rfl, ?_, ?_⟩, ?_⟩
    · intro id o2 ho
      rcases id with _ | _ | id
      · refine ⟨_, g2, ?_⟩
        cases ho
        have hgr : Znp (Zbq (raw.take (i + 1))) = Znp (Zbq (raw.take i)) ++ [(.str raw[i].name, .d (.fmap (ZfD (Zeo [] raw[i].val))))] := by
          rw [Zcm hx]; simp only [Zbq, Znp, List.map_append, List.map_cons, List.map_nil]
        rw [hgr]
        refine .map _ _ (by simp) fun j a b ha hb => ?_
        rcases Nat.lt_or_ge j (Znp (Zbq (raw.take i))).length with hj | hj
        · rw [List.getElem?_append_left hj] at ha hb
          rw [ha] at hb
          cases hb
          refine ⟨rfl, ?_⟩
          have hm := List.mem_of_getElem? ha
          obtain ⟨p, _, rfl⟩ := List.mem_map.1 hm
          exact .d _
        · rw [List.getElem?_append_right hj] at ha hb
          have hj0 : j - (Znp (Zbq (raw.take i))).length = 0 := by
            have := (List.getElem?_eq_some_iff.1 ha).1
            simp at this; omega
          rw [hj0] at ha hb
          cases ha
          cases hb
          exact ⟨rfl, .frz 2 _ (Nat.le_refl _) g4⟩
      · refine ⟨_, g3, ?_⟩
        cases ho
        refine .var _ _ rfl fun j a b ha hb => ?_
        rcases j with _ | j
        · cases ha; cases hb; exact .mp 0 (by decide)
        · simp at ha
      · simp [h44] at ho
    · intro k v2 hv
      refine ⟨v2, Zbk hv, ?_⟩
      have hm := sub_list.alook_mem0' hv
      simp only [e44, List.mem_cons, List.not_mem_nil, or_false, Prod.mk.injEq] at hm
      rcases hm with ⟨_, rfl⟩ | ⟨_, rfl⟩ | ⟨_, rfl⟩ | ⟨_, rfl⟩ | ⟨_, rfl⟩ | ⟨_, rfl⟩
      · exact .val _ _ (.d _)
      · exact .val _ _ (.d _)
      · exact .val _ _ (.ptr 1 0 (by decide))
      · exact .val _ _ (.d _)
      · exact .val _ _ (.d _)
      · exact .val _ _ (.d _)
    · exact ⟨_, _, by omega, ⟨i + 1, hlt, rfl, rfl⟩, Zr8 rfl⟩
  · have he : i = raw.length := by omega
    subst he
    refine Zcj (call := Zac C K0) noCount mixed Zaj Zz1 (Yb4 raw _) ?_
    simp only [Zbw]
    refine ⟨_, rfl, ?_⟩
    rw [List.take_length]
    refine sub_list (s := ⟨e44 raw raw.length ++ [(15, .val (.d (.bool false)))], [], h44 (Zbq raw)⟩) fun p hp => ?_
    simp only [p44, List.mem_cons, List.not_mem_nil, or_false] at hp
    rcases hp with rfl | rfl | rfl <;> exact ⟨rfl, rfl⟩
theorem YdS : okC (C.ann 62) Zx5 = true ∧ okC (C.ann 62) ZzS = true ∧ okC (C.ann 62) ZxI = true ∧ okC (C.ann 62) Zyw = true ∧ okC (C.ann 62) ZzC = true ∧ okC (C.ann 62) Zo8 = true ∧ okC (C.ann 62) Zpd = true ∧ okC (C.ann 62) ZpC = true ∧
    okC (C.ann 62) ZpH = true ∧ okC (C.ann 62) Zqr = true ∧ okC (C.ann 62) ZpK = true ∧ okC (C.ann 62) ZpJ = true ∧ okC (C.ann 62) Ztf = true := by
  refine ⟨?_, ?_, ?_, ?_, ?_, ?_, ?_, ?_, ?_, ?_, ?_, ?_, ?_⟩ <;> kernel_rfl
noncomputable abbrev LB44 : Code := .seq Zo8 (.seq (.cond (.tmp 34) .skip (.exit 2)) (.seq (.block 3 (.seq Zpd (.seq ZpC (.seq ZpH (.seq Zqr (.seq (.region 15 (Go.Abs.ops ZhO) false) ZpK)))))) ZpJ))
theorem Zuj {raw : List Cus} {i : Nat} {x : Cus} (hx : raw[i]? = some x) : ∃ b : Bool, (ZbI raw).take (i + 1) = (ZbI raw).take i ++ [(x.name, b)] ∧ (b = true ↔ Path (Zbq raw) x.name x.name) := by
  classical
  refine ⟨decide (Path (Zbq raw) x.name x.name), ?_, by simp⟩
  have h : (ZbI raw)[i]? = some (x.name, decide (Path (Zbq raw) x.name x.name)) := by
    unfold ZbI
    rw [List.getElem?_map, hx]
    simp only [Option.map_some]
  exact Zcm h
theorem Zux {raw : List Cus} {x : Cus} (hx : x ∈ raw) : (Zbu BEq.beq x.name (Zbq raw)).isSome = true := by
  unfold Zbq
  induction raw with
  | nil => cases hx
  | cons y r ih =>
    simp only [List.map_cons, Zbu]
    cases e : (x.name == y.name) with
    | true => rfl
    | false =>
      rcases List.mem_cons.1 hx with rfl | hx
      · simp at e
      · exact ih hx
theorem Zyt (raw : List Cus) (hn : (raw.map Cus.name).Nodup) (hok : Zgv raw) : Tri C (C.ann 62) (.block 2 (.loop LB44)) ⟨f44 raw 0, [], g44 (Zbq raw) []⟩ (YaR (f44 raw raw.length) (g44 (Zbq raw) (ZbI raw))) := by
  have hB : B = 2 ^ 36 := rfl
  obtain ⟨_, _, _, _, _, k10, k11, k12, k13, k14, k16, k17, _⟩ := YdS
  have hlen : raw.length < 2 ^ 40 := by have := hok.1; omega
  refine ZeK ?_
  refine ZiO (fun m s => ∃ i, i ≤ raw.length ∧ m = raw.length - i ∧ s = ⟨f44 raw i, [], g44 (Zbq raw) ((ZbI raw).take i)⟩) (n := raw.length) ⟨0, Nat.zero_le _, rfl, rfl⟩ ?_
  rintro m s ⟨i, hi, rfl, rfl⟩
  rcases Nat.lt_or_ge i raw.length with hlt | hge
  · have hx := List.getElem?_eq_getElem hlt
    have hnew := Zn8 hn hx
    have hO : raw[i].name ∉ Zcf ((ZbI raw).take i) := by
      have : Zcf ((ZbI raw).take i) = (raw.take i).map Cus.name := by
        unfold Zcf ZbI
        rw [← List.map_take, List.map_map]; rfl
      rw [this]; exact hnew
    have hd : decide ((i : Int) < (raw.length : Int)) = true := dlt hlt
    refine Zr6 (n := 3) (by simp [g44]) ?_
    refine Zbg (call := Zac C K0) noCount mixed Zaj k10 (Zsi raw i _) ?_
    rw [hd]
    refine Zcr (Q1 := fun o => o = .norm ⟨f44 raw i ++ [(34, .val (.d (.bool true)))], [], g44 (Zbq raw) ((ZbI raw).take i)⟩) (Zhd (b := true) rfl (Zkz rfl)) ?_ (fun o h1 h2 => absurd h1 (h2 _))
    rintro s hs
    cases hs
    refine Zcr (Q1 := fun o => ∃ S', WalkPost (Zbq raw) [] raw[i].name S' ∧ YaR (f44 raw i ++ [(34, .val (.d (.bool true)))]) (H68 (Zbq raw) (ZoM ((ZbI raw).take i ++ [(raw[i].name, decide (raw[i].name ∈ S'))])) S') o) ?_ ?_ (fun o ⟨S', _, s, hs, _⟩ h2 => absurd hs (h2 s))
    · refine ZeK ?_
      refine Zbg (call := Zac C K0) noCount mixed Zaj k11 (Zyc raw i _ hx _ _) ?_
      refine Zbg (call := Zac C K0) noCount mixed Zaj k12 (ZxQ raw i raw[i] _ _ _) ?_
      refine Zbg (call := Zac C K0) noCount mixed Zaj k13 (Zyg raw i raw[i] _ _ _) ?_
      refine Zbg (call := Zac C K0) noCount mixed Zaj k14 (ZyD raw i raw[i] _ _ _) ?_
      have hw := ZvO ((Zbq raw).length + 1) (Zbq raw) (ZoM ((ZbI raw).take i)) [] raw[i].name List.nodup_nil (fun m hm => by simp at hm) (Zux (List.getElem_mem hlt)) (by simp)
      refine Zcr (Q1 := fun o => ∃ S', WalkPost (Zbq raw) [] raw[i].name S' ∧ o = .norm ⟨f44 raw i ++ [(34, .val (.d (.bool true))), b44 raw[i], (9, .val (.ptr 4 0)), (10, .val (.ptr 5 0))], [], H68 (Zbq raw) (ZoM ((ZbI raw).take i)) S'⟩)
        (ZgY (call := Zac C K0) noCount Zaj Ydn (Zyr raw i raw[i] _ _ _) o44_15.1
          (Zhq noCount o44_15.2.2 rfl (fv := .fn 73 [.ptr 1 0, .ptr 4 0, .ptr 5 0]) (vs := [.d (.str raw[i].name)]) (caps := [.ptr 1 0, .ptr 4 0, .ptr 5 0]) rfl rfl rfl hw (fun r h' _ => by
            rw [o44_15.2.1]
            exact ⟨_, rfl⟩)) ?_) ?_ (fun o ⟨S', _, hs⟩ h2 => absurd hs (h2 _))
      · rintro s ⟨r, h', ⟨rfl, S2, hP, rfl⟩, hput⟩
        rw [o44_15.2.1] at hput
        cases hput
        exact ⟨S2, hP, rfl⟩
      · rintro s ⟨S', hP, hs⟩
        cases hs
        refine Zcj (call := Zac C K0) noCount mixed Zaj k16 (Zx1 raw i raw[i] _ _ S' _ hO) ?_
        simp only [Zbw]
        refine ⟨S', hP, _, rfl, ?_⟩
        refine sub_list (s := ⟨f44 raw i ++ [(34, .val (.d (.bool true))), b44 raw[i], (9, .val (.ptr 4 0)), (10, .val (.ptr 5 0))], [], H68 (Zbq raw) (ZoM ((ZbI raw).take i ++ [(raw[i].name, decide (raw[i].name ∈ S'))])) S'⟩) fun p hp => ?_
        simp only [f44, List.cons_append, List.nil_append, List.mem_cons, List.not_mem_nil, or_false] at hp
        rcases hp with rfl | rfl | rfl | rfl | rfl | rfl | rfl | rfl <;> exact ⟨rfl, rfl⟩
    · rintro s ⟨S', hP, s', hs, hsub⟩
      cases hs
      refine Zk4 hsub ?_
      refine Zcj (call := Zac C K0) noCount mixed Zaj k17 (Zys raw i (by omega) _ _) ?_
      obtain ⟨b, hb1, hb2⟩ := Zuj hx
      have hbe : decide (raw[i].name ∈ S') = b := by
        rw [Bool.eq_iff_iff, decide_eq_true_iff, Zvd hP, hb2]
      rw [hbe, ← hb1]
      refine ⟨⟨f44 raw (i + 1), [], g44 (Zbq raw) ((ZbI raw).take (i + 1))⟩, ⟨rfl, rfl, ?_, ?_⟩, ?_⟩
      · intro id o2 ho
        rcases id with _ | _ | _ | id
        · refine ⟨_, rfl, ?_⟩
          cases ho
          refine .map _ _ rfl fun j a b ha hb => ?_
          rw [ha] at hb
          cases hb
          have hm := List.mem_of_getElem? ha
          obtain ⟨p, _, rfl⟩ := List.mem_map.1 hm
          exact ⟨rfl, .d _⟩
        · refine ⟨_, rfl, ?_⟩
          cases ho
          refine .var _ _ rfl fun j a b ha hb => ?_
          rcases j with _ | j
          · cases ha; cases hb; exact .mp 0 (by decide)
          · simp at ha
        · refine ⟨_, rfl, ?_⟩
          cases ho
          refine .map _ _ rfl fun j a b ha hb => ?_
          rw [ha] at hb
          cases hb
          have hm := List.mem_of_getElem? ha
          obtain ⟨p, _, rfl⟩ := List.mem_map.1 hm
          exact ⟨rfl, .d _⟩
        · simp [g44] at ho
      · intro k v2 hv
        refine ⟨v2, Zbk hv, ?_⟩
        have hm := sub_list.alook_mem0' hv
        simp only [f44, List.mem_cons, List.not_mem_nil, or_false, Prod.mk.injEq] at hm
        rcases hm with ⟨_, rfl⟩ | ⟨_, rfl⟩ | ⟨_, rfl⟩ | ⟨_, rfl⟩ | ⟨_, rfl⟩ | ⟨_, rfl⟩ | ⟨_, rfl⟩
        · exact .val _ _ (.d _)
        · exact .val _ _ (.d _)
        · exact .val _ _ (.ptr 1 0 (by decide))
        · exact .val _ _ (.mp 2 (by decide))
        · exact .val _ _ (.d _)
        · exact .val _ _ (.d _)
        · exact .val _ _ (.d _)
      · exact ⟨_, _, by omega, ⟨i + 1, hlt, rfl, rfl⟩, Zr8 rfl⟩
  · have he : i = raw.length := by omega
    subst he
    refine Zbg (call := Zac C K0) noCount mixed Zaj k10 (Zsi raw _ _) ?_
    rw [ZrM]
    refine Zcr (Q1 := fun o => o = .exit 2 ⟨f44 raw raw.length ++ [(34, .val (.d (.bool false)))], [], g44 (Zbq raw) ((ZbI raw).take raw.length)⟩) (Zhd (b := false) rfl (Zot rfl)) (fun s hs => by cases hs) ?_
    rintro o rfl _
    simp only [Zbw]
    refine ⟨_, rfl, ?_⟩
    rw [List.take_of_length_le (by simp [ZbI])]
    refine sub_list (s := ⟨f44 raw raw.length ++ [(34, .val (.d (.bool false)))], [], g44 (Zbq raw) (ZbI raw)⟩) fun p hp => ?_
    simp only [f44, List.mem_cons, List.not_mem_nil, or_false] at hp
    rcases hp with rfl | rfl | rfl | rfl | rfl | rfl | rfl <;> exact ⟨rfl, rfl⟩
theorem Zrr (raw : List Cus) (hn : (raw.map Cus.name).Nodup) (hok : Zgv raw) : Has Tryz.prog 62 [.d (d44 raw)] [] (.d (.fmap (ZfD (ZbI raw)))) [] := by
  obtain ⟨k0, k1, k2, k8, k9, _, _, _, _, _, _, _, k18⟩ := YdS
  have h : HasN Tryz.prog 62 [.d (d44 raw)] [] (fun r h' => r = .mp 2 ∧ h' = g44 (Zbq raw) (ZbI raw)) := by
    refine ZdW (C := C) (f := 62) (fn := Tryz.f62) Tryz.func62 Ybt (by kernel_rfl) ?_
    refine Zbg (call := Zac C K0) noCount mixed Zaj k0 (YaT raw) ?_
    refine Zbg (call := Zac C K0) noCount mixed Zaj k1 (YbY raw) ?_
    refine Zhm (Zbg (call := Zac C K0) noCount mixed Zaj k2 (YaK raw) (Zyf raw hn hok)) ?_
    refine Zbg (call := Zac C K0) noCount mixed Zaj k8 (YbX raw _) ?_
    refine Zhm (Zbg (call := Zac C K0) noCount mixed Zaj k9 (YbH raw _) (Zyt raw hn hok)) ?_
    refine Zbg (call := Zac C K0) noCount mixed Zaj k18 (ZxR raw _ _) ?_
    refine Zcj (call := Zac C K0) (n := 0) noCount mixed Zaj rfl rfl ?_
    exact ⟨[.mp 2], rfl, rfl, rfl⟩
  refine HasN.frozen (ds := [d44 raw]) h ?_
  rintro r h' ⟨rfl, rfl⟩
  refine ⟨2, ?_⟩
  have : ∀ O : Bm, mapO (fun e : DV × AV => (Abs.freeze (g44 (Zbq raw) (ZbI raw)) 1 e.2).map fun v => (e.1, v)) (ZoM O) = some (ZfD O) := by
    intro O
    induction O with
    | nil => rfl
    | cons p O ih =>
      simp only [ZoM, List.map_cons, mapO, ZfD] at ih ⊢
      simp only [Abs.freeze, Option.map_some, ih]
  simp only [Abs.freeze]
  show (match (g44 (Zbq raw) (ZbI raw))[2]? with
    | some (.map es) => (mapO (fun e : DV × AV => (Abs.freeze (g44 (Zbq raw) (ZbI raw)) 1 e.2).map fun v => (e.1, v)) es).map DV.fmap
    | _ => none) = _
  show (mapO (fun e : DV × AV => (Abs.freeze (g44 (Zbq raw) (ZbI raw)) 1 e.2).map fun v => (e.1, v)) (ZoM (ZbI raw))).map DV.fmap = _
  rw [this]; rfl
end Go.Tev.S1
namespace Go.Abs
theorem A35 : (ann 35).nt = 20 ∧ (ann 35).keep = [0, 2, 3, 5, 7, 8, 9, 10] ∧ (ann 35).take = [] ∧ (ann 35).heapy = [] ∧ (ann 35).frz = [] ∧ (ann 35).lend = [] := ⟨rfl, rfl, rfl, rfl, rfl, rfl⟩
section
variable {C : Ctx} {call : Zaa} {fa : FA} {st st1 s : St} {x y : Code} {Q : Out → Prop}
theorem ZhD (hn : Zbj C.P) (hK : Zba C.P call) {id : Nat} {pre post : List Oper} {o : Oper} {ops : Array Oper} (hops : ops.toList = pre ++ o :: post) (he : Zan C call fa (pre ++ o :: post) pre st = some st1) (hg : o.guard = none) {Q2 : St → Prop}
    (ho : YbJ C fa o st1 Q2) (hq : ∀ s, Q2 s → ∃ s2, Zan C call fa (pre ++ o :: post) post s = some s2 ∧ Q (.norm { s2 with tmp := [] })) : Tri C fa (.region id ops false) st Q := by
  intro own a w S
  refine wp_region_list ?_
  rw [hops]
  have hall : (pre ++ o :: post).toArray = ops := by rw [← hops]
  have key : wpList C.P (pre ++ o :: post).toArray (fun e a' w' => ∃ out, Q out ∧ OutRel C.P fa own st.heap w out e a' w') (pre ++ o :: post) a w := by
    refine ZeO hn hK pre st own a w he S fun a1 w1 own1 S1 F1 E1 => ?_
    simp only [wpList]
    have hw : Region.wanted o (yielded (pre ++ o :: post).toArray a1.tmps) = true := by
      unfold Region.wanted
      rw [hg]
    rw [if_pos hw]
    left
    refine ho own1 a1 w1 S1 _ _ fun a2 w2 s2 own2 hq2 S2 F2 E2 => ?_
    obtain ⟨s3, e3, hq3⟩ := hq s2 hq2
    exact Zdd hn hK post s2 own2 a2 w2 e3 S2 fun a3 w3 own3 S3 F3 E3 => ⟨_, hq3, rfl, own3, S3.dropTmp, (F1.trans F2).trans F3, (E1.trans E2).trans E3⟩
  rw [hall] at key
  exact key
end
end Go.Abs
namespace Go.Tev.S1
open Go.Abs Go.Proofs
abbrev Mv := List (List UInt8 × List Val)
def ZhM (M : Mv) : List (DV × AV) := M.map fun p => (.str p.1, .d (.slc (p.2.map Val.enc)))
def ZmX (raw : List Cus) : Mv := raw.map fun x => (x.name, x.val)
theorem ZgN (a : List UInt8) (v : List Val) : ∀ M : Mv, a ∉ M.map Prod.fst → ZqW (.str a) (.d (.slc (v.map Val.enc))) (ZhM M) = some (ZhM (M ++ [(a, v)]))
  | [], _ => rfl
  | (k, c) :: r, h => by
    have ih := ZgN a v r (fun hm => h (List.mem_cons_of_mem _ hm))
    have e : (a == k) = false := by
      rw [beq_eq_false_iff_ne]
      intro e
      exact h (by rw [e]; exact List.mem_cons_self)
    simp only [ZhM, List.map_cons, List.cons_append, ZqW, ZdT, e] at ih ⊢
    simp only [ih, Option.map_some]
noncomputable abbrev B40 : Code := Zad Tryz.f35
noncomputable abbrev X40 : Code := sq1 (sq2 (sq2 B40))
noncomputable abbrev L40 : Code := inn (inn (sq2 X40))
noncomputable abbrev Zzu : Code := sq1 B40
noncomputable abbrev ZyJ : Code := sq1 (sq2 B40)
noncomputable abbrev ZyN : Code := sq1 X40
noncomputable abbrev Zx7 : Code := sq1 (sq2 (sq2 (sq2 B40)))
theorem YaA : Tryz.f35.body = some (.seq Zzu (.seq ZyJ (.seq (.seq ZyN (.block 0 (.loop L40))) (.seq Zx7 .ret)))) := by kernel_rfl
theorem Yet : okC (C.ann 35) Zzu = true ∧ okC (C.ann 35) ZyJ = true ∧ okC (C.ann 35) ZyN = true ∧ okC (C.ann 35) L40 = true ∧ okC (C.ann 35) Zx7 = true := by
  refine ⟨?_, ?_, ?_, ?_, ?_⟩ <;> kernel_rfl
theorem m70 : C.isMap 60 = true := by kernel_rfl
theorem z70 : C.mapZero 60 = some (.slc []) := by kernel_rfl
theorem k70 (a : List UInt8) : C.keyOk 60 (.str a) = true := by
  have h : C.P.underlying 60 = some (.map 9 22) := by kernel_rfl
  have h2 : C.P.underlying 9 = some .string := by kernel_rfl
  simp only [Ctx.keyOk, h, h2]
def e40 (raw : List Cus) (i : Nat) : List (Nat × SV) := [(0, .val (.d (d44 raw))), (2, .val (.d .nilm)), (3, .val (.mp 1)), (7, .val (.d (d44 raw))), (8, .val (.d (.int .i64 raw.length))), (9, .val (.d (.int .i64 i)))]
section
attribute [local simp] List.getElem?_cons_zero Option.bind_some Zgw ZbR Zbp ZaW ZbC Za8 ZaM ZcG ZbB Za7 Zbz Zby ZcH ZbA Za9 ZaK ZcB Zau Zaw Zeh ZaQ Zbs Zbm Zbx Zbn has opx opd opA opD XV.flat XV.copy oD oA Zab ins ZeT Zcg St.put St.putOwn St.lose St.loseEnv unal Zem Zep ZfC dUn Zdk Zag ZaV ZaX ZaF Zal ZaZ Za1 ZaU Zd2 ZaG AV.cells AV.cellOk AV.single DV.cellOk Zgs Zgt Zgx DV.cells Zak Zb1 Zah ZaS Zam ZaL ZeB Zaq ZcF mapO AV.toD Zai ZaO ZbO optD ZaT ZaE Zca Zae ZaP Zay Za5 Zao Zbl ZbF ZaI St.trim Out.st
theorem YaD {call : Zaa} (raw : List Cus) (o : AObj) : evQ C call (ann 35) 0 Zzu ⟨Zgo 0 [.d (d44 raw)], [], [o]⟩ = some (.norm ⟨[(0, .val (.d (d44 raw))), (2, .val (.d .nilm))], [], [o]⟩) := by
  unfold Zzu B40 Zad Tryz.f35
  simp only [Option.getD_some, sq1, Zgo]
  simp [-getElem?_pos, A35, Zan]
theorem YaL {call : Zaa} (raw : List Cus) (o : AObj) : evQ C call (ann 35) 0 ZyJ ⟨[(0, .val (.d (d44 raw))), (2, .val (.d .nilm))], [], [o]⟩ = some (.norm ⟨[(0, .val (.d (d44 raw))), (2, .val (.d .nilm)), (3, .val (.mp 1))], [], [o, .map []]⟩) := by
  unfold ZyJ B40 Zad Tryz.f35
  simp only [Option.getD_some, sq1, sq2]
  simp [-getElem?_pos, A35, Zan, m70]
theorem Yck {call : Zaa} (raw : List Cus) (o : AObj) : evQ C call (ann 35) 0 ZyN ⟨[(0, .val (.d (d44 raw))), (2, .val (.d .nilm)), (3, .val (.mp 1))], [], [o, .map []]⟩ = some (.norm ⟨e40 raw 0, [], [o, .map (ZhM [])]⟩) := by
  unfold ZyN X40 B40 Zad Tryz.f35 e40 d44 ZhM
  simp only [Option.getD_some, sq1, sq2]
  simp [-getElem?_pos, A35, Zan, ZrQ]
theorem YcA {call : Zaa} (raw : List Cus) (i : Nat) (x : Cus) (hx : raw[i]? = some x) (hl : raw.length < 2 ^ 40) (M : Mv) (hM : x.name ∉ M.map Prod.fst) (o : AObj) :
    evQ C call (ann 35) 0 L40 ⟨e40 raw i, [], [o, .map (ZhM M)]⟩ = some (.norm ⟨e40 raw (i + 1) ++ [(10, .val (.d (.bool true)))], [], [o, .map (ZhM (M ++ [(x.name, x.val)]))]⟩) := by
  have hlt : i < raw.length := (List.getElem?_eq_some_iff.1 hx).1
  have hw : IntKind.i64.wrap ((i : Int) + 1) = (i : Int) + 1 := wrap_add1 (by omega)
  have hg := Zk1 hx
  have hi := Ycy hlt
  unfold L40 X40 B40 Zad Tryz.f35 e40 d44
  simp only [Option.getD_some, sq1, sq2, inn]
  simp [-getElem?_pos, A35, Zan, ZrQ, hlt, hw, hg, hi, YcK, YcR, YcQ, Zje, ZnK, hz9, Zx3, ag9, ZxZ, z70, k70, ZgN _ _ M hM, St.trim, ZaI, AV.cellOk, -List.getElem?_map]
theorem Ybb {call : Zaa} (raw : List Cus) (h : List AObj) : evQ C call (ann 35) 0 L40 ⟨e40 raw raw.length, [], h⟩ = some (.exit 0 ⟨e40 raw raw.length ++ [(10, .val (.d (.bool false)))], [], h⟩) := by
  unfold L40 X40 B40 Zad Tryz.f35 e40 d44
  simp only [Option.getD_some, sq1, sq2, inn]
  simp [-getElem?_pos, A35, Zan]
theorem YbA {call : Zaa} (raw : List Cus) (h : List AObj) (i : Nat) : evQ C call (ann 35) 0 Zx7 ⟨e40 raw i, [], h⟩ = some (.norm ⟨[(0, .val (.d (d44 raw))), (2, .val (.mp 1)), (3, .val (.mp 1)), (7, .val (.d (d44 raw))), (8, .val (.d (.int .i64 raw.length))), (9, .val (.d (.int .i64 i)))], [], h⟩) := by
  unfold Zx7 B40 Zad Tryz.f35 e40
  simp only [Option.getD_some, sq1, sq2]
  simp [-getElem?_pos, A35, Zan]
end
theorem Zjr (raw : List Cus) : (ZmX raw).map Prod.fst = raw.map Cus.name := by simp [ZmX, List.map_map, Function.comp_def]
theorem Zul (raw : List Cus) (hn : (raw.map Cus.name).Nodup) (hl : raw.length < 2 ^ 40) (o : AObj) : HasN Tryz.prog 35 [.d (d44 raw)] [o] (fun r h' => r = .mp 1 ∧ h' = [o, .map (ZhM (ZmX raw))]) := by
  obtain ⟨k0, k1, k2, kL, k7⟩ := Yet
  refine ZdW (C := C) (f := 35) (fn := Tryz.f35) Tryz.func35 YaA (by kernel_rfl) ?_
  refine Zbg (call := Zac C K0) noCount mixed Zaj k0 (YaD raw o) ?_
  refine Zbg (call := Zac C K0) noCount mixed Zaj k1 (YaL raw o) ?_
  refine Zhm (e := e40 raw raw.length) (h := [o, .map (ZhM (ZmX raw))]) (Zbg (call := Zac C K0) noCount mixed Zaj k2 (Yck raw o) (ZeK (ZiO (fun m s => ∃ i, i ≤ raw.length ∧ m = raw.length - i ∧ s = ⟨e40 raw i, [], [o, .map (ZhM ((ZmX raw).take i))]⟩) (n := raw.length) ⟨0, Nat.zero_le _, rfl, rfl⟩ ?_))) ?_
  · rintro m s ⟨i, hi, rfl, rfl⟩
    rcases Nat.lt_or_ge i raw.length with hlt | hge
    · have hx := List.getElem?_eq_getElem hlt
      have hM : raw[i].name ∉ ((ZmX raw).take i).map Prod.fst := by
        rw [List.map_take, Zjr, ← List.map_take]
        exact Zn8 hn hx
      refine Zcj (call := Zac C K0) noCount mixed Zaj kL (YcA raw i _ hx hl _ hM o) ?_
      refine ⟨raw.length - (i + 1), ⟨e40 raw (i + 1), [], _⟩, by omega, ⟨i + 1, hlt, rfl, rfl⟩, fun k v hv => ?_, rfl, ?_⟩
      · exact Zbk hv
      · have : (ZmX raw)[i]? = some (raw[i].name, raw[i].val) := by unfold ZmX; rw [List.getElem?_map, hx]; rfl
        rw [Zcm this]
    · have he : i = raw.length := by omega
      subst he
      refine Zcj (call := Zac C K0) noCount mixed Zaj kL (Ybb raw _) ?_
      simp only [Zbw]
      refine ⟨_, rfl, ?_⟩
      rw [List.take_of_length_le (by simp [ZmX])]
      refine sub_list (s := ⟨e40 raw raw.length ++ [(10, .val (.d (.bool false)))], [], [o, .map (ZhM (ZmX raw))]⟩) fun p hp => ?_
      simp only [e40, List.mem_cons, List.not_mem_nil, or_false] at hp
      rcases hp with rfl | rfl | rfl | rfl | rfl | rfl <;> exact ⟨rfl, rfl⟩
  · refine Zbg (call := Zac C K0) noCount mixed Zaj k7 (YbA raw _ _) ?_
    refine Zcj (call := Zac C K0) (n := 0) noCount mixed Zaj rfl rfl ?_
    exact ⟨[.mp 1], rfl, rfl, rfl⟩
end Go.Tev.S1
namespace Go.Tev.S1
open Go.Abs Go.Proofs
noncomputable abbrev B25 : Code := Zad Tryz.f43
noncomputable abbrev S25 : Code := inn (sq2 B25)
noncomputable abbrev W25 : Code := sq1 (sq2 (sq2 (sq2 S25)))
noncomputable abbrev Zxb : Code := inn (inn (sq2 W25))
noncomputable abbrev Zyu : Code := inn (sq2 (sq2 Zxb))
noncomputable abbrev T25 : Code := sq2 (sq2 (sq2 (sq2 (sq2 S25))))
noncomputable abbrev U25 : Code := sq1 T25
noncomputable abbrev Zgq : Code := inn (inn (sq2 U25))
noncomputable abbrev Zhz : Code := inn (sq1 (sq2 (sq2 Zgq)))
noncomputable abbrev ZhV : Code := sq2 (sq2 Zhz)
noncomputable abbrev G25 : Code := sq1 (sq2 (sq2 (sq2 ZhV)))
noncomputable abbrev ZwP : Code := inn (inn (sq2 G25))
noncomputable abbrev ZxV : Code := inn (sq2 (sq2 ZwP))
noncomputable abbrev Zw6 : Code := sq2 (sq2 (sq2 (sq2 ZhV)))
noncomputable abbrev Zyl : Code := sq2 Zw6
noncomputable abbrev N25 : Code := sq1 (sq2 (sq2 T25))
noncomputable abbrev Zn7 : Code := inn (inn (sq2 N25))
noncomputable abbrev ZyR : Code := sq1 B25
noncomputable abbrev Zkl : Code := sq1 S25
noncomputable abbrev Zzb : Code := sq1 (sq2 S25)
noncomputable abbrev Zkb : Code := sq1 (sq2 (sq2 S25))
noncomputable abbrev Znm : Code := sq1 W25
noncomputable abbrev Znc : Code := sq1 Zxb
noncomputable abbrev Zn2 : Code := sq1 Zyu
noncomputable abbrev Zy2 : Code := sq2 Zyu
noncomputable abbrev Zwl : Code := sq1 U25
noncomputable abbrev ZsP : Code := sq1 Zgq
noncomputable abbrev Zsd : Code := sq2 (sq2 (sq2 Zgq))
noncomputable abbrev Zsb : Code := sq1 Zhz
noncomputable abbrev ZmF : Code := sq1 (sq2 Zhz)
noncomputable abbrev ZsF : Code := sq1 ZhV
noncomputable abbrev ZsK : Code := sq1 (sq2 ZhV)
noncomputable abbrev Zsy : Code := sq1 (sq2 (sq2 ZhV))
noncomputable abbrev Zig : Code := sq1 G25
noncomputable abbrev Ziu : Code := sq1 ZwP
noncomputable abbrev ZiM : Code := sq1 ZxV
noncomputable abbrev Zs9 : Code := sq2 ZxV
noncomputable abbrev ZpN : Code := sq1 Zw6
noncomputable abbrev Ztv : Code := sq1 Zyl
noncomputable abbrev Zso : Code := sq1 (sq2 Zyl)
noncomputable abbrev Zsz : Code := sq1 (sq2 T25)
noncomputable abbrev Zpx : Code := sq1 N25
noncomputable abbrev ZtB : Code := sq1 (sq2 (sq2 (sq2 T25)))
theorem Yb9 : Tryz.f43.body = some (.seq ZyR (.scope S25)) := by kernel_rfl
noncomputable abbrev Yaj : Code := .seq (.region 4 (Go.Abs.ops Znm) false) (.block 0 (.loop (.seq (.region 5 (Go.Abs.ops Znc) false) (.seq (.cond (.tmp 32) .skip (.exit 0)) (.block 1 (.seq (.region 6 (Go.Abs.ops Zn2) false) Zy2))))))
noncomputable abbrev Yao : Code := .seq (.region 17 (Go.Abs.ops Zig) false) (.block 4 (.loop (.seq (.region 18 (Go.Abs.ops Ziu) false) (.seq (.cond (.tmp 62) .skip (.exit 4)) (.block 5 (.seq (.region 19 (Go.Abs.ops ZiM) false) Zs9))))))
noncomputable abbrev BD25 : Code := .seq Zsb (.seq ZmF (.seq ZsF (.seq ZsK (.seq Zsy (.seq Yao (.seq ZpN (.seq Ztv (.seq Zso (.goto 0)))))))))
noncomputable abbrev LP25 : Code := .block 2 (.loop (.seq ZsP (.seq (.cond (.tmp 42) .skip (.exit 2)) (.seq (.block 3 BD25) Zsd))))
noncomputable abbrev Yd9 : Code := .seq (.seq Zwl LP25) (.seq Zsz (.seq (.seq Zpx (.block 6 (.loop Zn7))) (.seq ZtB .ret)))
theorem ZyI : S25 = .seq (.region 1 (Go.Abs.ops Zkl) false) (.seq Zzb (.seq (.region 3 (Go.Abs.ops Zkb) false) (.seq Yaj (.seq (.label 0) Yd9)))) := by kernel_rfl
theorem ZsX : okC (C.ann 43) ZyR = true ∧ okC (C.ann 43) Zzb = true ∧ okC (C.ann 43) Zy2 = true ∧ okC (C.ann 43) Zwl = true ∧ okC (C.ann 43) ZsP = true ∧ okC (C.ann 43) Zsb = true ∧ okC (C.ann 43) ZmF = true ∧ okC (C.ann 43) ZsF = true ∧ okC (C.ann 43) ZsK = true := by
  refine ⟨?_, ?_, ?_, ?_, ?_, ?_, ?_, ?_, ?_⟩ <;> kernel_rfl
theorem ZpX : okC (C.ann 43) Zsy = true ∧ okC (C.ann 43) Zs9 = true ∧ okC (C.ann 43) ZpN = true ∧ okC (C.ann 43) Ztv = true ∧ okC (C.ann 43) Zso = true ∧ okC (C.ann 43) Zsd = true ∧ okC (C.ann 43) Zsz = true ∧ okC (C.ann 43) Zpx = true ∧ okC (C.ann 43) Zn7 = true ∧ okC (C.ann 43) ZtB = true := by
  refine ⟨?_, ?_, ?_, ?_, ?_, ?_, ?_, ?_, ?_, ?_⟩ <;> kernel_rfl
def E25 (raw : List Cus) (D : Bm) : List (Nat × SV) := [(0, .val (.d (d44 raw))), (2, .val (.d (.slc []))), (3, .val (.d (.fmap (ZfD D)))), (4, .val (.mp 0)), (5, .val (.mp 1))]
def H25 (Sv Op : Mv) : List AObj := [.map (ZhM Sv), .map (ZhM Op)]
theorem ZdY (a : List UInt8) : ∀ M : Mv, Zgb (.str a) (ZhM M) = some ((Zbu BEq.beq a M).map fun v => .d (.slc (v.map Val.enc)))
  | [] => rfl
  | (k, u) :: r => by
    have ih := ZdY a r
    simp only [ZhM, List.map_cons, Zgb, ZdT, Zbu] at ih ⊢
    cases (a == k)
    · simpa using ih
    · rfl
def rmv (a : List UInt8) (M : Mv) : Mv := M.filter fun p => !(a == p.1)
theorem Zl1 (a : List UInt8) : ∀ M : Mv, (M.map Prod.fst).Nodup → ZxD (.str a) (ZhM M) = some (ZhM (rmv a M))
  | [], _ => rfl
  | (k, u) :: r, h => by
    rw [List.map_cons, List.nodup_cons] at h
    have ih := Zl1 a r h.2
    simp only [ZhM, List.map_cons, ZxD, ZdT, rmv] at ih ⊢
    cases e : (a == k) with
    | false =>
      simp only [ih, Option.map_some, List.filter_cons, e, Bool.not_false, if_true, List.map_cons]
    | true =>
      rw [beq_iff_eq] at e
      subst e
      have : r.filter (fun p => !(a == p.1)) = r := by
        rw [List.filter_eq_self]
        intro p hp
        have : a ≠ p.1 := fun e => h.1 (by rw [e]; exact List.mem_map.2 ⟨p, hp, rfl⟩)
        simpa using this
      simp only [List.filter_cons, beq_self_eq_true, Bool.not_true, Bool.false_eq_true, if_false, this]
section
attribute [local simp] List.getElem?_cons_zero Option.bind_some Zgw ZbR Zbp ZaW ZbC Za8 ZaM ZcG ZbB Za7 Zbz Zby ZcH ZbA Za9 ZaK ZcB Zau Zaw Zeh ZaQ Zbs Zbm Zbx Zbn has opx opd opA opD XV.flat XV.copy oD oA Zab ins ZeT Zcg St.put St.putOwn St.lose St.loseEnv unal Zem Zep ZfC dUn Zdk Zag ZaV ZaX ZaF Zal ZaZ Za1 ZaU Zd2 ZaG AV.cells AV.cellOk AV.single DV.cellOk Zgs Zgt Zgx DV.cells Zak Zb1 Zah ZaS Zam ZaL ZeB Zaq ZcF mapO AV.toD Zai ZaO ZbO optD ZaT ZaE Zca Zae ZaP Zay Za5 Zao Zbl ZbF ZaI St.trim Out.st
theorem YbE {call : Zaa} (raw : List Cus) : evQ C call (ann 43) 0 ZyR ⟨Zgo 0 [.d (d44 raw)], [], []⟩ = some (.norm ⟨[(0, .val (.d (d44 raw))), (2, .val (.d (.slc [])))], [], []⟩) := by
  unfold ZyR B25 Zad Tryz.f43
  simp only [Option.getD_some, sq1, Zgo]
  simp [-getElem?_pos, A43, Zan]
theorem YfH : (Go.Abs.ops Zkl).toList = (opsL Zkl).take 1 ++ (opsL Zkl).getD 1 (op0 []) :: (opsL Zkl).drop 2 := by kernel_rfl
theorem o25_1 : ((opsL Zkl).getD 1 (op0 [])).guard = none ∧ ((opsL Zkl).getD 1 (op0 [])).dst = some 25 ∧ ((opsL Zkl).getD 1 (op0 [])).op = .call { callee := .value (.func 62), args := #[.tmp 24], argTypes := #[23] } := by
  refine ⟨?_, ?_, ?_⟩ <;> kernel_rfl
theorem Yev : (Go.Abs.ops Zkb).toList = (opsL Zkb).take 1 ++ (opsL Zkb).getD 1 (op0 []) :: (opsL Zkb).drop 2 := by kernel_rfl
theorem o25_3 : ((opsL Zkb).getD 1 (op0 [])).guard = none ∧ ((opsL Zkb).getD 1 (op0 [])).dst = some 28 ∧ ((opsL Zkb).getD 1 (op0 [])).op = .call { callee := .value (.func 35), args := #[.tmp 27], argTypes := #[23] } := by
  refine ⟨?_, ?_, ?_⟩ <;> kernel_rfl
theorem Ycb {call : Zaa} {all : List Oper} (raw : List Cus) : Zan C call (ann 43) all ((opsL Zkl).take 1) ⟨[(0, .val (.d (d44 raw))), (2, .val (.d (.slc [])))], [], []⟩ = some ⟨[(0, .val (.d (d44 raw))), (2, .val (.d (.slc [])))], [(24, .a (.d (d44 raw)))], []⟩ := by
  unfold opsL Go.Abs.ops Zkl S25 B25 Zad Tryz.f43
  simp only [Option.getD_some, sq1, sq2, inn]
  simp [-getElem?_pos, A43, Zan]
theorem ZyW {call : Zaa} {all : List Oper} (raw : List Cus) (D : Bm) : Zan C call (ann 43) all ((opsL Zkl).drop 2) ⟨[(0, .val (.d (d44 raw))), (2, .val (.d (.slc [])))], [(25, .a (.d (.fmap (ZfD D)))), (24, .a (.d (d44 raw)))], []⟩ =
    some ⟨[(0, .val (.d (d44 raw))), (2, .val (.d (.slc []))), (3, .val (.d (.fmap (ZfD D))))], [(25, .a (.d (.fmap (ZfD D)))), (24, .a (.d (d44 raw)))], []⟩ := by
  unfold opsL Go.Abs.ops Zkl S25 B25 Zad Tryz.f43
  simp only [Option.getD_some, sq1, sq2, inn]
  simp [-getElem?_pos, A43, Zan]
theorem YaZ {call : Zaa} (raw : List Cus) (D : Bm) : evQ C call (ann 43) 0 Zzb ⟨[(0, .val (.d (d44 raw))), (2, .val (.d (.slc []))), (3, .val (.d (.fmap (ZfD D))))], [], []⟩ = some (.norm ⟨[(0, .val (.d (d44 raw))), (2, .val (.d (.slc []))), (3, .val (.d (.fmap (ZfD D)))), (4, .val (.mp 0))], [], [.map []]⟩) := by
  unfold Zzb S25 B25 Zad Tryz.f43
  simp only [Option.getD_some, sq1, sq2, inn]
  simp [-getElem?_pos, A43, Zan, m70]
theorem YaB {call : Zaa} {all : List Oper} (raw : List Cus) (D : Bm) : Zan C call (ann 43) all ((opsL Zkb).take 1) ⟨[(0, .val (.d (d44 raw))), (2, .val (.d (.slc []))), (3, .val (.d (.fmap (ZfD D)))), (4, .val (.mp 0))], [], [.map []]⟩ =
    some ⟨[(0, .val (.d (d44 raw))), (2, .val (.d (.slc []))), (3, .val (.d (.fmap (ZfD D)))), (4, .val (.mp 0))], [(27, .a (.d (d44 raw)))], [.map []]⟩ := by
  unfold opsL Go.Abs.ops Zkb S25 B25 Zad Tryz.f43
  simp only [Option.getD_some, sq1, sq2, inn]
  simp [-getElem?_pos, A43, Zan]
theorem ZzA {call : Zaa} {all : List Oper} (raw : List Cus) (D : Bm) (h : List AObj) : Zan C call (ann 43) all ((opsL Zkb).drop 2) ⟨[(0, .val (.d (d44 raw))), (2, .val (.d (.slc []))), (3, .val (.d (.fmap (ZfD D)))), (4, .val (.mp 0))], [(28, .a (.mp 1)), (27, .a (.d (d44 raw)))], h⟩ =
    some ⟨E25 raw D, [(28, .a (.mp 1)), (27, .a (.d (d44 raw)))], h⟩ := by
  unfold opsL Go.Abs.ops Zkb S25 B25 Zad Tryz.f43 E25
  simp only [Option.getD_some, sq1, sq2, inn]
  simp [-getElem?_pos, A43, Zan]
theorem YfA : (Go.Abs.ops Znm).toList = (opsL Znm).take 1 ++ [opZ (opsL Znm)] := by kernel_rfl
theorem o25_4 : (opZ (opsL Znm)).op = .range 62 (.tmp 29) ∧ (opZ (opsL Znm)).guard = none ∧ (opZ (opsL Znm)).dst = some 30 := by
  refine ⟨?_, ?_, ?_⟩ <;> kernel_rfl
theorem Yct {call : Zaa} {all : List Oper} (raw : List Cus) (D : Bm) (h : List AObj) : Zan C call (ann 43) all ((opsL Znm).take 1) ⟨E25 raw D, [], h⟩ = some ⟨E25 raw D, [(29, .a (.d (.fmap (ZfD D))))], h⟩ := by
  unfold opsL Go.Abs.ops Znm W25 S25 B25 Zad Tryz.f43 E25
  simp only [Option.getD_some, sq1, sq2, inn]
  simp [-getElem?_pos, A43, Zan]
theorem Yex : (Go.Abs.ops Znc).toList = op0 (opsL Znc) :: (opsL Znc).drop 1 := by kernel_rfl
theorem o25_5 : (op0 (opsL Znc)).op = .next (.tmp 30) false ∧ (op0 (opsL Znc)).guard = none ∧ (op0 (opsL Znc)).dst = some 31 := by
  refine ⟨?_, ?_, ?_⟩ <;> kernel_rfl
theorem Yfy : (Go.Abs.ops Zn2).toList = op0 (opsL Zn2) :: (opsL Zn2).drop 1 := by kernel_rfl
theorem o25_6 : (op0 (opsL Zn2)).op = .entry (.tmp 30) ∧ (op0 (opsL Zn2)).guard = none ∧ (op0 (opsL Zn2)).dst = some 33 := by
  refine ⟨?_, ?_, ?_⟩ <;> kernel_rfl
def ZuP (raw : List Cus) (D : Bm) (p : Value) : List (Nat × SV) := E25 raw D ++ [(30, .val (.raw p))]
theorem ZvW {call : Zaa} {all : List Oper} (raw : List Cus) (D : Bm) (p : Value) (h : List AObj) (b : Bool) (vs : List DV) :
    Zan C call (ann 43) all ((opsL Znc).drop 1) ⟨ZuP raw D p, [(31, .a (.d (.tup (.bool b :: vs))))], h⟩ = some ⟨ZuP raw D p ++ [(32, .val (.d (.bool b)))], [(31, .a (.d (.tup (.bool b :: vs))))], h⟩ := by
  unfold opsL Go.Abs.ops Znc Zxb W25 S25 B25 Zad Tryz.f43 ZuP E25
  simp only [Option.getD_some, sq1, sq2, inn]
  simp [-getElem?_pos, A43, Zan]
theorem Ycl {call : Zaa} {all : List Oper} (raw : List Cus) (D : Bm) (p : Value) (h : List AObj) (k v : DV) :
    Zan C call (ann 43) all ((opsL Zn2).drop 1) ⟨ZuP raw D p ++ [(32, .val (.d (.bool true)))], [(33, .a (.d (.tup [k, v])))], h⟩ = some ⟨ZuP raw D p ++ [(32, .val (.d (.bool true))), (6, .val (.d k)), (7, .val (.d v))], [(35, .a (.d v)), (34, .a (.d k)), (33, .a (.d (.tup [k, v])))], h⟩ := by
  unfold opsL Go.Abs.ops Zn2 Zyu Zxb W25 S25 B25 Zad Tryz.f43 ZuP E25
  simp only [Option.getD_some, sq1, sq2, inn]
  simp [-getElem?_pos, A43, Zan]
theorem YaP {call : Zaa} (raw : List Cus) (D : Bm) (p : Value) (Sv Op : Mv) (hO : (Op.map Prod.fst).Nodup) (a : List UInt8) (b : Bool) :
    evQ C call (ann 43) 0 Zy2 ⟨ZuP raw D p ++ [(32, .val (.d (.bool true))), (6, .val (.d (.str a))), (7, .val (.d (.bool b)))], [], H25 Sv Op⟩ =
      some (.norm ⟨ZuP raw D p ++ [(32, .val (.d (.bool true))), (6, .val (.d (.str a))), (7, .val (.d (.bool b))), (36, .val (.d (.bool b)))], [], H25 Sv (bif b then rmv a Op else Op)⟩) := by
  unfold Zy2 Zyu Zxb W25 S25 B25 Zad Tryz.f43 ZuP E25 H25
  simp only [Option.getD_some, sq1, sq2, inn]
  cases b
  · simp [-getElem?_pos, A43, Zan]
  · simp [-getElem?_pos, A43, Zan, Zg9, z70, k70, Zl1 a Op hO]
end
end Go.Tev.S1
namespace Go.Tev.S1
open Go.Abs Go.Proofs
def F25 (raw : List Cus) (D : Bm) (i : Nat) : List (Nat × SV) := E25 raw D ++ [(39, .val (.d (d44 raw))), (40, .val (.d (.int .i64 raw.length))), (41, .val (.d (.int .i64 i)))]
def x25 (x : Cus) : Nat × SV := (9, .box [.str x.name, .slc (x.val.map Val.enc)])
section
attribute [local simp] List.getElem?_cons_zero Option.bind_some Zgw ZbR Zbp ZaW ZbC Za8 ZaM ZcG ZbB Za7 Zbz Zby ZcH ZbA Za9 ZaK ZcB Zau Zaw Zeh ZaQ Zbs Zbm Zbx Zbn has opx opd opA opD XV.flat XV.copy oD oA Zab ins ZeT Zcg St.put St.putOwn St.lose St.loseEnv unal Zem Zep ZfC dUn Zdk Zag ZaV ZaX ZaF Zal ZaZ Za1 ZaU Zd2 ZaG AV.cells AV.cellOk AV.single DV.cellOk Zgs Zgt Zgx DV.cells Zak Zb1 Zah ZaS Zam ZaL ZeB Zaq ZcF mapO AV.toD Zai ZaO ZbO optD ZaT ZaE Zca Zae ZaP Zay Za5 Zao Zbl ZbF ZaI St.trim Out.st
theorem YbP {call : Zaa} (raw : List Cus) (D : Bm) (h : List AObj) : evQ C call (ann 43) 0 Zwl ⟨E25 raw D, [], h⟩ = some (.norm ⟨F25 raw D 0, [], h⟩) := by
  unfold Zwl U25 T25 S25 B25 Zad Tryz.f43 F25 E25 d44
  simp only [Option.getD_some, sq1, sq2, inn]
  simp [-getElem?_pos, A43, Zan, ZrQ]
theorem ZyE {call : Zaa} (raw : List Cus) (D : Bm) (i : Nat) (h : List AObj) : evQ C call (ann 43) 0 ZsP ⟨F25 raw D i, [], h⟩ = some (.norm ⟨F25 raw D i ++ [(42, .val (.d (.bool (decide ((i : Int) < (raw.length : Int))))))], [], h⟩) := by
  unfold ZsP Zgq U25 T25 S25 B25 Zad Tryz.f43 F25 E25
  simp only [Option.getD_some, sq1, sq2, inn]
  simp [-getElem?_pos, A43, Zan]
theorem Zzr {call : Zaa} (raw : List Cus) (D : Bm) (i : Nat) (hl : i + 1 < 2 ^ 63) (v : SV) (h : List AObj) : evQ C call (ann 43) 0 Zsd ⟨F25 raw D i ++ [(42, v)], [], h⟩ = some (.norm ⟨F25 raw D (i + 1) ++ [(42, v)], [], h⟩) := by
  have hw : IntKind.i64.wrap ((i : Int) + 1) = (i : Int) + 1 := wrap_add1 hl
  unfold Zsd Zgq U25 T25 S25 B25 Zad Tryz.f43 F25 E25
  simp only [Option.getD_some, sq1, sq2, inn]
  simp [-getElem?_pos, A43, Zan, hw]
theorem Zy8 {call : Zaa} (raw : List Cus) (D : Bm) (i : Nat) (x : Cus) (hx : raw[i]? = some x) (v : SV) (h : List AObj) : evQ C call (ann 43) 0 Zsb ⟨F25 raw D i ++ [(42, v)], [], h⟩ = some (.norm ⟨F25 raw D i ++ [(42, v), x25 x], [], h⟩) := by
  have hlt : i < raw.length := (List.getElem?_eq_some_iff.1 hx).1
  have hg := Zk1 hx
  have hi := Ycy hlt
  unfold Zsb Zhz Zgq U25 T25 S25 B25 Zad Tryz.f43 F25 E25 x25 d44
  simp only [Option.getD_some, sq1, sq2, inn]
  simp [-getElem?_pos, A43, Zan, ZrQ, hg, hi, YcK, YcR, YcQ, -List.getElem?_map]
theorem Zv7 {call : Zaa} (raw : List Cus) (D : Bm) (i : Nat) (x : Cus) (v : SV) (Sv Op : Mv) (hO : Zbu BEq.beq x.name Op = none) : evQ C call (ann 43) 0 ZmF ⟨F25 raw D i ++ [(42, v), x25 x], [], H25 Sv Op⟩ =
    some (.exit 3 ⟨F25 raw D i ++ [(42, v), x25 x, (11, .val (.d (.bool false))), (53, .val (.d (.bool true)))], [], H25 Sv Op⟩) := by
  unfold ZmF Zhz Zgq U25 T25 S25 B25 Zad Tryz.f43 F25 E25 x25 H25
  simp only [Option.getD_some, sq1, sq2, inn]
  simp [-getElem?_pos, A43, Zan, Zje, hz9, ag9, ZbP, z70, k70, ZdY, hO]
theorem Zv8 {call : Zaa} (raw : List Cus) (D : Bm) (i : Nat) (x : Cus) (v : SV) (Sv Op : Mv) {u : List Val} (hO : Zbu BEq.beq x.name Op = some u) : evQ C call (ann 43) 0 ZmF ⟨F25 raw D i ++ [(42, v), x25 x], [], H25 Sv Op⟩ =
    some (.norm ⟨F25 raw D i ++ [(42, v), x25 x, (11, .val (.d (.bool true))), (53, .val (.d (.bool false)))], [], H25 Sv Op⟩) := by
  unfold ZmF Zhz Zgq U25 T25 S25 B25 Zad Tryz.f43 F25 E25 x25 H25
  simp only [Option.getD_some, sq1, sq2, inn]
  simp [-getElem?_pos, A43, Zan, Zje, hz9, ag9, ZbP, z70, k70, ZdY, hO, ZbF, ZcF, mapO, AV.toD]
def b25 (raw : List Cus) (D : Bm) (i : Nat) (x : Cus) : List (Nat × SV) := F25 raw D i ++ [(42, .val (.d (.bool true))), x25 x, (11, .val (.d (.bool true))), (53, .val (.d (.bool false)))]
theorem Zy9 {call : Zaa} (raw : List Cus) (D : Bm) (i : Nat) (x : Cus) (Sv Op : Mv) : evQ C call (ann 43) 0 ZsF ⟨b25 raw D i x, [], H25 Sv Op⟩ = some (.norm ⟨b25 raw D i x ++ [(12, .val (.mp 2))], [], H25 Sv Op ++ [.map []]⟩) := by
  unfold ZsF ZhV Zhz Zgq U25 T25 S25 B25 Zad Tryz.f43 b25 F25 E25 x25 H25
  simp only [Option.getD_some, sq1, sq2, inn]
  simp [-getElem?_pos, A43, Zan, Yaz]
theorem ZxX {call : Zaa} (raw : List Cus) (D : Bm) (i : Nat) (x : Cus) (Sv Op : Mv) (h' : List AObj) (h34 : call 36 [.d (.slc (x.val.map Val.enc)), .mp 2] [.map (ZhM Sv), .map (ZhM Op), .map []] = some (.d (.tup []), h')) :
    evQ C call (ann 43) 0 ZsK ⟨b25 raw D i x ++ [(12, .val (.mp 2))], [], H25 Sv Op ++ [.map []]⟩ = some (.norm ⟨b25 raw D i x ++ [(12, .val (.mp 2))], [], h'⟩) := by
  unfold ZsK ZhV Zhz Zgq U25 T25 S25 B25 Zad Tryz.f43 b25 F25 E25 x25 H25
  simp only [Option.getD_some, sq1, sq2, inn]
  simp [-getElem?_pos, A43, Zan, ZnK, Zx3, ZxZ, Zh1, AV.toD, h34]
theorem Zyp {call : Zaa} (raw : List Cus) (D : Bm) (i : Nat) (x : Cus) (u : SV) (h : List AObj) : evQ C call (ann 43) 0 Zsy ⟨b25 raw D i x ++ [(12, u)], [], h⟩ = some (.norm ⟨b25 raw D i x ++ [(12, u), (13, .val (.d (.bool false)))], [], h⟩) := by
  unfold Zsy ZhV Zhz Zgq U25 T25 S25 B25 Zad Tryz.f43 b25 F25 E25 x25
  simp only [Option.getD_some, sq1, sq2, inn]
  simp [-getElem?_pos, A43, Zan]
def c25 (raw : List Cus) (D : Bm) (i : Nat) (x : Cus) (b : Bool) : List (Nat × SV) := b25 raw D i x ++ [(12, .val (.d (.fmap (ZfD (Zeo [] x.val))))), (13, .val (.d (.bool b)))]
theorem Yc1 : (Go.Abs.ops Zig).toList = (opsL Zig).take 1 ++ [opZ (opsL Zig)] := by kernel_rfl
theorem o25_17 : (opZ (opsL Zig)).op = .range 62 (.tmp 59) ∧ (opZ (opsL Zig)).guard = none ∧ (opZ (opsL Zig)).dst = some 60 := by
  refine ⟨?_, ?_, ?_⟩ <;> kernel_rfl
theorem Zx6 {call : Zaa} {all : List Oper} (raw : List Cus) (D : Bm) (i : Nat) (x : Cus) (b : Bool) (h : List AObj) : Zan C call (ann 43) all ((opsL Zig).take 1) ⟨c25 raw D i x b, [], h⟩ = some ⟨c25 raw D i x b, [(59, .a (.d (.fmap (ZfD (Zeo [] x.val)))))], h⟩ := by
  unfold opsL Go.Abs.ops Zig G25 ZhV Zhz Zgq U25 T25 S25 B25 Zad Tryz.f43 c25 b25 F25 E25 x25
  simp only [Option.getD_some, sq1, sq2, inn]
  simp [-getElem?_pos, A43, Zan]
theorem Ydk : (Go.Abs.ops Ziu).toList = op0 (opsL Ziu) :: (opsL Ziu).drop 1 := by kernel_rfl
theorem o25_18 : (op0 (opsL Ziu)).op = .next (.tmp 60) false ∧ (op0 (opsL Ziu)).guard = none ∧ (op0 (opsL Ziu)).dst = some 61 := by
  refine ⟨?_, ?_, ?_⟩ <;> kernel_rfl
theorem YdJ : (Go.Abs.ops ZiM).toList = op0 (opsL ZiM) :: (opsL ZiM).drop 1 := by kernel_rfl
theorem o25_19 : (op0 (opsL ZiM)).op = .entry (.tmp 60) ∧ (op0 (opsL ZiM)).guard = none ∧ (op0 (opsL ZiM)).dst = some 63 := by
  refine ⟨?_, ?_, ?_⟩ <;> kernel_rfl
def g25 (raw : List Cus) (D : Bm) (i : Nat) (x : Cus) (b : Bool) (p : Value) : List (Nat × SV) := c25 raw D i x b ++ [(60, .val (.raw p))]
theorem Ztu {call : Zaa} {all : List Oper} (raw : List Cus) (D : Bm) (i : Nat) (x : Cus) (bb : Bool) (p : Value) (h : List AObj) (b : Bool) (vs : List DV) :
    Zan C call (ann 43) all ((opsL Ziu).drop 1) ⟨g25 raw D i x bb p, [(61, .a (.d (.tup (.bool b :: vs))))], h⟩ = some ⟨g25 raw D i x bb p ++ [(62, .val (.d (.bool b)))], [(61, .a (.d (.tup (.bool b :: vs))))], h⟩ := by
  unfold opsL Go.Abs.ops Ziu ZwP G25 ZhV Zhz Zgq U25 T25 S25 B25 Zad Tryz.f43 g25 c25 b25 F25 E25 x25
  simp only [Option.getD_some, sq1, sq2, inn]
  simp [-getElem?_pos, A43, Zan]
theorem Zzn {call : Zaa} {all : List Oper} (raw : List Cus) (D : Bm) (i : Nat) (x : Cus) (bb : Bool) (p : Value) (h : List AObj) (k v : DV) :
    Zan C call (ann 43) all ((opsL ZiM).drop 1) ⟨g25 raw D i x bb p ++ [(62, .val (.d (.bool true)))], [(63, .a (.d (.tup [k, v])))], h⟩ = some ⟨g25 raw D i x bb p ++ [(62, .val (.d (.bool true))), (14, .val (.d k))], [(64, .a (.d k)), (63, .a (.d (.tup [k, v])))], h⟩ := by
  unfold opsL Go.Abs.ops ZiM ZxV ZwP G25 ZhV Zhz Zgq U25 T25 S25 B25 Zad Tryz.f43 g25 c25 b25 F25 E25 x25
  simp only [Option.getD_some, sq1, sq2, inn]
  simp [-getElem?_pos, A43, Zan]
theorem Zy0 {call : Zaa} (raw : List Cus) (D : Bm) (i : Nat) (x : Cus) (bb : Bool) (p : Value) (Sv Op : Mv) (nm : List UInt8) :
    evQ C call (ann 43) 0 Zs9 ⟨g25 raw D i x bb p ++ [(62, .val (.d (.bool true))), (14, .val (.d (.str nm)))], [], H25 Sv Op⟩ =
      some (.norm ⟨g25 raw D i x (bb || (Zbu BEq.beq nm Op).isSome) p ++ [(62, .val (.d (.bool true))), (14, .val (.d (.str nm))), (16, .val (.d (.bool (Zbu BEq.beq nm Op).isSome))), (71, .val (.d (.bool (Zbu BEq.beq nm Op).isSome)))], [], H25 Sv Op⟩) := by
  unfold Zs9 ZxV ZwP G25 ZhV Zhz Zgq U25 T25 S25 B25 Zad Tryz.f43 g25 c25 b25 F25 E25 x25 H25
  simp only [Option.getD_some, sq1, sq2, inn]
  cases hO : Zbu BEq.beq nm Op with
  | none => simp [-getElem?_pos, A43, Zan, ZbP, z70, k70, ZdY, hO, ZbF, ZcF, mapO, AV.toD]
  | some u => simp [-getElem?_pos, A43, Zan, ZbP, z70, k70, ZdY, hO, ZbF, ZcF, mapO, AV.toD]
theorem Zsr {call : Zaa} (raw : List Cus) (D : Bm) (i : Nat) (x : Cus) (h : List AObj) : evQ C call (ann 43) 0 ZpN ⟨c25 raw D i x false, [], h⟩ = some (.norm ⟨c25 raw D i x false ++ [(72, .val (.d (.bool false)))], [], h⟩) ∧
    evQ C call (ann 43) 0 ZpN ⟨c25 raw D i x true, [], h⟩ = some (.exit 3 ⟨c25 raw D i x true ++ [(72, .val (.d (.bool true)))], [], h⟩) := by
  unfold ZpN Zw6 ZhV Zhz Zgq U25 T25 S25 B25 Zad Tryz.f43 c25 b25 F25 E25 x25
  simp only [Option.getD_some, sq1, sq2, inn]
  constructor <;> simp [-getElem?_pos, A43, Zan]
theorem ZzL {call : Zaa} (raw : List Cus) (D : Bm) (i : Nat) (x : Cus) (Sv Op : Mv) (hO : (Op.map Prod.fst).Nodup) : evQ C call (ann 43) 0 Ztv ⟨c25 raw D i x false ++ [(72, .val (.d (.bool false)))], [], H25 Sv Op⟩ = some (.norm ⟨c25 raw D i x false ++ [(72, .val (.d (.bool false)))], [], H25 Sv (rmv x.name Op)⟩) := by
  unfold Ztv Zyl Zw6 ZhV Zhz Zgq U25 T25 S25 B25 Zad Tryz.f43 c25 b25 F25 E25 x25 H25
  simp only [Option.getD_some, sq1, sq2, inn]
  simp [-getElem?_pos, A43, Zan, Zje, hz9, ag9, Zg9, z70, k70, Zl1 _ Op hO]
def YcJ (Sv : Mv) : List (DV × DV) := Sv.map fun p => (.str p.1, .slc (p.2.map Val.enc))
end
theorem Zr3 {α β γ : Type} {f : β → Option γ} {g : α → β} {k : α → γ} (h : ∀ x, f (g x) = some (k x)) : ∀ l : List α, mapO f (l.map g) = some (l.map k)
  | [] => rfl
  | x :: r => by
    have ih := Zr3 h r
    rw [List.map_cons, List.map_cons]
    simp only [mapO, h, ih]
theorem YeC (d : DV) : (AV.d d).toD = some d := by simp [AV.toD]
theorem ZvQ (Sv : Mv) : mapO (fun e : DV × AV => e.2.toD.map fun v => (e.1, v)) (ZhM Sv) = some (YcJ Sv) :=
  Zr3 (fun p => by show (AV.d _).toD.map _ = _; rw [YeC]; rfl) Sv
theorem YdI (v : List Val) : DV.noMapL (v.map Val.enc) = true := by
  have := ok.noMap 22 v rfl
  exact this
end Go.Tev.S1
namespace Go.Tev.S1
open Go.Abs Go.Proofs
def d25 (raw : List Cus) (D : Bm) (i : Nat) (x : Cus) : List (Nat × SV) := c25 raw D i x false ++ [(72, .val (.d (.bool false)))]
theorem Zxp (Sv Op : Mv) (u : DV) : ZdZ [.map (ZhM Sv), .map (ZhM Op)] [.d u, .mp 0] = some ([u, .fmap (YcJ Sv)], 1) := by
  have h : ZqH [.map (ZhM Sv), .map (ZhM Op)] (.mp 0) = some (.fmap (YcJ Sv), 1) := by
    show (mapO (fun e : DV × AV => e.2.toD.map fun v => (e.1, v)) (ZhM Sv)).map (fun l => (DV.fmap l, 1)) = _
    rw [ZvQ]; rfl
  simp only [ZdZ, h]
  rfl
theorem Zro (v : List Val) (e : Int) : Zp0 1 (.tup [.slc (v.map Val.enc), .int .i64 e]) = true := by
  simp only [Zp0, DV.noMap, DV.noMapL, YdI, Bool.and_self]
section
attribute [local simp] List.getElem?_cons_zero Option.bind_some Zgw ZbR Zbp ZaW ZbC Za8 ZaM ZcG ZbB Za7 Zbz Zby ZcH ZbA Za9 ZaK ZcB Zau Zaw Zeh ZaQ Zbs Zbm Zbx Zbn has opx opd opA opD XV.flat XV.copy oD oA Zab ins ZeT Zcg St.put St.putOwn St.lose St.loseEnv unal Zem Zep ZfC dUn Zdk Zag ZaV ZaX ZaF Zal ZaZ Za1 ZaU Zd2 ZaG AV.cells AV.cellOk AV.single DV.cellOk Zgs Zgt Zgx DV.cells Zak Zb1 Zah ZaS Zam ZaL ZeB Zaq ZcF mapO AV.toD Zai ZaO ZbO optD ZaT ZaE Zca Zae ZaP Zay Za5 Zao Zbl ZbF ZaI St.trim Out.st
theorem Zzt {call : Zaa} (raw : List Cus) (D : Bm) (i : Nat) (x : Cus) (Sv Op : Mv) (v : List Val) (e n : Int) (hS : x.name ∉ Sv.map Prod.fst)
    (h39 : Zcz call false 34 [.slc (x.val.map Val.enc), .fmap (YcJ Sv)] = some (.tup [.slc (v.map Val.enc), .int .i64 e])) (h30 : e = 0 → Zcz call true 44 [.slc (v.map Val.enc)] = some (.int .i64 n)) :
    evQ C call (ann 43) 0 Zso ⟨d25 raw D i x, [], H25 Sv Op⟩ = some (.norm ⟨d25 raw D i x ++ [(17, .val (.d (.slc (v.map Val.enc)))), (18, .val (.d (.int .i64 e))), (89, .val (.d (.bool (decide (e = 0) && decide (n ≤ 2000)))))], [], H25 (bif decide (e = 0) && decide (n ≤ 2000) then Sv ++ [(x.name, v)] else Sv) Op⟩) := by
  unfold Zso Zyl Zw6 ZhV Zhz Zgq U25 T25 S25 B25 Zad Tryz.f43 d25 c25 b25 F25 E25 x25 H25
  simp only [Option.getD_some, sq1, sq2, inn]
  by_cases he : e = 0
  · subst he
    have h30 := h30 rfl
    by_cases hn : n ≤ 2000
    · simp [-getElem?_pos, A43, Zan, Zje, ZnK, hz9, Zx3, ag9, ZxZ, z70, k70, Zxp, h39, h30, Zro, hn, ZgN _ _ Sv hS]
    · simp [-getElem?_pos, A43, Zan, Zje, ZnK, hz9, Zx3, ag9, ZxZ, z70, k70, Zxp, h39, h30, Zro, hn, ZgN _ _ Sv hS]
  · have he2 : (e == 0) = false := by simpa using he
    simp [-getElem?_pos, A43, Zan, Zje, ZnK, hz9, Zx3, ag9, ZxZ, z70, k70, Zxp, h39, Zro, he, he2, ZgN _ _ Sv hS]
theorem Zzx {call : Zaa} (raw : List Cus) (D : Bm) (h : List AObj) : evQ C call (ann 43) 0 Zsz ⟨E25 raw D, [], h⟩ = some (.norm ⟨E25 raw D ++ [(19, .own [])], [], h⟩) := by
  unfold Zsz T25 S25 B25 Zad Tryz.f43 E25
  simp only [Option.getD_some, sq1, sq2, inn]
  simp [-getElem?_pos, A43, Zan]
def n25 (raw : List Cus) (D : Bm) (es : List Cus) (i : Nat) : List (Nat × SV) := E25 raw D ++ [(19, .own (es.map Cus.enc)), (95, .val (.d (d44 raw))), (96, .val (.d (.int .i64 raw.length))), (97, .val (.d (.int .i64 i)))]
theorem ZzO {call : Zaa} (raw : List Cus) (D : Bm) (h : List AObj) : evQ C call (ann 43) 0 Zpx ⟨E25 raw D ++ [(19, .own [])], [], h⟩ = some (.norm ⟨n25 raw D [] 0, [], h⟩) := by
  unfold Zpx N25 T25 S25 B25 Zad Tryz.f43 n25 E25 d44
  simp only [Option.getD_some, sq1, sq2, inn]
  simp [-getElem?_pos, A43, Zan, ZrQ]
theorem ZyB {call : Zaa} (raw : List Cus) (D : Bm) (es : List Cus) (h : List AObj) : evQ C call (ann 43) 0 Zn7 ⟨n25 raw D es raw.length, [], h⟩ = some (.exit 6 ⟨n25 raw D es raw.length ++ [(98, .val (.d (.bool false)))], [], h⟩) := by
  unfold Zn7 N25 T25 S25 B25 Zad Tryz.f43 n25 E25
  simp only [Option.getD_some, sq1, sq2, inn]
  simp [-getElem?_pos, A43, Zan]
theorem ZyF {call : Zaa} (raw : List Cus) (D : Bm) (es : List Cus) (i : Nat) (h : List AObj) : ∃ s, evQ C call (ann 43) 0 ZtB ⟨n25 raw D es i, [], h⟩ = some (.norm s) ∧ Zbp C s Tryz.f43.results.toList = some [.d (.slc (es.map Cus.enc))] := by
  have hr : Tryz.f43.results.toList = [.tmp 2] := rfl
  rw [hr]
  unfold ZtB T25 S25 B25 Zad Tryz.f43 n25 E25
  simp only [Option.getD_some, sq1, sq2, inn]
  simp [-getElem?_pos, A43, Zan]
theorem pl53 : C.places 39 = some (fun i => [(0, 1), (1, 1)][i]?) := by kernel_rfl
theorem hz22 : C.hasZero 23 = true := by kernel_rfl
theorem YeM : C.elemOk 23 2 = true := by kernel_rfl
theorem Yfn : ∃ b, C.elemBytes 23 = some b ∧ b ≤ 100 := ⟨40, by kernel_rfl, by decide⟩
end
theorem rm22 {n : Nat} (h : n ≤ 2 ^ 40) : ZbL C 23 n = true := by
  obtain ⟨b, hb, hl⟩ := Yfn
  simp only [ZbL, hb, Bool.and_eq_true, Nat.ble_eq]
  have : n * b ≤ 2 ^ 40 * 100 := Nat.mul_le_mul h hl
  exact ⟨by omega, by omega⟩
theorem cs53 (es : List Cus) : Zao 2 ((es.map Cus.enc).take 1) = true := by
  cases es with
  | nil => rfl
  | cons x es => rfl
section
attribute [local simp] List.getElem?_cons_zero Option.bind_some Zgw ZbR Zbp ZaW ZbC Za8 ZaM ZcG ZbB Za7 Zbz Zby ZcH ZbA Za9 ZaK ZcB Zau Zaw Zeh ZaQ Zbs Zbm Zbx Zbn has opx opd opA opD XV.flat XV.copy oD oA Zab ins ZeT Zcg St.put St.putOwn St.lose St.loseEnv unal Zem Zep ZfC dUn Zdk Zag ZaV ZaX ZaF Zal ZaZ Za1 ZaU Zd2 ZaG AV.cells AV.cellOk AV.single DV.cellOk Zgs Zgt Zgx DV.cells Zak Zb1 Zah ZaS Zam ZaL ZeB Zaq ZcF mapO AV.toD Zai ZaO ZbO optD ZaT ZaE Zca Zae ZaP Zay Za5 Zao Zbl ZbF ZaI St.trim Out.st
theorem Zyy {call : Zaa} (raw : List Cus) (D : Bm) (es : List Cus) (i : Nat) (x : Cus) (hx : raw[i]? = some x) (hl : raw.length < 2 ^ 40) (Sv Op : Mv) (hS : Zbu BEq.beq x.name Sv = none) :
    evQ C call (ann 43) 0 Zn7 ⟨n25 raw D es i, [], H25 Sv Op⟩ = some (.norm ⟨n25 raw D es (i + 1) ++ [(98, .val (.d (.bool true)))], [], H25 Sv Op⟩) := by
  have hlt : i < raw.length := (List.getElem?_eq_some_iff.1 hx).1
  have hw : IntKind.i64.wrap ((i : Int) + 1) = (i : Int) + 1 := wrap_add1 (by omega)
  have hg := Zk1 hx
  have hi := Ycy hlt
  unfold Zn7 N25 T25 S25 B25 Zad Tryz.f43 n25 E25 H25 d44
  simp only [Option.getD_some, sq1, sq2, inn]
  simp [-getElem?_pos, A43, Zan, ZrQ, hlt, hw, hg, hi, YcK, YcR, YcQ, Zje, ZnK, hz9, Zx3, ag9, ZxZ, ZbP, z70, k70, ZdY, hS, -List.getElem?_map]
theorem Zzo {call : Zaa} (raw : List Cus) (D : Bm) (es : List Cus) (i : Nat) (x : Cus) (hx : raw[i]? = some x) (hl : raw.length < 2 ^ 40) (he : es.length ≤ i) (Sv Op : Mv) {v : List Val} (hS : Zbu BEq.beq x.name Sv = some v) :
    evQ C call (ann 43) 0 Zn7 ⟨n25 raw D es i, [], H25 Sv Op⟩ = some (.norm ⟨n25 raw D (es ++ [⟨x.name, v⟩]) (i + 1) ++ [(98, .val (.d (.bool true)))], [], H25 Sv Op⟩) := by
  have hlt : i < raw.length := (List.getElem?_eq_some_iff.1 hx).1
  have hw : IntKind.i64.wrap ((i : Int) + 1) = (i : Int) + 1 := wrap_add1 (by omega)
  have hg := Zk1 hx
  have hi := Ycy hlt
  have hrm : ZbL C 23 (es.length + 1) = true := rm22 (by omega)
  unfold Zn7 N25 T25 S25 B25 Zad Tryz.f43 n25 E25 H25 d44
  simp only [Option.getD_some, sq1, sq2, inn]
  simp [-getElem?_pos, A43, Zan, ZrQ, hlt, hw, hg, hi, YcK, YcR, YcQ, Zje, ZnK, hz9, Zx3, ag9, ZxZ, ZbP, z70, k70, ZdY, hS, pl53, hz22, YeM, cs53, hrm, -List.getElem?_map]
  rfl
end
end Go.Tev.S1
namespace Go.Abs
section
variable {C : Ctx} {call : Zaa} {fa : FA} {st s1 s2 s3 : St} {x y z : Code} {Q : Out → Prop}
theorem ZoO (hn : Zbj C.P) (hm : C.P.follows .mixedOrders = true) (hK : Zba C.P call) {n k1 k2 : Nat} (okx : okC fa x = true) (oky : okC fa y = true) (hx : evQ C call fa k1 x st = some (.norm s1)) (hy : evQ C call fa k2 y s1 = some (.norm s2))
    (hs : Sheds n s2 s3) (hl : st.heap.length ≤ n) (h : Tri C fa z s3 Q) : Tri C fa (.seq x (.seq y z)) st Q := by
  intro own a w S
  refine wp_seq (wp_mono (ZgP hn hm hK k1 x st _ own a w (Zhv k1 x st _ okx hx) S) ?_)
  rintro e a1 w1 ⟨he, own1, S1, F1, E1⟩
  subst he
  refine wp_seq (wp_mono (ZgP hn hm hK k2 y s1 _ own1 a1 w1 (Zhv k2 y s1 _ oky hy) S1) ?_)
  rintro e a2 w2 ⟨he, own2, S2, F2, E2⟩
  subst he
  have F := (F1.trans F2).shed (n := n)
  have E := (E1.trans E2).shed hs hl
  exact wp_mono (h _ a2 w2 (S2.shed hs)) fun e a3 w3 ⟨o, k1, k2⟩ => ⟨o, k1, k2.after F E⟩
end
end Go.Abs
namespace Go.Tev.S1
open Go.Abs Go.Proofs
def ZcN (Op : Mv) (x : Cus) : Bool := (Zbu BEq.beq x.name Op).isSome && !((Zeo [] x.val).any fun p => (Zbu BEq.beq p.1 Op).isSome)
def ZtK (Sv : Mv) (x : Cus) : Mv := bif decide ((ZfG (lkM Sv) x.val).2 = 0) && decide ((Zaz (ZfG (lkM Sv) x.val).1 : Int) ≤ 2000) then Sv ++ [(x.name, (ZfG (lkM Sv) x.val).1)] else Sv
def ZhE (raw : List Cus) : Nat → Mv → Mv → Mv
  | 0, Sv, _ => Sv
  | n + 1, Sv, Op => match raw.find? (ZcN Op) with
    | some x => ZhE raw n (ZtK Sv x) (rmv x.name Op)
    | none => Sv
def OkS (Sv : Mv) : Prop := ∀ p ∈ Sv, Zaz p.2 ≤ 2000 ∧ ZbD p.2 = false
theorem Zxw {Sv : Mv} (h : OkS Sv) : Yc0 (lkM Sv) := by
  intro n x hx
  have hV : V = 2 ^ 24 := rfl
  have : ∀ M : Mv, Zbu BEq.beq n M = some x → ∃ k, (k, x) ∈ M := by
    intro M
    induction M with
    | nil => intro h; simp [Zbu] at h
    | cons p M ih =>
      obtain ⟨k, u⟩ := p
      intro h
      simp only [Zbu] at h
      cases e : (n == k) with
      | true => rw [e] at h; cases h; exact ⟨k, List.mem_cons_self⟩
      | false => rw [e] at h; obtain ⟨k', hk⟩ := ih h; exact ⟨k', List.mem_cons_of_mem _ hk⟩
  obtain ⟨k, hk⟩ := this Sv hx
  obtain ⟨h1, h2⟩ := h _ hk
  exact ⟨Nat.le_trans h1 (by rw [hV]; decide), h2⟩
theorem ZqO {Sv : Mv} (hS : OkS Sv) {l : List Val} (hl : Zaz l ≤ B) : Zcz (Zac C K0) false 34 [.slc (l.map Val.enc), .fmap (YcJ Sv)] = some (.tup [.slc ((ZfG (lkM Sv) l).1.map Val.enc), .int .i64 (ZfG (lkM Sv) l).2]) := by
  have hV : V = 2 ^ 24 := rfl
  obtain ⟨d, h1, h2⟩ := Zo6 Zjl [.l 51 l, .m 9 22 Sv] (l, Sv) (ZfG (lkM Sv) l) [.slc (l.map Val.enc), .fmap (YcJ Sv)] _ rfl rfl (ZlC ⟨hl, Zxw hS⟩ fun p hp => Nat.le_trans (hS p hp).1 (by rw [hV]; decide)) rfl
  cases h1
  exact h2
theorem Zwm {Sv : Mv} (hS : OkS Sv) {l : List Val} (hl : Zaz l ≤ B) (h0 : (ZfG (lkM Sv) l).2 = 0) : Zaz (ZfG (lkM Sv) l).1 ≤ B := by
  unfold ZfG at h0 ⊢
  split
  · simp [Zaz]
  · rename_i n hn
    split
    · simp [Zaz]
    · rename_i h2
      split
      · exact (Zz4 ⟨hl, Zxw hS⟩ hn h2).2
      · simp [Zaz]
theorem Zrt {l : List Val} (hl : Zaz l ≤ B) : Zcz (Zac C K0) true 44 [.slc (l.map Val.enc)] = some (.int .i64 (Zaz l)) := by
  obtain ⟨d, h1, h2⟩ := Zv0 Zjl [.l 51 l] l _ [.slc (l.map Val.enc)] _ rfl rfl (Zkr hl) rfl
  cases h1
  exact ZgO h2
theorem Ycq {lk : Lk} (h : Yc0 lk) : ∀ l, ZbD (Zei lk l) = false := by
  refine ZfT _ ?_ ?_
  · rw [Zd5]; rfl
  · intro v r h1 h2 h3
    rw [Zc2, ZjK, h1, Bool.or_false]
    unfold Zty
    split
    · split
      · rename_i x hx; exact (h _ _ hx).2
      · exact h3
    · rename_i hv
      rw [Bool.not_eq_true] at hv
      rw [ZbD, Val.hasv_eq]
      have e1 : (Val.mk v.tok (Zei lk v.l)).ref = v.ref := rfl
      have e2 : (Val.mk v.tok (Zei lk v.l)).l = Zei lk v.l := rfl
      rw [e1, e2, hv, h2]
      rfl
theorem ZzK {Sv : Mv} (hS : OkS Sv) (l : List Val) : ZbD (ZfG (lkM Sv) l).1 = false := by
  unfold ZfG
  split
  · rfl
  · split
    · rfl
    · split
      · exact Ycq (Zxw hS) l
      · rfl
theorem ZuZ {Sv : Mv} (hS : OkS Sv) (x : Cus) : OkS (ZtK Sv x) := by
  unfold ZtK
  cases h : decide ((ZfG (lkM Sv) x.val).2 = 0) && decide ((Zaz (ZfG (lkM Sv) x.val).1 : Int) ≤ 2000) with
  | false => exact hS
  | true =>
    rw [Bool.and_eq_true, decide_eq_true_eq, decide_eq_true_eq] at h
    intro p hp
    rw [cond_true] at hp
    rcases List.mem_append.1 hp with hp | hp
    · exact hS p hp
    · rw [List.mem_singleton] at hp
      subst hp
      exact ⟨Int.ofNat_le.1 h.2, ZzK hS _⟩
theorem ZmL (Sv : Mv) (x : Cus) : ∀ a ∈ (ZtK Sv x).map Prod.fst, a ∈ Sv.map Prod.fst ∨ a = x.name := by
  intro a ha
  unfold ZtK at ha
  cases h : decide ((ZfG (lkM Sv) x.val).2 = 0) && decide ((Zaz (ZfG (lkM Sv) x.val).1 : Int) ≤ 2000) with
  | false => rw [h] at ha; exact .inl ha
  | true =>
    rw [h, cond_true, List.map_append] at ha
    rcases List.mem_append.1 ha with h | h
    · exact .inl h
    · exact .inr (by simpa using h)
theorem rmv_names {a : List UInt8} {M : Mv} {b : List UInt8} : b ∈ (rmv a M).map Prod.fst ↔ b ∈ M.map Prod.fst ∧ b ≠ a := by
  simp only [rmv, List.mem_map, List.mem_filter]
  constructor
  · rintro ⟨p, ⟨h1, h2⟩, rfl⟩
    exact ⟨⟨p, h1, rfl⟩, fun e => by simp [e] at h2⟩
  · rintro ⟨⟨p, h1, rfl⟩, h2⟩
    exact ⟨p, ⟨h1, by simpa using fun e => h2 e.symm⟩, rfl⟩
theorem Zwc {a : List UInt8} {M : Mv} (h : (M.map Prod.fst).Nodup) : ((rmv a M).map Prod.fst).Nodup := (List.Sublist.map _ List.filter_sublist).nodup h
theorem Yai {a : List UInt8} {M : Mv} (h : a ∈ M.map Prod.fst) : (rmv a M).length < M.length := by
  obtain ⟨p, hp, rfl⟩ := List.mem_map.1 h
  have : ∀ M : Mv, p ∈ M → (rmv p.1 M).length < M.length := by
    intro M
    induction M with
    | nil => intro h; simp at h
    | cons q M ih =>
      intro hp
      have hle : (rmv p.1 M).length ≤ M.length := List.length_filter_le _ _
      simp only [rmv, List.filter_cons] at ih hle ⊢
      rcases List.mem_cons.1 hp with rfl | hp
      · simp only [beq_self_eq_true, Bool.not_true, Bool.false_eq_true, if_false, List.length_cons]; omega
      · have := ih hp
        split <;> simp only [List.length_cons] <;> omega
  exact this M hp
end Go.Tev.S1
namespace Go.Tev.S1
open Go.Abs Go.Proofs
open Classical in
noncomputable def Zi1 (raw : List Cus) : Mv := (ZmX raw).filter fun q => decide ((q.1, true) ∉ ZbI raw)
def ZkX (raw : List Cus) (D : Bm) (vis : List Nat) : Mv := (ZmX raw).filter fun q => decide (∀ j ∈ vis, D[j]? ≠ some (q.1, true))
theorem Zt2 (raw : List Cus) (D : Bm) (vis : List Nat) (j : Nat) (a : List UInt8) (b : Bool) (hj : D[j]? = some (a, b)) : ZkX raw D (j :: vis) = (bif b then rmv a (ZkX raw D vis) else ZkX raw D vis) := by
  cases b with
  | false =>
    simp only [cond_false, ZkX]
    refine List.filter_congr fun q _ => ?_
    simp only [List.mem_cons, forall_eq_or_imp, hj, decide_eq_decide]
    constructor
    · exact fun h => h.2
    · exact fun h => ⟨by simp, h⟩
  | true =>
    simp only [cond_true, ZkX, rmv, List.filter_filter]
    refine List.filter_congr fun q _ => ?_
    rw [Bool.eq_iff_iff]
    simp only [List.mem_cons, forall_eq_or_imp, hj, decide_eq_true_eq, Bool.and_eq_true, Bool.not_eq_true', beq_eq_false_iff_ne, ne_eq, Option.some.injEq, Prod.mk.injEq, and_true]
theorem ZwB (raw : List Cus) (vis : List Nat) (h : ∀ j, j < (ZbI raw).length → j ∈ vis) : ZkX raw (ZbI raw) vis = Zi1 raw := by
  unfold ZkX Zi1
  refine List.filter_congr fun q _ => ?_
  rw [Bool.eq_iff_iff]
  simp only [decide_eq_true_eq]
  constructor
  · intro h1 hm
    obtain ⟨j, hj, he⟩ := List.mem_iff_getElem.1 hm
    exact h1 j (h j hj) (by rw [List.getElem?_eq_getElem hj, he])
  · intro h1 j _ he
    exact h1 (List.mem_of_getElem? he)
theorem Zrv (raw : List Cus) (hn : (raw.map Cus.name).Nodup) (D : Bm) (vis : List Nat) : ((ZkX raw D vis).map Prod.fst).Nodup := by
  have : ((ZmX raw).map Prod.fst).Nodup := by rw [Zjr]; exact hn
  exact (List.Sublist.map _ List.filter_sublist).nodup this
theorem ZxO (raw : List Cus) (hn : (raw.map Cus.name).Nodup) : Tri C (C.ann 43) Yaj ⟨E25 raw (ZbI raw), [], H25 [] (ZmX raw)⟩ (YaR (E25 raw (ZbI raw)) (H25 [] (Zi1 raw))) := by
  obtain ⟨_, _, k7, _, _, _, _, _, _⟩ := ZsX
  refine ZeL (call := Zac C K0) noCount Zaj YfA (Yct raw (ZbI raw) _) o25_4.2.1 o25_4.1 o25_4.2.2 (by kernel_rfl) (by kernel_rfl) (show opA _ (.tmp 29) = some (.d (.fmap (ZfD (ZbI raw)))) from rfl) YfG fun p => ?_
  show Ydo C (C.ann 43) 30 p (ZfD (ZbI raw)) _ ⟨ZuP raw (ZbI raw) p, [], H25 [] (ZmX raw)⟩ _
  refine ZkG (call := Zac C K0) noCount Zaj Yex o25_5.2.1 o25_5.1 o25_5.2.2 (by kernel_rfl) (by kernel_rfl) Yfy o25_6.2.1 o25_6.1 o25_6.2.2 (by kernel_rfl) (by kernel_rfl)
    (fun vis s => s = ⟨ZuP raw (ZbI raw) p, [], H25 [] (ZkX raw (ZbI raw) vis)⟩) ?_ (fun vis s hs => by subst hs; exact ⟨rfl, rfl⟩) ?_ ?_
  · have : ZkX raw (ZbI raw) [] = ZmX raw := by
      unfold ZkX
      rw [List.filter_eq_self]
      intro q _
      simp
    rw [this]
  · rintro vis s rfl hall
    refine ⟨_, ZvW raw _ p _ false [], rfl, ?_⟩
    refine ⟨_, rfl, ?_⟩
    rw [ZwB raw vis (fun j hj => hall j (by simpa [ZfD] using hj))]
    refine sub_list (s := ⟨ZuP raw (ZbI raw) p ++ [(32, .val (.d (.bool false)))], [], H25 [] (Zi1 raw)⟩) fun q hq => ?_
    simp only [E25, List.mem_cons, List.not_mem_nil, or_false] at hq
    rcases hq with rfl | rfl | rfl | rfl | rfl <;> exact ⟨rfl, rfl⟩
  · rintro vis s j k v rfl hj hjv
    rw [ZfD, List.getElem?_map] at hj
    cases huj : (ZbI raw)[j]? with
    | none => rw [huj] at hj; cases hj
    | some q =>
      obtain ⟨a, b⟩ := q
      rw [huj] at hj
      cases hj
      refine ⟨_, _, ZvW raw _ p _ true [.str a, .bool b], rfl, rfl, Ycl raw _ p _ (.str a) (.bool b), ?_⟩
      refine Zcj (call := Zac C K0) noCount mixed Zaj k7 (YaP raw _ p [] _ (Zrv raw hn _ vis) a b) ?_
      simp only [Zbw]
      refine ⟨_, rfl, ?_⟩
      rw [Zt2 raw _ vis j a b huj]
      refine ⟨fun kk vv hv => ?_, rfl, rfl⟩
      simp only [St.trim]
      rw [alook_trimE _ _ _ (by rw [Zbk hv]; rfl)]
      exact Zbk hv
def ZxC (u : Bm) (Op : Mv) (vis : List Nat) : Bool := decide (∃ j ∈ vis, ∃ q, u[j]? = some q ∧ (Zbu BEq.beq q.1 Op).isSome = true)
end Go.Tev.S1
namespace Go.Tev.S1
open Go.Abs Go.Proofs
def Ybz (u : Bm) (Op : Mv) : Bool := u.any fun p => (Zbu BEq.beq p.1 Op).isSome
theorem Zze (raw : List Cus) (D : Bm) (i : Nat) (x : Cus) (Sv Op : Mv) : Tri C (C.ann 43) Yao ⟨c25 raw D i x false, [], H25 Sv Op⟩ (YaR (c25 raw D i x (Ybz (Zeo [] x.val) Op)) (H25 Sv Op)) := by
  obtain ⟨_, k20, _, _, _, _, _, _, _, _⟩ := ZpX
  refine ZeL (call := Zac C K0) noCount Zaj Yc1 (Zx6 raw D i x false _) o25_17.2.1 o25_17.1 o25_17.2.2 (by kernel_rfl) (by kernel_rfl) (show opA _ (.tmp 59) = some (.d (.fmap (ZfD (Zeo [] x.val)))) from rfl) YfG fun p => ?_
  show Ydo C (C.ann 43) 60 p (ZfD (Zeo [] x.val)) _ ⟨g25 raw D i x false p, [], H25 Sv Op⟩ _
  refine ZkG (call := Zac C K0) noCount Zaj Ydk o25_18.2.1 o25_18.1 o25_18.2.2 (by kernel_rfl) (by kernel_rfl) YdJ o25_19.2.1 o25_19.1 o25_19.2.2 (by kernel_rfl) (by kernel_rfl)
    (fun vis s => s = ⟨g25 raw D i x (ZxC (Zeo [] x.val) Op vis) p, [], H25 Sv Op⟩) ?_ (fun vis s hs => by subst hs; exact ⟨rfl, rfl⟩) ?_ ?_
  · have : ZxC (Zeo [] x.val) Op [] = false := by simp [ZxC]
    rw [this]
  · rintro vis s rfl hall
    refine ⟨_, Ztu raw D i x _ p _ false [], rfl, ?_⟩
    refine ⟨_, rfl, ?_⟩
    have : ZxC (Zeo [] x.val) Op vis = Ybz (Zeo [] x.val) Op := by
      rw [Bool.eq_iff_iff]
      unfold ZxC Ybz
      rw [decide_eq_true_eq, List.any_eq_true]
      constructor
      · rintro ⟨j, _, q, hq, h⟩; exact ⟨q, List.mem_of_getElem? hq, h⟩
      · rintro ⟨q, hq, h⟩
        obtain ⟨j, hj, rfl⟩ := List.mem_iff_getElem.1 hq
        exact ⟨j, hall j (by simpa [ZfD] using hj), _, List.getElem?_eq_getElem hj, h⟩
    rw [this]
    refine sub_list (s := ⟨g25 raw D i x (Ybz (Zeo [] x.val) Op) p ++ [(62, .val (.d (.bool false)))], [], H25 Sv Op⟩) fun q hq => ?_
    simp only [c25, b25, F25, E25, x25, List.cons_append, List.nil_append, List.mem_cons, List.not_mem_nil, or_false] at hq
    rcases hq with rfl | rfl | rfl | rfl | rfl | rfl | rfl | rfl | rfl | rfl | rfl | rfl | rfl | rfl <;> exact ⟨rfl, rfl⟩
  · rintro vis s j k v rfl hj hjv
    rw [ZfD, List.getElem?_map] at hj
    cases huj : (Zeo [] x.val)[j]? with
    | none => rw [huj] at hj; cases hj
    | some q =>
      obtain ⟨a, b⟩ := q
      rw [huj] at hj
      cases hj
      refine ⟨_, _, Ztu raw D i x _ p _ true [.str a, .bool b], rfl, rfl, Zzn raw D i x _ p _ (.str a) (.bool b), ?_⟩
      refine Zcj (call := Zac C K0) noCount mixed Zaj k20 (Zy0 raw D i x _ p Sv Op a) ?_
      simp only [Zbw]
      refine ⟨_, rfl, ?_⟩
      have : ZxC (Zeo [] x.val) Op (j :: vis) = (ZxC (Zeo [] x.val) Op vis || (Zbu BEq.beq a Op).isSome) := by
        rw [Bool.eq_iff_iff]
        unfold ZxC
        simp only [List.mem_cons, Bool.or_eq_true, decide_eq_true_eq]
        constructor
        · rintro ⟨j', rfl | h1, q, hq, h⟩
          · rw [huj] at hq; cases hq; exact .inr h
          · exact .inl ⟨j', h1, q, hq, h⟩
        · rintro (⟨j', h1, q, hq, h⟩ | h)
          · exact ⟨j', .inr h1, q, hq, h⟩
          · exact ⟨j, .inl rfl, _, huj, h⟩
      rw [this]
      refine ⟨fun kk vv hv => ?_, rfl, rfl⟩
      simp only [St.trim]
      have hv2 : Zab (g25 raw D i x (ZxC (Zeo [] x.val) Op vis || (Zbu BEq.beq a Op).isSome) p ++ [(62, .val (.d (.bool true)))]) kk = some vv := Zbk hv
      have hk : (Zab (g25 raw D i x (ZxC (Zeo [] x.val) Op vis) p ++ [(62, .val (.d (.bool true)))]) kk).isSome = true := by
        have hm := sub_list.alook_mem0' hv2
        simp only [g25, c25, b25, F25, E25, x25, List.cons_append, List.nil_append, List.mem_cons, List.not_mem_nil, or_false, Prod.mk.injEq] at hm
        rcases hm with ⟨rfl, _⟩ | ⟨rfl, _⟩ | ⟨rfl, _⟩ | ⟨rfl, _⟩ | ⟨rfl, _⟩ | ⟨rfl, _⟩ | ⟨rfl, _⟩ | ⟨rfl, _⟩ | ⟨rfl, _⟩ | ⟨rfl, _⟩ | ⟨rfl, _⟩ | ⟨rfl, _⟩ | ⟨rfl, _⟩ | ⟨rfl, _⟩ | ⟨rfl, _⟩ | ⟨rfl, _⟩ <;> rfl
      rw [alook_trimE _ _ _ hk]
      exact Zbk hv
theorem YdU (raw : List Cus) (D : Bm) (i : Nat) (x : Cus) (Sv Op : Mv) (h' : List AObj) (g2 : h'[0]? = some (.map (ZhM Sv))) (g3 : h'[1]? = some (.map (ZhM Op))) (g4 : h'[2]? = some (.map ((ZfD (Zeo [] x.val)).map fun p => (p.1, .d p.2)))) :
    Sheds 2 ⟨b25 raw D i x ++ [(12, .val (.mp 2))], [], h'⟩ ⟨b25 raw D i x ++ [(12, .val (.d (.fmap (ZfD (Zeo [] x.val)))))], [], H25 Sv Op⟩ := by
  have hd : ∀ M : Mv, ShedO 2 h' (.map (ZhM M)) (.map (ZhM M)) := fun M => .map _ _ rfl fun j a b ha hb => by
    rw [ha] at hb
    cases hb
    obtain ⟨p, _, rfl⟩ := List.mem_map.1 (List.mem_of_getElem? ha)
    exact ⟨rfl, .d _⟩
  refine ⟨rfl, rfl, ?_, ?_⟩
  · intro id o2 ho
    rcases id with _ | _ | id
    · cases ho; exact ⟨_, g2, hd Sv⟩
    · cases ho; exact ⟨_, g3, hd Op⟩
    · simp [H25] at ho
  · intro k v2 hv
    have hm := sub_list.alook_mem0' hv
    have key : ∀ (k : Nat) (v2 v : SV), Zab (b25 raw D i x ++ [(12, SV.val (.mp 2))]) k = some v → ShedSV 2 h' v v2 → ∃ v, Zab (b25 raw D i x ++ [(12, SV.val (.mp 2))]) k = some v ∧ ShedSV 2 h' v v2 := fun k v2 v h1 h2 => ⟨v, h1, h2⟩
    simp only [b25, F25, E25, x25, List.cons_append, List.nil_append, List.mem_cons, List.not_mem_nil, or_false, Prod.mk.injEq] at hm
    rcases hm with ⟨rfl, rfl⟩ | ⟨rfl, rfl⟩ | ⟨rfl, rfl⟩ | ⟨rfl, rfl⟩ | ⟨rfl, rfl⟩ | ⟨rfl, rfl⟩ | ⟨rfl, rfl⟩ | ⟨rfl, rfl⟩ | ⟨rfl, rfl⟩ | ⟨rfl, rfl⟩ | ⟨rfl, rfl⟩ | ⟨rfl, rfl⟩ | ⟨rfl, rfl⟩
    · exact key _ _ _ rfl (.val _ _ (.d _))
    · exact key _ _ _ rfl (.val _ _ (.d _))
    · exact key _ _ _ rfl (.val _ _ (.d _))
    · exact key _ _ _ rfl (.val _ _ (.mp 0 (by decide)))
    · exact key _ _ _ rfl (.val _ _ (.mp 1 (by decide)))
    · exact key _ _ _ rfl (.val _ _ (.d _))
    · exact key _ _ _ rfl (.val _ _ (.d _))
    · exact key _ _ _ rfl (.val _ _ (.d _))
    · exact key _ _ _ rfl (.val _ _ (.d _))
    · exact key _ _ _ rfl (.box _)
    · exact key _ _ _ rfl (.val _ _ (.d _))
    · exact key _ _ _ rfl (.val _ _ (.d _))
    · exact key _ _ _ rfl (.val _ _ (.frz 2 _ (Nat.le_refl _) g4))
end Go.Tev.S1
namespace Go.Tev.S1
open Go.Abs Go.Proofs
def QB (raw : List Cus) (D : Bm) (i : Nat) (x : Cus) (Sv Op : Mv) : Out → Prop := fun o => (ZcN Op x = false ∧ ∃ s, o = .norm s ∧ Sub ⟨F25 raw D i ++ [(42, .val (.d (.bool true)))], [], H25 Sv Op⟩ s) ∨
  (ZcN Op x = true ∧ ∃ s, o = .goto 0 s ∧ Sub ⟨E25 raw D, [], H25 (ZtK Sv x) (rmv x.name Op)⟩ s)
theorem Zqa {Op : Mv} {x : Cus} (h : Zbu BEq.beq x.name Op = none) : ZcN Op x = false := by simp [ZcN, h]
theorem Zj0 {Op : Mv} {x : Cus} {u} (h : Zbu BEq.beq x.name Op = some u) : ZcN Op x = !Ybz (Zeo [] x.val) Op := by simp [ZcN, h, Ybz]
theorem Zvy (raw : List Cus) (D : Bm) (i : Nat) (Sv Op : Mv) (more : List (Nat × SV)) : Sub ⟨F25 raw D i ++ [(42, .val (.d (.bool true)))], [], H25 Sv Op⟩ ((⟨F25 raw D i ++ [(42, .val (.d (.bool true)))] ++ more, [], H25 Sv Op⟩ : St).trim (F25 raw D i ++ [(42, .val (.d (.bool true)))])) := by
  refine ⟨fun k v hv => ?_, rfl, rfl⟩
  simp only [St.trim]
  rw [alook_trimE _ _ _ (by rw [hv]; rfl)]
  exact Zbk hv
theorem Ydp (raw : List Cus) (D : Bm) (i : Nat) (x : Cus) (hx : raw[i]? = some x) (hl : Zaz x.val ≤ B) (Sv Op : Mv) (hS : OkS Sv) (hO : (Op.map Prod.fst).Nodup) (hd : ∀ a ∈ Op.map Prod.fst, a ∉ Sv.map Prod.fst) :
    Tri C (C.ann 43) (.block 3 BD25) ⟨F25 raw D i ++ [(42, .val (.d (.bool true)))], [], H25 Sv Op⟩ (QB raw D i x Sv Op) := by
  obtain ⟨_, _, _, _, _, k11, k12, k14, k15⟩ := ZsX
  obtain ⟨k16, _, k23, k24, k25, _, _, _, _, _⟩ := ZpX
  refine ZeK ?_
  refine Zbg (call := Zac C K0) noCount mixed Zaj k11 (Zy8 raw D i x hx _ _) ?_
  cases hm : Zbu BEq.beq x.name Op with
  | none =>
    refine Zcr (Q1 := fun o => o = .exit 3 ⟨F25 raw D i ++ [(42, .val (.d (.bool true))), x25 x, (11, .val (.d (.bool false))), (53, .val (.d (.bool true)))], [], H25 Sv Op⟩) (Zcj (call := Zac C K0) noCount mixed Zaj k12 (Zv7 raw D i x _ Sv Op hm) rfl) (fun s hs => by cases hs) ?_
    rintro o rfl _
    refine .inl ⟨Zqa hm, _, rfl, ?_⟩
    exact Zvy raw D i Sv Op [x25 x, (11, .val (.d (.bool false))), (53, .val (.d (.bool true)))]
  | some u =>
    refine Zbg (call := Zac C K0) noCount mixed Zaj k12 (Zv8 raw D i x _ Sv Op hm) ?_
    obtain ⟨h', g1, g2, g3, g4⟩ := ZjR x.val hl (.map (ZhM Sv)) (.map (ZhM Op))
    refine ZoO (call := Zac C K0) noCount mixed Zaj k14 k15 (Zy9 raw D i x Sv Op) (ZxX raw D i x Sv Op h' g1) (YdU raw D i x Sv Op h' g2 g3 g4) (by simp [H25]) ?_
    refine Zbg (call := Zac C K0) noCount mixed Zaj k16 (Zyp raw D i x _ _) ?_
    refine Zhm (Zze raw D i x Sv Op) ?_
    cases ha : Ybz (Zeo [] x.val) Op with
    | true =>
      refine Zcr (Q1 := fun o => o = .exit 3 ⟨c25 raw D i x true ++ [(72, .val (.d (.bool true)))], [], H25 Sv Op⟩) (Zcj (call := Zac C K0) noCount mixed Zaj k23 (Zsr raw D i x _).2 rfl) (fun s hs => by cases hs) ?_
      rintro o rfl _
      refine .inl ⟨by rw [Zj0 hm, ha]; rfl, _, rfl, ?_⟩
      exact Zvy raw D i Sv Op [x25 x, (11, .val (.d (.bool true))), (53, .val (.d (.bool false))), (12, .val (.d (.fmap (ZfD (Zeo [] x.val))))), (13, .val (.d (.bool true))), (72, .val (.d (.bool true)))]
    | false =>
      have hS' : x.name ∉ Sv.map Prod.fst := hd _ (Ziz (by rw [hm]; rfl))
      refine Zbg (call := Zac C K0) noCount mixed Zaj k23 (Zsr raw D i x _).1 ?_
      refine Zbg (call := Zac C K0) noCount mixed Zaj k24 (ZzL raw D i x Sv Op hO) ?_
      refine Zbg (call := Zac C K0) noCount mixed Zaj k25 (Zzt raw D i x Sv (rmv x.name Op) _ _ (Zaz (ZfG (lkM Sv) x.val).1) hS' (ZqO hS hl) fun h0 => Zrt (Zwm hS hl h0)) ?_
      refine Zcj (call := Zac C K0) (n := 0) noCount mixed Zaj rfl rfl ?_
      refine .inr ⟨by rw [Zj0 hm, ha]; rfl, _, rfl, ?_⟩
      refine ⟨fun k v hv => ?_, rfl, rfl⟩
      show Zab (d25 raw D i x ++ _) k = some v
      unfold d25 c25 b25 F25
      exact Zbk (Zbk (Zbk (Zbk (Zbk hv))))
def QL (raw : List Cus) (D : Bm) (Sv Op : Mv) : Out → Prop := fun o => (raw.find? (ZcN Op) = none ∧ ∃ s, o = .norm s ∧ Sub ⟨E25 raw D, [], H25 Sv Op⟩ s) ∨
  (∃ x, raw.find? (ZcN Op) = some x ∧ ∃ s, o = .goto 0 s ∧ Sub ⟨E25 raw D, [], H25 (ZtK Sv x) (rmv x.name Op)⟩ s)
theorem YbI {raw : List Cus} {f : Cus → Bool} : ∀ {i : Nat} {x : Cus}, raw[i]? = some x → f x = true → (∀ j y, j < i → raw[j]? = some y → f y = false) → raw.find? f = some x := by
  induction raw with
  | nil => intro i x hx; simp at hx
  | cons y r ih =>
    intro i x hx hf h
    cases i with
    | zero => cases hx; exact List.find?_cons_of_pos hf
    | succ i =>
      rw [List.find?_cons_of_neg (by rw [h 0 y (Nat.succ_pos _) rfl]; decide)]
      exact ih (by simpa using hx) hf fun j z hj hz => h (j + 1) z (by omega) (by simpa using hz)
theorem ZyT (raw : List Cus) (hok : Zgv raw) (Sv Op : Mv) (D : Bm) (hS : OkS Sv) (hO : (Op.map Prod.fst).Nodup) (hd : ∀ a ∈ Op.map Prod.fst, a ∉ Sv.map Prod.fst) :
    Tri C (C.ann 43) (.seq Zwl LP25) ⟨E25 raw D, [], H25 Sv Op⟩ (QL raw D Sv Op) := by
  obtain ⟨_, _, _, k9, k10, _, _, _, _⟩ := ZsX
  obtain ⟨_, _, _, _, _, k28, _, _, _, _⟩ := ZpX
  have hB : B = 2 ^ 36 := rfl
  have hV : V = 2 ^ 24 := rfl
  have hlen : raw.length < 2 ^ 40 := Nat.lt_of_le_of_lt hok.1 (by rw [hB]; decide)
  have e0 : ∀ (i : Nat) (s : St), Sub ⟨E25 raw D, [], H25 Sv Op⟩ ((⟨F25 raw D i ++ [(42, .val (.d (.bool false)))], [], H25 Sv Op⟩ : St).trim (F25 raw D 0)) := fun i s => by
    refine sub_list (s := ⟨F25 raw D i ++ [(42, .val (.d (.bool false)))], [], H25 Sv Op⟩) fun q hq => ?_
    simp only [E25, List.mem_cons, List.not_mem_nil, or_false] at hq
    rcases hq with rfl | rfl | rfl | rfl | rfl <;> exact ⟨rfl, rfl⟩
  refine Zbg (call := Zac C K0) noCount mixed Zaj k9 (YbP raw D _) ?_
  refine ZeK ?_
  refine ZiO (fun m s => ∃ i, i ≤ raw.length ∧ m = raw.length - i ∧ s = ⟨F25 raw D i, [], H25 Sv Op⟩ ∧ ∀ j y, j < i → raw[j]? = some y → ZcN Op y = false) (n := raw.length) ⟨0, Nat.zero_le _, rfl, rfl, fun j y hj => absurd hj (Nat.not_lt_zero _)⟩ ?_
  rintro m s ⟨i, hi, rfl, rfl, hno⟩
  refine Zbg (call := Zac C K0) noCount mixed Zaj k10 (ZyE raw D i _) ?_
  rcases Nat.lt_or_ge i raw.length with hlt | hge
  · have hx := List.getElem?_eq_getElem hlt
    have hdt : decide ((i : Int) < (raw.length : Int)) = true := by simpa using hlt
    rw [hdt]
    refine Zcr (Q1 := fun o => o = .norm ⟨F25 raw D i ++ [(42, .val (.d (.bool true)))], [], H25 Sv Op⟩) (Zhd (b := true) rfl (Zkz rfl)) ?_ (fun o h1 h2 => absurd h1 (h2 _))
    rintro s hs
    cases hs
    refine Zcr (Ydp raw D i raw[i] hx (Nat.le_trans (hok.2 raw[i] (List.getElem_mem hlt)) (by rw [hB, hV]; decide)) Sv Op hS hO hd) ?_ ?_
    · rintro s (⟨hr, s', hs, hsub⟩ | ⟨hr, s', hs, hsub⟩)
      · cases hs
        refine Zk4 hsub ?_
        refine Zcj (call := Zac C K0) noCount mixed Zaj k28 (Zzr raw D i (by omega) _ _) ?_
        refine ⟨raw.length - (i + 1), ⟨F25 raw D (i + 1), [], H25 Sv Op⟩, by omega, ⟨i + 1, hlt, rfl, rfl, fun j y hj hy => ?_⟩, fun k v hv => Zbk hv, rfl, rfl⟩
        rcases Nat.lt_or_ge j i with h | h
        · exact hno j y h hy
        · have : j = i := by omega
          subst this
          rw [hx] at hy
          cases hy
          exact hr
      · cases hs
    · rintro o (⟨hr, s', rfl, hsub⟩ | ⟨hr, s', rfl, hsub⟩) hne
      · exact absurd rfl (hne s')
      · simp only [Zbw]
        exact .inr ⟨raw[i], YbI hx hr hno, s', rfl, hsub⟩
  · have he : i = raw.length := by omega
    subst he
    rw [show decide ((raw.length : Int) < (raw.length : Int)) = false by simp]
    refine Zcr (Q1 := fun o => o = .exit 2 ⟨F25 raw D raw.length ++ [(42, .val (.d (.bool false)))], [], H25 Sv Op⟩) (Zhd (b := false) rfl (Zot rfl)) (fun s hs => by cases hs) ?_
    rintro o rfl _
    simp only [Zbw]
    refine .inl ⟨?_, _, rfl, e0 _ ⟨[], [], []⟩⟩
    rw [List.find?_eq_none]
    intro y hy
    obtain ⟨j, hj, rfl⟩ := List.mem_iff_getElem.1 hy
    rw [hno j _ hj (List.getElem?_eq_getElem hj)]
    decide
end Go.Tev.S1
namespace Go.Abs
theorem Has.hasn {P : Program} {f : FuncId} {args : List AV} {h : List AObj} {r : AV} {h' : List AObj} (H : Has P f args h r h') : HasN P f args h (fun r2 h2 => r2 = r ∧ h2 = h') :=
  ⟨H.1, fun w own vs H1 H2 H3 H4 => (H.2 w own vs H1 H2 H3 H4).mono fun e w' ⟨v, own', h1, h2, h3, h4, h5, h6⟩ => ⟨v, own', r, h', ⟨rfl, rfl⟩, h1, h2, h3, h4, h5, h6⟩⟩
end Go.Abs
namespace Go.Tev.S1
open Go.Abs Go.Proofs
def Zfr (raw : List Cus) (Sv : Mv) : List Cus := raw.filterMap fun x => (Zbu BEq.beq x.name Sv).map fun v => ⟨x.name, v⟩
theorem ZsR (raw : List Cus) (Sv : Mv) : (Zfr raw Sv).length ≤ raw.length := List.length_filterMap_le _ _
theorem ZxL (raw : List Cus) (hl : raw.length < 2 ^ 40) (D : Bm) (Sv Op : Mv) : Tri C (C.ann 43) (.seq Zpx (.block 6 (.loop Zn7))) ⟨E25 raw D ++ [(19, .own [])], [], H25 Sv Op⟩ (YaR (n25 raw D (Zfr raw Sv) raw.length) (H25 Sv Op)) := by
  obtain ⟨_, _, _, _, _, _, _, k30, kL, _⟩ := ZpX
  refine Zbg (call := Zac C K0) noCount mixed Zaj k30 (ZzO raw D _) ?_
  refine ZeK ?_
  refine ZiO (fun m s => ∃ i, i ≤ raw.length ∧ m = raw.length - i ∧ s = ⟨n25 raw D (Zfr (raw.take i) Sv) i, [], H25 Sv Op⟩) (n := raw.length) ⟨0, Nat.zero_le _, rfl, rfl⟩ ?_
  rintro m s ⟨i, hi, rfl, rfl⟩
  rcases Nat.lt_or_ge i raw.length with hlt | hge
  · have hx := List.getElem?_eq_getElem hlt
    have hle : (Zfr (raw.take i) Sv).length ≤ i := Nat.le_trans (ZsR _ _) (List.length_take_le _ _)
    have htk : Zfr (raw.take (i + 1)) Sv = Zfr (raw.take i) Sv ++ (match Zbu BEq.beq raw[i].name Sv with | some v => [⟨raw[i].name, v⟩] | none => []) := by
      rw [Zcm hx]
      unfold Zfr
      rw [List.filterMap_append]
      congr 1
      simp only [List.filterMap_cons, List.filterMap_nil]
      cases Zbu BEq.beq raw[i].name Sv <;> rfl
    cases hS : Zbu BEq.beq raw[i].name Sv with
    | none =>
      rw [hS, List.append_nil] at htk
      refine Zcj (call := Zac C K0) noCount mixed Zaj kL (Zyy raw D _ i _ hx hl Sv Op hS) ?_
      refine ⟨raw.length - (i + 1), ⟨n25 raw D (Zfr (raw.take i) Sv) (i + 1), [], _⟩, by omega, ⟨i + 1, hlt, rfl, by rw [htk]⟩, fun k v hv => Zbk hv, rfl, rfl⟩
    | some v =>
      rw [hS] at htk
      have hst : (⟨n25 raw D (Zfr (raw.take i) Sv ++ [⟨raw[i].name, v⟩]) (i + 1), [], H25 Sv Op⟩ : St) = ⟨n25 raw D (Zfr (raw.take (i + 1)) Sv) (i + 1), [], H25 Sv Op⟩ := by rw [htk]
      refine Zcj (call := Zac C K0) noCount mixed Zaj kL (Zzo raw D _ i _ hx hl hle Sv Op hS) ?_
      refine ⟨raw.length - (i + 1), ⟨n25 raw D (Zfr (raw.take i) Sv ++ [⟨raw[i].name, v⟩]) (i + 1), [], H25 Sv Op⟩, by omega, ⟨i + 1, hlt, rfl, hst⟩, ?_⟩
      exact ⟨fun k v hv => Zbk hv, rfl, rfl⟩
  · have he : i = raw.length := by omega
    subst he
    refine Zcj (call := Zac C K0) noCount mixed Zaj kL (ZyB raw D _ _) ?_
    simp only [Zbw]
    refine ⟨_, rfl, ?_⟩
    rw [List.take_length]
    refine ⟨fun k v hv => ?_, rfl, rfl⟩
    have hk : (Zab (n25 raw D [] 0) k).isSome = true := by
      have hm := sub_list.alook_mem0' hv
      simp only [n25, E25, List.cons_append, List.nil_append, List.mem_cons, List.not_mem_nil, or_false, Prod.mk.injEq] at hm
      rcases hm with ⟨rfl, _⟩ | ⟨rfl, _⟩ | ⟨rfl, _⟩ | ⟨rfl, _⟩ | ⟨rfl, _⟩ | ⟨rfl, _⟩ | ⟨rfl, _⟩ | ⟨rfl, _⟩ | ⟨rfl, _⟩ <;> rfl
    simp only [St.trim]
    rw [alook_trimE _ _ _ hk]
    exact Zbk hv
def QP (raw : List Cus) (D : Bm) (Sv Op : Mv) : Out → Prop := fun o => (raw.find? (ZcN Op) = none ∧ ∃ s, o = .ret s ∧ Zbp C s Tryz.f43.results.toList = some [.d (.slc ((Zfr raw Sv).map Cus.enc))]) ∨
  (∃ x, raw.find? (ZcN Op) = some x ∧ ∃ s, o = .goto 0 s ∧ Sub ⟨E25 raw D, [], H25 (ZtK Sv x) (rmv x.name Op)⟩ s)
theorem YdF (raw : List Cus) (hok : Zgv raw) (Sv Op : Mv) (D : Bm) (hS : OkS Sv) (hO : (Op.map Prod.fst).Nodup) (hd : ∀ a ∈ Op.map Prod.fst, a ∉ Sv.map Prod.fst) :
    Tri C (C.ann 43) Yd9 ⟨E25 raw D, [], H25 Sv Op⟩ (QP raw D Sv Op) := by
  obtain ⟨_, _, _, _, _, _, k29, _, _, k37⟩ := ZpX
  have hB : B = 2 ^ 36 := rfl
  have hlen : raw.length < 2 ^ 40 := Nat.lt_of_le_of_lt hok.1 (by rw [hB]; decide)
  refine Zcr (ZyT raw hok Sv Op D hS hO hd) ?_ ?_
  · rintro s (⟨hr, s', hs, hsub⟩ | ⟨x, hr, s', hs, hsub⟩)
    · cases hs
      refine Zk4 hsub ?_
      refine Zbg (call := Zac C K0) noCount mixed Zaj k29 (Zzx raw D _) ?_
      refine Zhm (ZxL raw hlen D Sv Op) ?_
      obtain ⟨s1, e1, e2⟩ := ZyF (call := Zac C K0) raw D (Zfr raw Sv) raw.length (H25 Sv Op)
      refine Zbg (call := Zac C K0) noCount mixed Zaj k37 e1 ?_
      refine Zcj (call := Zac C K0) (n := 0) noCount mixed Zaj rfl rfl ?_
      exact .inl ⟨hr, s1, rfl, e2⟩
    · cases hs
  · rintro o (⟨hr, s', rfl, hsub⟩ | ⟨x, hr, s', rfl, hsub⟩) hne
    · exact absurd rfl (hne s')
    · exact .inr ⟨x, hr, s', rfl, hsub⟩
noncomputable def Zcy (raw : List Cus) : Mv := ZhE raw (Zi1 raw).length [] (Zi1 raw)
theorem YaW : findLabel S25 0 = some (.seq .skip Yd9) := by kernel_rfl
set_option maxRecDepth 4000 in
theorem Zqd (raw : List Cus) (hn : (raw.map Cus.name).Nodup) (hok : Zgv raw) : Has Tryz.prog 43 [.d (d44 raw)] [] (.d (.slc ((Zfr raw (Zcy raw)).map Cus.enc))) [] := by
  obtain ⟨k0, k2, _, _, _, _, _, _, _⟩ := ZsX
  have hB : B = 2 ^ 36 := rfl
  have hlen : raw.length < 2 ^ 40 := Nat.lt_of_le_of_lt hok.1 (by rw [hB]; decide)
  have h : HasN Tryz.prog 43 [.d (d44 raw)] [] (fun r h' => r = .d (.slc ((Zfr raw (Zcy raw)).map Cus.enc))) := by
    refine ZdW (C := C) (f := 43) (fn := Tryz.f43) Tryz.func43 Yb9 (by kernel_rfl) ?_
    refine Zbg (call := Zac C K0) noCount mixed Zaj k0 (YbE raw) ?_
    let I : Nat → St → Prop := fun m s => ∃ Sv Op n, s = ⟨E25 raw (ZbI raw), [], H25 Sv Op⟩ ∧ m = Op.length ∧ OkS Sv ∧ (Op.map Prod.fst).Nodup ∧ (∀ a ∈ Op.map Prod.fst, a ∉ Sv.map Prod.fst) ∧ Op.length ≤ n ∧ ZhE raw n Sv Op = Zcy raw
    have pass : ∀ m s, I m s → Tri C (C.ann 43) Yd9 s fun o => match o with
        | .goto l' s' => l' = 0 ∧ ∃ k s2, k < m ∧ I k s2 ∧ Sub s2 s'
        | o => Yek C Tryz.f43 (fun r h' => r = .d (.slc ((Zfr raw (Zcy raw)).map Cus.enc))) o := by
      rintro m s ⟨Sv, Op, n, rfl, rfl, hS, hO, hd, hle, hs⟩
      refine Ztp (YdF raw hok Sv Op (ZbI raw) hS hO hd) ?_
      rintro o (⟨hr, s', rfl, he⟩ | ⟨x, hr, s', rfl, hsub⟩)
      · refine ⟨_, he, ?_⟩
        have : ZhE raw n Sv Op = Sv := by
          cases n with
          | zero => rfl
          | succ n => simp only [ZhE, hr]
        rw [← hs, this]; rfl
      · have hx := List.find?_some hr
        have hxo : x.name ∈ Op.map Prod.fst := by
          simp only [ZcN, Bool.and_eq_true] at hx
          exact Ziz hx.1
        have hlt := Yai hxo
        cases n with
        | zero => omega
        | succ n =>
          simp only [ZhE, hr] at hs
          exact ⟨rfl, (rmv x.name Op).length, _, hlt, ⟨ZtK Sv x, rmv x.name Op, n, rfl, rfl, ZuZ hS x, Zwc hO, fun a ha hb => by
            obtain ⟨h1, h2⟩ := rmv_names.1 ha
            rcases ZmL Sv x a hb with h3 | h3
            · exact hd a h1 h3
            · exact h2 h3, by omega, hs⟩, hsub⟩
    have first : I (Zi1 raw).length ⟨E25 raw (ZbI raw), [], H25 [] (Zi1 raw)⟩ := by
      refine ⟨[], Zi1 raw, (Zi1 raw).length, rfl, rfl, fun p hp => by simp at hp, ?_, fun a _ hb => by simp at hb, Nat.le_refl _, rfl⟩
      have : ((ZmX raw).map Prod.fst).Nodup := by rw [Zjr]; exact hn
      exact (List.Sublist.map _ List.filter_sublist).nodup this
    refine Zu5 YaW I ?_ ?_
    · rw [ZyI]
      refine Zcr (Q1 := fun o => o = .norm ⟨[(0, .val (.d (d44 raw))), (2, .val (.d (.slc []))), (3, .val (.d (.fmap (ZfD (ZbI raw)))))], [], []⟩) ?_ ?_ (fun o h1 h2 => absurd h1 (h2 _))
      · refine ZhD (call := Zac C K0) noCount Zaj YfH (Ycb raw) o25_1.1 (Q2 := fun s => s = ⟨[(0, .val (.d (d44 raw))), (2, .val (.d (.slc [])))], [(25, .a (.d (.fmap (ZfD (ZbI raw))))), (24, .a (.d (d44 raw)))], []⟩) ?_ ?_
        · intro own a w S K X hKK
          refine Zhq (C := C) (st := ⟨[(0, .val (.d (d44 raw))), (2, .val (.d (.slc [])))], [(24, .a (.d (d44 raw)))], []⟩) noCount o25_1.2.2 rfl (fv := .d (.fn 62 [])) (vs := [.d (d44 raw)]) (caps := []) rfl rfl rfl (Zrr raw hn hok).hasn (fun r h' ⟨h1, h2⟩ => by
            subst h1 h2
            rw [o25_1.2.1]
            exact ⟨_, rfl⟩) own a w S K X ?_
          rintro a' w' st' own' ⟨r, h', ⟨rfl, rfl⟩, hput⟩
          rw [o25_1.2.1] at hput
          cases hput
          exact hKK a' w' _ own' rfl
        · rintro s rfl
          exact ⟨_, ZyW raw (ZbI raw), rfl⟩
      · rintro s hs
        cases hs
        refine Zbg (call := Zac C K0) noCount mixed Zaj k2 (YaZ raw (ZbI raw)) ?_
        refine Zcr (Q1 := fun o => o = .norm ⟨E25 raw (ZbI raw), [], H25 [] (ZmX raw)⟩) ?_ ?_ (fun o h1 h2 => absurd h1 (h2 _))
        · refine ZhD (call := Zac C K0) noCount Zaj Yev (YaB raw (ZbI raw)) o25_3.1 (Q2 := fun s => s = ⟨[(0, .val (.d (d44 raw))), (2, .val (.d (.slc []))), (3, .val (.d (.fmap (ZfD (ZbI raw))))), (4, .val (.mp 0))], [(28, .a (.mp 1)), (27, .a (.d (d44 raw)))], H25 [] (ZmX raw)⟩) ?_ ?_
          · intro own a w S K X hKK
            refine Zhq (C := C) (st := ⟨[(0, .val (.d (d44 raw))), (2, .val (.d (.slc []))), (3, .val (.d (.fmap (ZfD (ZbI raw))))), (4, .val (.mp 0))], [(27, .a (.d (d44 raw)))], [.map []]⟩) noCount o25_3.2.2 rfl (fv := .d (.fn 35 [])) (vs := [.d (d44 raw)]) (caps := []) rfl rfl rfl (Zul raw hn hlen (.map [])) (fun r h' ⟨h1, h2⟩ => by
              subst h1 h2
              rw [o25_3.2.1]
              exact ⟨_, rfl⟩) own a w S K X ?_
            rintro a' w' st' own' ⟨r, h', ⟨rfl, rfl⟩, hput⟩
            rw [o25_3.2.1] at hput
            cases hput
            exact hKK a' w' _ own' rfl
          · rintro s rfl
            exact ⟨_, ZzA raw (ZbI raw) _, rfl⟩
        · rintro s hs
          cases hs
          refine Zhm (ZxO raw hn) ?_
          refine Zbg (call := Zac C K0) (n := 0) noCount mixed Zaj rfl rfl ?_
          refine Ztp (pass _ _ first) ?_
          intro o ho
          cases o with
          | goto l s => obtain ⟨h1, k, s2, _, h2, h3⟩ := ho; exact ⟨h1, k, s2, h2, h3⟩
          | _ => exact ho
    · rintro m s hI
      have : s.tmp = [] := by obtain ⟨_, _, _, rfl, _⟩ := hI; rfl
      refine Zbg (call := Zac C K0) (n := 0) noCount mixed Zaj rfl rfl ?_
      exact pass m s hI
  refine HasN.frozen (ds := [d44 raw]) h ?_
  rintro r h' rfl
  exact ⟨0, rfl⟩
end Go.Tev.S1
namespace Go.Tev.S1
open Go.Abs Go.Proofs
mutual
theorem Ybl : ∀ a b : Val, a.enc = b.enc → a = b
  | .mk ⟨k, t, n, u, f⟩ l, .mk ⟨k', t', n', u', f'⟩ l', h => by
    simp only [Val.enc, DV.agg.injEq, List.cons.injEq, DV.int.injEq, DV.str.injEq, DV.bool.injEq, DV.slc.injEq, true_and, and_true] at h
    obtain ⟨rfl, rfl, rfl, rfl, rfl, h6⟩ := h
    rw [ZnY l l' h6]
theorem ZnY : ∀ a b : List Val, Zwi a = Zwi b → a = b
  | [], [], _ => rfl
  | [], b :: l, h => by simp [Zwi] at h
  | a :: l, [], h => by simp [Zwi] at h
  | a :: l, b :: l', h => by
    simp only [Zwi, List.cons.injEq] at h
    rw [Ybl a b h.1, ZnY l l' h.2]
end
theorem Yce (a b : Cus) (h : a.enc = b.enc) : a = b := by
  obtain ⟨n, v⟩ := a
  obtain ⟨n', v'⟩ := b
  simp only [Cus.enc, DV.agg.injEq, List.cons.injEq, DV.str.injEq, DV.slc.injEq, and_true, ← ZsJ] at h
  obtain ⟨rfl, h2⟩ := h
  rw [ZnY v v' h2]
theorem Ya1 {a b : List Cus} (h : d44 a = d44 b) : a = b := by
  simp only [d44, DV.slc.injEq] at h
  induction a generalizing b with
  | nil => cases b with
    | nil => rfl
    | cons y b => simp at h
  | cons x a ih => cases b with
    | nil => simp at h
    | cons y b =>
      simp only [List.map_cons, List.cons.injEq] at h
      rw [Yce x y h.1, ih h.2]
theorem ZrN {K : Zaa} {f : FuncId} {t rt : Nat} {s : X t → Option (X rt)} (h : ∀ a r, s a = some r → K f [.d (U.enc t a)] [] = some (.d (U.enc rt r), [])) : ZaC U (Zac C K) f ⟨true, [.ty t], [rt], s⟩ := by
  intro vs a r ds g hp hd hs hr
  have hp : Zvq U [.ty t] vs = some a := hp
  unfold Zvq at hp
  split at hp
  · rename_i ws hws
    have e1 : vs = ws := by
      cases vs with
      | nil => simp [ZeG] at hws
      | cons v vs =>
        simp only [ZeG] at hws
        split at hws
        · rename_i ws' h2
          cases hws
          cases vs with
          | nil => simp only [ZeG] at h2; cases h2; rfl
          | cons v2 vs => simp [ZeG] at h2
        · cases hws
    subst e1
    cases vs with
    | nil => cases hp
    | cons v vs =>
      cases vs with
      | cons v2 vs => cases hp
      | nil =>
        have hp : U.prj t v = some a := hp
        have hv := ok.prj _ _ _ hp
        simp only [dvL, hv, Option.some.injEq] at hd
        subst hd
        have hr : U.inj rt = some g := hr
        refine ⟨_, ok.inj _ _ r hr, ?_⟩
        unfold Zcz
        have : Zac C K f [.d (U.enc t a)] [] = some (.d (U.enc rt r), []) := Zh6 (h a r hs)
        simp only [List.map_cons, List.map_nil, this]
  · cases hp
open Classical in
noncomputable def YdC (F : List Cus → Prop) (G : List Cus → DV) (args : List AV) (h : List AObj) : Option (AV × List AObj) := if e : ∃ raw : List Cus, args = [.d (d44 raw)] ∧ h = [] ∧ F raw then some (.d (G e.choose), []) else none
theorem ZvI {F : List Cus → Prop} {G : List Cus → DV} {args : List AV} {h : List AObj} {r : AV} {h' : List AObj} (he : YdC F G args h = some (r, h')) : ∃ raw, args = [.d (d44 raw)] ∧ h = [] ∧ F raw ∧ r = .d (G raw) ∧ h' = [] := by
  unfold YdC at he
  split at he
  · rename_i e
    obtain ⟨h1, h2, h3⟩ := e.choose_spec
    cases he
    exact ⟨_, h1, h2, h3, rfl, rfl⟩
  · cases he
theorem Ybn {F : List Cus → Prop} (G : List Cus → DV) {raw : List Cus} (hF : F raw) : YdC F G [.d (d44 raw)] [] = some (.d (G raw), []) := by
  have e : ∃ r : List Cus, [AV.d (d44 raw)] = [.d (d44 r)] ∧ ([] : List AObj) = [] ∧ F r := ⟨raw, rfl, rfl, hF⟩
  unfold YdC
  rw [dif_pos e]
  have h1 := e.choose_spec.1
  have h2 : raw = e.choose := Ya1 (by simpa using h1)
  rw [← h2]
noncomputable def K1 : Zaa := fun f args h =>
  bif Nat.beq f 43 then YdC (fun raw => (raw.map Cus.name).Nodup ∧ Zgv raw) (fun raw => .slc ((Zfr raw (Zcy raw)).map Cus.enc)) args h
  else K0 f args h
theorem Yej : Zba Tryz.prog K1 := by
  intro f args h r h' he
  unfold K1 at he
  cases hb : Nat.beq f 43 with
  | true =>
    rw [hb, cond_true] at he
    have := Nat.eq_of_beq_eq_true hb
    subst this
    obtain ⟨raw, rfl, rfl, hF, rfl, rfl⟩ := ZvI he
    exact Zqd raw hF.1 hF.2
  | false =>
    rw [hb, cond_false] at he
    exact YdH _ _ _ _ _ he
theorem Yb6 : Zde K1 := by
  intro f args h hf
  unfold K1
  rw [show Nat.beq f 43 = false from beq_ne.2 fun e => hf (by subst e; decide)]
  exact Zjl f args h hf
theorem Ybx : ZgH K1 := fun args h r he => Zxs args h r he
open Classical in
noncomputable def ZlT (raw : List Cus) : Option (List Cus) := if (raw.map Cus.name).Nodup ∧ Zgv raw then some (Zfr raw (Zcy raw)) else none
theorem ZtP {raw : List Cus} (h : (raw.map Cus.name).Nodup) (h2 : Zgv raw) : ZlT raw = some (Zfr raw (Zcy raw)) := if_pos ⟨h, h2⟩
end Go.Tev.S1
namespace Go.Tev.S1
open Go.Abs Go.Proofs
theorem mem_usesL {n : List UInt8} {l : List Val} : n ∈ Zbt l ↔ ∃ v ∈ l, n ∈ v.uses := by
  induction l with
  | nil => simp [Zbt]
  | cons v l ih => simp [Zbt, ih]
theorem Zpn {v : Val} : ∀ {l : List Val}, v ∈ spL l → v ∈ l
  | [], h => h
  | w :: r, h => by
    unfold spL at h
    split at h
    · exact List.mem_cons_of_mem _ (Zpn h)
    · exact h
theorem YbZ {v : Val} {l : List Val} (h : v ∈ trL l) : v ∈ l := by
  unfold trL trR at h
  rw [List.mem_reverse] at h
  have := Zpn h
  rw [List.mem_reverse] at this
  exact Zpn this
theorem Zvs {v : Val} {l : List Val} (h : v ∈ (ZaA l).2.1) : v ∈ l := by
  unfold ZaA at h
  split at h
  · simp at h
  · rename_i x r e
    split at h
    · split at h
      · simp at h
      · rename_i y s e2
        split at h
        · have h1 : v ∈ s := YbZ h
          have h2 : v ∈ spL r := by rw [e2]; exact List.mem_cons_of_mem _ h1
          have h3 : v ∈ spL l := by rw [e]; exact List.mem_cons_of_mem _ (Zpn h2)
          exact Zpn h3
        · simp at h
    · simp at h
def Agree (lk lk' : Lk) (l : List Val) : Prop := lk [] = lk' [] ∧ ∀ n ∈ Zbt l, lk n = lk' n
theorem Agree.parts {lk lk' : Lk} {v : Val} {r : List Val} (h : Agree lk lk' (v :: r)) : Agree lk lk' r ∧ Agree lk lk' v.l ∧ Agree lk lk' (ZaA v.l).2.1 ∧ (v.ref = true → lk (ZaA v.l).1 = lk' (ZaA v.l).1) := by
  obtain ⟨h0, h⟩ := h
  have h1 : ∀ n ∈ v.uses, lk n = lk' n := fun n hn => h n (by rw [Zbt]; exact List.mem_append_left _ hn)
  have h2 : ∀ n ∈ Zbt v.l, lk n = lk' n := fun n hn => h1 n (by rw [Val.uses_eq]; exact List.mem_append_right _ hn)
  refine ⟨⟨h0, fun n hn => h n (by rw [Zbt]; exact List.mem_append_right _ hn)⟩, ⟨h0, h2⟩, ⟨h0, fun n hn => ?_⟩, fun hr => ?_⟩
  · obtain ⟨w, hw, hn⟩ := mem_usesL.1 hn
    exact h2 n (mem_usesL.2 ⟨w, Zvs hw, hn⟩)
  · by_cases e : (ZaA v.l).1 = []
    · rw [e]; exact h0
    · refine h1 _ ?_
      rw [Val.uses_eq]
      refine List.mem_append_left _ ?_
      have : (v.ref && ((ZaA v.l).1 != [])) = true := by rw [hr]; simpa using e
      rw [if_pos this]
      exact List.mem_singleton.2 rfl
theorem Zwv {lk lk' : Lk} : ∀ l, Agree lk lk' l → ZeH lk l = ZeH lk' l ∧ Zei lk l = Zei lk' l := by
  refine ZfT _ ?_ ?_
  · intro _; exact ⟨by rw [Zb7, Zb7], by rw [Zd5, Zd5]⟩
  · intro v r h1 h2 h3 ha
    obtain ⟨a1, a2, a3, a4⟩ := ha.parts
    obtain ⟨b1, c1⟩ := h1 a1
    obtain ⟨b2, c2⟩ := h2 a2
    obtain ⟨b3, c3⟩ := h3 a3
    rw [ZbG, ZbG, Zc2, Zc2, b1, c1]
    cases hr : v.ref with
    | false =>
      rw [Zjd hr, Zjd hr, Zq1 hr, Zq1 hr, b2, c2]
      exact ⟨rfl, rfl⟩
    | true =>
      have a4 := a4 hr
      unfold ZqV Zty
      rw [if_pos hr, if_pos hr, if_pos hr, if_pos hr, a4, b3, c3]
      exact ⟨rfl, rfl⟩
theorem ZxA {lk lk' : Lk} {l : List Val} (h : Agree lk lk' l) : ZfG lk l = ZfG lk' l := by
  obtain ⟨h1, h2⟩ := Zwv l h
  unfold ZfG
  rw [h1, h2]
def ZoL (lk : Lk) (x : Cus) : Option (List Val) := bif decide ((ZfG lk x.val).2 = 0) && decide ((Zaz (ZfG lk x.val).1 : Int) ≤ 2000) then some (ZfG lk x.val).1 else none
theorem Zi2 {lk lk' : Lk} {x : Cus} (h : Agree lk lk' x.val) : ZoL lk x = ZoL lk' x := by unfold ZoL; rw [ZxA h]
theorem Zve {α : Type} {R : α → α → Prop} (tr : ∀ {a b c}, R a b → R b c → R a c) : ∀ S : List α, S ≠ [] → (∀ a ∈ S, ¬ R a a) → ∃ m ∈ S, ∀ b ∈ S, ¬ R m b
  | [], h, _ => absurd rfl h
  | a :: S, _, h => by
    have ha := h a List.mem_cons_self
    cases S with
    | nil =>
      refine ⟨a, List.mem_cons_self, fun b hb => ?_⟩
      rw [List.mem_singleton] at hb
      subst hb
      exact ha
    | cons c S =>
      obtain ⟨m, hm, hmx⟩ := Zve (R := R) tr (c :: S) (by simp) (fun x hx => h x (List.mem_cons_of_mem _ hx))
      by_cases hma : R m a
      · refine ⟨a, List.mem_cons_self, fun b hb hab => ?_⟩
        rcases List.mem_cons.1 hb with rfl | hb
        · exact ha hab
        · exact hmx b hb (tr hma hab)
      · refine ⟨m, List.mem_cons_of_mem _ hm, fun b hb => ?_⟩
        rcases List.mem_cons.1 hb with rfl | hb
        · exact hma
        · exact hmx b hb
theorem Path.trans {G : Nd} {a b c : List UInt8} (h : Path G a b) (k : Path G b c) : Path G a c := by
  induction h with
  | one e => exact .step e k
  | step e t ih => exact .step e (ih k)
def ZoK (raw : List Cus) (n : List UInt8) : Prop := Path (Zbq raw) n n
structure Sol (raw : List Cus) (lk : Lk) : Prop where
  out : ∀ n, n ∉ raw.map Cus.name → lk n = none
  loop : ∀ n, ZoK raw n → lk n = none
  val : ∀ x ∈ raw, ¬ ZoK raw x.name → lk x.name = ZoL lk x
theorem Zp6 {raw : List Cus} (hn : (raw.map Cus.name).Nodup) {x : Cus} (hx : x ∈ raw) : Zbu BEq.beq x.name (Zbq raw) = some (Zeo [] x.val) := by
  induction raw with
  | nil => cases hx
  | cons y r ih =>
    rw [List.map_cons, List.nodup_cons] at hn
    simp only [Zbq, List.map_cons, Zbu]
    rcases List.mem_cons.1 hx with rfl | hx
    · simp
    · have : (x.name == y.name) = false := by
        rw [beq_eq_false_iff_ne]
        intro e
        exact hn.1 (e ▸ List.mem_map.2 ⟨x, hx, rfl⟩)
      rw [this, cond_false]
      exact ih hn.2 hx
theorem Zv2 {raw : List Cus} {n : List UInt8} (h : n ∈ raw.map Cus.name) : (Zbu BEq.beq n (Zbq raw)).isSome = true := by
  cases e : Zbu BEq.beq n (Zbq raw) with
  | some u => rfl
  | none =>
    exfalso
    induction raw with
    | nil => simp at h
    | cons y r ih =>
      simp only [Zbq, List.map_cons, Zbu] at e
      cases e2 : (n == y.name) with
      | true => rw [e2] at e; cases e
      | false =>
        rw [e2] at e
        rw [List.map_cons, List.mem_cons] at h
        rcases h with h | h
        · rw [beq_eq_false_iff_ne] at e2; exact e2 h
        · exact ih h e
theorem mem_col {n : List UInt8} {l : List Val} : n ∈ Zcf (Zeo [] l) ↔ n ∈ Zbt l := by
  have put : ∀ (k : List UInt8) (h : Bm), n ∈ Zcf (Zgu BEq.beq k true h) ↔ n = k ∨ n ∈ Zcf h := by
    intro k h
    induction h with
    | nil => simp [Zgu, Zcf]
    | cons p h ih =>
      obtain ⟨k', b⟩ := p
      simp only [Zgu]
      cases e : (k == k') with
      | true =>
        rw [beq_iff_eq] at e
        subst e
        simp [Zcf]
      | false =>
        simp only [cond_false, Zcf, List.map_cons, List.mem_cons] at ih ⊢
        rw [ih]
        constructor
        · rintro (h | h | h)
          · exact .inr (.inl h)
          · exact .inl h
          · exact .inr (.inr h)
        · rintro (h | h | h)
          · exact .inr (.inl h)
          · exact .inl h
          · exact .inr (.inr h)
  have : ∀ (us : List (List UInt8)) (h : Bm), n ∈ Zcf (us.foldl (fun h n => Zgu BEq.beq n true h) h) ↔ n ∈ us ∨ n ∈ Zcf h := by
    intro us
    induction us with
    | nil => intro h; simp
    | cons k us ih =>
      intro h
      rw [List.foldl_cons, ih, put, List.mem_cons]
      constructor
      · rintro (h | h | h)
        · exact .inl (.inr h)
        · exact .inl (.inl h)
        · exact .inr h
      · rintro ((h | h) | h)
        · exact .inr (.inl h)
        · exact .inl h
        · exact .inr (.inr h)
  unfold Zeo
  rw [this]
  simp [Zcf]
theorem ZhP {raw : List Cus} (hn : (raw.map Cus.name).Nodup) {x : Cus} (hx : x ∈ raw) {m : List UInt8} : Edge (Zbq raw) x.name m ↔ m ∈ Zbt x.val ∧ m ∈ raw.map Cus.name := by
  constructor
  · rintro ⟨u, h1, h2, h3⟩
    rw [Zp6 hn hx] at h1
    cases h1
    refine ⟨mem_col.1 h2, ?_⟩
    have := Ziz h3
    rw [ZlZ] at this
    exact this
  · rintro ⟨h1, h2⟩
    exact ⟨_, Zp6 hn hx, mem_col.2 h1, Zv2 h2⟩
theorem Zrj {raw : List Cus} {n : List UInt8} (h : n ∈ raw.map Cus.name) : ∃ x ∈ raw, x.name = n := by
  obtain ⟨x, hx, rfl⟩ := List.mem_map.1 h
  exact ⟨x, hx, rfl⟩
theorem Zs8 {raw : List Cus} (hn : (raw.map Cus.name).Nodup) (hne : [] ∉ raw.map Cus.name) {lk lk' : Lk} (h : Sol raw lk) (h' : Sol raw lk') : lk = lk' := by
  classical
  funext n
  by_cases hd : ∃ x ∈ raw, lk x.name ≠ lk' x.name
  · exfalso
    let S := (raw.map Cus.name).filter fun n => decide (lk n ≠ lk' n)
    have hS : S ≠ [] := by
      obtain ⟨x, hx, hxd⟩ := hd
      intro e
      have : x.name ∈ S := List.mem_filter.2 ⟨List.mem_map.2 ⟨x, hx, rfl⟩, by simpa using hxd⟩
      rw [e] at this
      simp at this
    obtain ⟨m, hm, hmx⟩ := Zve (R := Path (Zbq raw)) (fun h k => h.trans k) S hS fun a ha hp => by
      have := (List.mem_filter.1 ha).2
      simp only [decide_eq_true_eq] at this
      exact this ((h.loop a hp).trans (h'.loop a hp).symm)
    obtain ⟨hmr, hmd⟩ := List.mem_filter.1 hm
    simp only [decide_eq_true_eq] at hmd
    obtain ⟨x, hx, rfl⟩ := Zrj hmr
    have hc : ¬ ZoK raw x.name := fun hp => hmd ((h.loop _ hp).trans (h'.loop _ hp).symm)
    refine hmd ?_
    rw [h.val x hx hc, h'.val x hx hc]
    refine Zi2 ⟨(h.out _ hne).trans (h'.out _ hne).symm, fun u hu => ?_⟩
    by_cases hu2 : u ∈ raw.map Cus.name
    · by_cases hu3 : lk u = lk' u
      · exact hu3
      · exact absurd (Path.one ((ZhP hn hx).2 ⟨hu, hu2⟩)) (hmx u (List.mem_filter.2 ⟨hu2, by simpa using hu3⟩))
    · rw [h.out u hu2, h'.out u hu2]
  · by_cases h1 : n ∈ raw.map Cus.name
    · obtain ⟨x, hx, rfl⟩ := Zrj h1
      by_cases h2 : lk x.name = lk' x.name
      · exact h2
      · exact absurd ⟨x, hx, h2⟩ hd
    · rw [h.out n h1, h'.out n h1]
end Go.Tev.S1
namespace Go.Tev.S1
open Go.Abs Go.Proofs
theorem mget_iff {β : Type} {a : List UInt8} : ∀ {M : List (List UInt8 × β)}, (Zbu BEq.beq a M).isSome = true ↔ a ∈ M.map Prod.fst
  | [] => by simp [Zbu]
  | (k, u) :: r => by
    simp only [Zbu, List.map_cons, List.mem_cons]
    cases e : (a == k) with
    | true => rw [beq_iff_eq] at e; simp [e]
    | false => rw [beq_eq_false_iff_ne] at e; simp only [cond_false]; rw [mget_iff]; simp [e]
theorem Zhe {β : Type} {a : List UInt8} {M : List (List UInt8 × β)} (h : a ∉ M.map Prod.fst) : Zbu BEq.beq a M = none := by
  cases e : Zbu BEq.beq a M with
  | none => rfl
  | some u => exact absurd (mget_iff.1 (by rw [e]; rfl)) h
theorem Zqb (a k : List UInt8) (v : List Val) : ∀ M : Mv, Zbu BEq.beq a (M ++ [(k, v)]) = match Zbu BEq.beq a M with
    | some u => some u
    | none => if a = k then some v else none
  | [] => by
    simp only [List.nil_append, Zbu]
    by_cases e : a = k
    · subst e; simp
    · have e2 : (a == k) = false := by simpa using e
      rw [e2, if_neg e]; rfl
  | (k', u) :: r => by
    have ih := Zqb a k v r
    simp only [List.cons_append, Zbu]
    cases (a == k') with
    | true => rfl
    | false => simpa using ih
theorem Zss {Sv : Mv} {x : Cus} (h : x.name ∉ Sv.map Prod.fst) (n : List UInt8) : lkM (ZtK Sv x) n = if n = x.name then ZoL (lkM Sv) x else lkM Sv n := by
  unfold ZtK ZoL
  cases e : decide ((ZfG (lkM Sv) x.val).2 = 0) && decide ((Zaz (ZfG (lkM Sv) x.val).1 : Int) ≤ 2000) with
  | false =>
    simp only [cond_false]
    split
    · rename_i h2; rw [h2]; exact Zhe h
    · rfl
  | true =>
    simp only [cond_true, lkM]
    rw [Zqb]
    split
    · rename_i u hu
      split
      · rename_i h2
        rw [h2, Zhe h] at hu
        cases hu
      · exact hu.symm
    · rename_i hu
      split
      · rfl
      · exact hu.symm
structure Jv (raw : List Cus) (Sv Op : Mv) : Prop where
  opn : ∀ a ∈ Op.map Prod.fst, a ∈ raw.map Cus.name ∧ ¬ ZoK raw a
  svn : ∀ a ∈ Sv.map Prod.fst, a ∈ raw.map Cus.name ∧ ¬ ZoK raw a ∧ a ∉ Op.map Prod.fst
  clo : ∀ x ∈ raw, ¬ ZoK raw x.name → x.name ∉ Op.map Prod.fst → lkM Sv x.name = ZoL (lkM Sv) x ∧ ∀ u ∈ Zbt x.val, u ∉ Op.map Prod.fst
theorem ready_iff {Op : Mv} {x : Cus} : ZcN Op x = true ↔ x.name ∈ Op.map Prod.fst ∧ ∀ u ∈ Zbt x.val, u ∉ Op.map Prod.fst := by
  unfold ZcN
  rw [Bool.and_eq_true, mget_iff, Bool.not_eq_true', ← Bool.not_eq_true, List.any_eq_true]
  constructor
  · rintro ⟨h1, h2⟩
    refine ⟨h1, fun u hu hm => h2 ?_⟩
    obtain ⟨p, hp, rfl⟩ := List.mem_map.1 (mem_col.2 hu)
    exact ⟨p, hp, mget_iff.2 hm⟩
  · rintro ⟨h1, h2⟩
    refine ⟨h1, ?_⟩
    rintro ⟨p, hp, hm⟩
    exact h2 p.1 (mem_col.1 (List.mem_map.2 ⟨p, hp, rfl⟩)) (mget_iff.1 hm)
theorem ZtX {raw : List Cus} (hn : (raw.map Cus.name).Nodup) {O : List (List UInt8)} (hO : ∀ a ∈ O, a ∈ raw.map Cus.name ∧ ¬ ZoK raw a) (hne : O ≠ []) : ∃ x ∈ raw, x.name ∈ O ∧ ∀ u ∈ Zbt x.val, u ∉ O := by
  obtain ⟨m, hm, hmx⟩ := Zve (R := Path (Zbq raw)) (fun h k => h.trans k) O hne (fun a ha => (hO a ha).2)
  obtain ⟨x, hx, rfl⟩ := Zrj (hO m hm).1
  exact ⟨x, hx, hm, fun u hu huO => hmx u huO (.one ((ZhP hn hx).2 ⟨hu, (hO u huO).1⟩))⟩
theorem Jv.step {raw : List Cus} (hne : [] ∉ raw.map Cus.name) {Sv Op : Mv} (J : Jv raw Sv Op) {x : Cus} (hx : x ∈ raw) (hinj : ∀ y ∈ raw, y.name = x.name → y = x) (h : ZcN Op x = true) : Jv raw (ZtK Sv x) (rmv x.name Op) := by
  obtain ⟨h1, h2⟩ := ready_iff.1 h
  have hxs : x.name ∉ Sv.map Prod.fst := fun hm => (J.svn _ hm).2.2 h1
  have agree : ∀ y : Cus, (∀ u ∈ Zbt y.val, u ≠ x.name) → Agree (lkM (ZtK Sv x)) (lkM Sv) y.val := fun y hy => by
    refine ⟨?_, fun u hu => ?_⟩
    · rw [Zss hxs, if_neg]
      intro e
      exact hne (e ▸ (J.opn _ h1).1)
    · rw [Zss hxs, if_neg (hy u hu)]
  refine ⟨fun a ha => J.opn a (rmv_names.1 ha).1, fun a ha => ?_, fun y hy hc hyo => ?_⟩
  · rcases ZmL Sv x a ha with h3 | rfl
    · obtain ⟨g1, g2, g3⟩ := J.svn a h3
      exact ⟨g1, g2, fun h4 => g3 (rmv_names.1 h4).1⟩
    · exact ⟨(J.opn _ h1).1, (J.opn _ h1).2, fun h4 => (rmv_names.1 h4).2 rfl⟩
  · by_cases e : y.name = x.name
    · have := hinj y hy e
      subst this
      refine ⟨?_, fun u hu hm => h2 u hu (rmv_names.1 hm).1⟩
      rw [Zss hxs, if_pos rfl]
      exact (Zi2 (agree y fun u hu e => h2 u hu (e ▸ h1))).symm
    · obtain ⟨g1, g2⟩ := J.clo y hy hc (fun hm => hyo (rmv_names.2 ⟨hm, e⟩))
      refine ⟨?_, fun u hu hm => g2 u hu (rmv_names.1 hm).1⟩
      rw [Zss hxs, if_neg e, g1]
      exact (Zi2 (agree y fun u hu e => g2 u hu (e ▸ h1))).symm
theorem Jv.done {raw : List Cus} {Sv : Mv} (J : Jv raw Sv []) : Sol raw (lkM Sv) := by
  refine ⟨fun n hn => Zhe fun hm => hn (J.svn n hm).1, fun n hc => Zhe fun hm => (J.svn n hm).2.1 hc, fun x hx hc => (J.clo x hx hc (by simp)).1⟩
theorem YdA {raw : List Cus} (hn : (raw.map Cus.name).Nodup) {x : Cus} (hx : x ∈ raw) : ∀ y ∈ raw, y.name = x.name → y = x := by
  intro y hy e
  obtain ⟨i, hi, rfl⟩ := List.mem_iff_getElem.1 hx
  obtain ⟨j, hj, rfl⟩ := List.mem_iff_getElem.1 hy
  have := (List.getElem_inj hn (i := j) (j := i) (h₀ := by simpa using hj) (h₁ := by simpa using hi)).1 (by simpa using e)
  subst this; rfl
theorem Zur {raw : List Cus} (hn : (raw.map Cus.name).Nodup) (hne : [] ∉ raw.map Cus.name) : ∀ (n : Nat) (Sv Op : Mv), Jv raw Sv Op → Op.length ≤ n → Sol raw (lkM (ZhE raw n Sv Op)) := by
  intro n
  induction n with
  | zero =>
    intro Sv Op J h
    have : Op = [] := List.eq_nil_of_length_eq_zero (by omega)
    subst this
    exact J.done
  | succ n ih =>
    intro Sv Op J h
    simp only [ZhE]
    cases hf : raw.find? (ZcN Op) with
    | some x =>
      have hr := List.find?_some hf
      have hx := List.mem_of_find?_eq_some hf
      have hlt := Yai (ready_iff.1 hr).1
      exact ih _ _ (J.step hne hx (YdA hn hx) hr) (by omega)
    | none =>
      have : Op = [] := by
        apply Classical.byContradiction
        intro ho
        obtain ⟨x, hx, h1, h2⟩ := ZtX hn (O := Op.map Prod.fst) J.opn (by simpa using ho)
        have := (List.find?_eq_none.1 hf) x hx
        exact this (ready_iff.2 ⟨h1, h2⟩)
      subst this
      exact J.done
theorem open0_names {raw : List Cus} {a : List UInt8} : a ∈ (Zi1 raw).map Prod.fst ↔ a ∈ raw.map Cus.name ∧ ¬ ZoK raw a := by
  unfold Zi1 ZmX ZbI ZoK
  simp only [List.mem_map, List.mem_filter, decide_eq_true_eq, Prod.mk.injEq, not_exists, not_and]
  constructor
  · rintro ⟨p, ⟨⟨x, hx, rfl⟩, h⟩, rfl⟩
    exact ⟨⟨x, hx, rfl⟩, fun hp => h x hx rfl hp⟩
  · rintro ⟨⟨x, hx, rfl⟩, h⟩
    refine ⟨(x.name, x.val), ⟨⟨x, hx, rfl⟩, fun y hy e hp => h ?_⟩, rfl⟩
    have e : y.name = x.name := e
    rw [← e]; exact hp
theorem Zja {raw : List Cus} (hn : (raw.map Cus.name).Nodup) (hne : [] ∉ raw.map Cus.name) : Sol raw (lkM (Zcy raw)) := by
  refine Zur hn hne _ _ _ ⟨fun a ha => open0_names.1 ha, fun a ha => by simp at ha, fun x hx hc ho => absurd (open0_names.2 ⟨List.mem_map.2 ⟨x, hx, rfl⟩, hc⟩) ho⟩ (Nat.le_refl _)
theorem Yb2 {raw : List Cus} (hn : (raw.map Cus.name).Nodup) {Sv : Mv} (h : ∀ n, n ∉ raw.map Cus.name → lkM Sv n = none) (n : List UInt8) : lkC (Zfr raw Sv) n = lkM Sv n := by
  by_cases hr : n ∈ raw.map Cus.name
  · clear h
    induction raw with
    | nil => simp at hr
    | cons y r ih =>
      rw [List.map_cons, List.nodup_cons] at hn
      have hcons : Zfr (y :: r) Sv = (match Zbu BEq.beq y.name Sv with
        | some v => ⟨y.name, v⟩ :: Zfr r Sv
        | none => Zfr r Sv) := by
        unfold Zfr
        rw [List.filterMap_cons]
        cases Zbu BEq.beq y.name Sv <;> rfl
      rw [hcons]
      by_cases e : n = y.name
      · subst e
        cases hm : Zbu BEq.beq y.name Sv with
        | some v =>
          simp only [lkC]
          rw [if_pos (by simp)]
          exact hm.symm
        | none =>
          have : ∀ r : List Cus, y.name ∉ r.map Cus.name → lkC (Zfr r Sv) y.name = none := by
            intro r
            induction r with
            | nil => intro _; rfl
            | cons z r ih2 =>
              intro hz
              simp only [List.map_cons, List.mem_cons, not_or] at hz
              have hcons : Zfr (z :: r) Sv = (match Zbu BEq.beq z.name Sv with
                | some v => ⟨z.name, v⟩ :: Zfr r Sv
                | none => Zfr r Sv) := by
                unfold Zfr
                rw [List.filterMap_cons]
                cases Zbu BEq.beq z.name Sv <;> rfl
              rw [hcons]
              cases Zbu BEq.beq z.name Sv with
              | none => exact ih2 hz.2
              | some v =>
                simp only [lkC]
                rw [if_neg (by simpa using fun e => hz.1 e.symm)]
                exact ih2 hz.2
          simp only
          rw [this r hn.1]
          exact hm.symm
      · rw [List.map_cons, List.mem_cons] at hr
        have hr' := hr.resolve_left e
        cases hm : Zbu BEq.beq y.name Sv with
        | some v =>
          simp only [lkC]
          rw [if_neg (by simpa using fun h => e h.symm)]
          exact ih hn.2 hr'
        | none => exact ih hn.2 hr'
  · rw [h n hr]
    cases e : lkC (Zfr raw Sv) n with
    | none => rfl
    | some v =>
      exfalso
      have : ∀ c : List Cus, lkC c n = some v → n ∈ c.map Cus.name := by
        intro c
        induction c with
        | nil => intro h; cases h
        | cons y c ih =>
          intro h
          simp only [lkC] at h
          split at h
          · rename_i h2; rw [beq_iff_eq] at h2; simp [h2]
          · exact List.mem_cons_of_mem _ (ih h)
      have := this _ e
      obtain ⟨x, hx, rfl⟩ := List.mem_map.1 this
      unfold Zfr at hx
      obtain ⟨y, hy, hxy⟩ := List.mem_filterMap.1 hx
      cases hm : Zbu BEq.beq y.name Sv with
      | none => rw [hm] at hxy; cases hxy
      | some u => rw [hm] at hxy; cases hxy; exact hr (List.mem_map.2 ⟨y, hy, rfl⟩)
def Srt (c : List Cus) : Prop := c.Pairwise fun a b => Op.bytesLess a.name b.name = true
end Go.Tev.S1
